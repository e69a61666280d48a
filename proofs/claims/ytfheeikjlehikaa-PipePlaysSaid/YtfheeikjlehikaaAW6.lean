/- The functions compute that (printed by a program). -/
import Derived.Test.YtfheeikjlehikaaAD6
import Derived.Test.YtfheeikjlehikaaAEnvC
import Derived.KernelRfl
namespace Go.Proofs.Ytfheeikjlehikaa
open Go.Abs
set_option maxRecDepth 100000
set_option maxHeartbeats 4000000
set_option linter.unusedVariables false
abbrev S35 : List (Nat × Pat × Sp) := []
theorem hS35 : SpecOK E (ofL S35) := specOK_nil
abbrev L35 : List (Nat × List Nat × Pat × LSp) := []
def sp35 : Sp := fun args τ K => asNil args <| asNil τ <| c35  (fun z1 z2 z3 z4 z5 => K (.ptr 0 0 []) [.one (.pair (.pair (.int .i64) (.pair (.int .i64) (.pair (.int .i64) (.pair (.arr 16 (.int .i64)) (.pair (.sl (.int .i64)) .unit))))) (.pair (.int .i64) .unit)) (.agg [.agg [I z1, I z2, I z3, .d (.arr 16 (.int .i64)) z4, .nils (.int .i64)], I z5])])
theorem h35 : ∀ args τ K, sp35 args τ K → ACall E 35 args τ K := by
  intro args τ K h0
  unfold sp35 at h0
  obtain ⟨rfl, h1⟩ := asNil_inv h0; clear h0
  obtain ⟨rfl, h2⟩ := asNil_inv h1; clear h1
  exact ACall.spec2 (fn := Try.f35) (c := codeOf Try.f35) (S := ofL S35) (L := lofL L35) hS35 (by kernel_rfl) (by kernel_rfl) (inlOK _) (all_eq (by kernel_rfl : subsOf (E.info 35).keep (codeOf Try.f35) = []) (all_nil)) (by kernel_rfl) h2.of

abbrev Sl174r4 : List (Nat × Pat × Sp) := []
theorem hSl174r4 : SpecOK E (ofL Sl174r4) := specOK_nil
abbrev Ll174r4 : List (Nat × List Nat × Pat × LSp) := []
def lsl174r4 : LSp := fun vs σ K => asCons vs fun a1 r1 => asP (.ptr 0 0 []) a1 <| asCons r1 fun a2 r2 => asD (.arr 16 (.int .i64)) a2 fun s1 => asCons r2 fun a3 r3 => asD (.int .i64) a3 fun s2 => asNil r3 <| asCons σ fun a4 r4 => asOne (.pair (.int .i64) (.pair (.int .i64) (.pair (.int .i64) (.pair (.arr 16 (.int .i64)) (.pair (.sl (.int .i64)) .unit))))) a4 fun a5 => asD (.pair (.int .i64) (.pair (.int .i64) (.pair (.int .i64) (.pair (.arr 16 (.int .i64)) (.pair (.sl (.int .i64)) .unit))))) a5 fun s3 => asNil r4 <| l174r4 (fun z1 => K .ret [(1, .undef), (2, I z1)] []) (fun z1 => K (.exit 0) [(1, .ptr 0 0 []), (2, .undef)] [.one (.pair (.int .i64) (.pair (.int .i64) (.pair (.int .i64) (.pair (.arr 16 (.int .i64)) (.pair (.sl (.int .i64)) .unit))))) (.d (.pair (.int .i64) (.pair (.int .i64) (.pair (.int .i64) (.pair (.arr 16 (.int .i64)) (.pair (.sl (.int .i64)) .unit))))) z1)]) s1 s2 s3
theorem l174r4v : LoopV E (inlF (PA (ACall E)) E 8) (E.info 174).keep 0 Try.f174.ntmps 175000004 (body Try.f174 4) ([1, 28, 29], lsl174r4) := by
  intro vs σ K (h0 : lsl174r4 vs σ K)
  unfold lsl174r4 at h0
  obtain ⟨a1, r1, rfl, h1⟩ := asCons_inv h0; clear h0
  obtain ⟨rfl, h2⟩ := asP_inv h1; clear h1
  obtain ⟨a2, r2, rfl, h3⟩ := asCons_inv h2; clear h2
  obtain ⟨s1, rfl, h4⟩ := asD_inv h3; clear h3
  obtain ⟨a3, r3, rfl, h5⟩ := asCons_inv h4; clear h4
  obtain ⟨s2, rfl, h6⟩ := asD_inv h5; clear h5
  obtain ⟨rfl, h7⟩ := asNil_inv h6; clear h6
  obtain ⟨a4, r4, rfl, h8⟩ := asCons_inv h7; clear h7
  obtain ⟨a5, rfl, h9⟩ := asOne_inv h8; clear h8
  obtain ⟨s3, rfl, h10⟩ := asD_inv h9; clear h9
  obtain ⟨rfl, h11⟩ := asNil_inv h10; clear h10
  intro J hJ
  have hp : ∀ c' ∈ subsOf (E.info 174).keep (body Try.f174 4), SubOK E (inlF (PA (ACall E)) E 8) (E.info 174).keep 0 Try.f174.ntmps (lofL Ll174r4) c' := all_eq (by kernel_rfl : subsOf (E.info 174).keep (body Try.f174 4) = []) (all_nil)
  exact h11.of (fun s1 s2 s3 => J [(175000004, .undef), (1, .ptr 0 0 []), (28, .d (.arr 16 (.int .i64)) s1), (29, I s2)] [.one (.pair (.int .i64) (.pair (.int .i64) (.pair (.int .i64) (.pair (.arr 16 (.int .i64)) (.pair (.sl (.int .i64)) .unit))))) (.d (.pair (.int .i64) (.pair (.int .i64) (.pair (.int .i64) (.pair (.arr 16 (.int .i64)) (.pair (.sl (.int .i64)) .unit))))) s3)]) (fun s1 s2 s3 hb => loop_round2 (S := ofL Sl174r4) (L := lofL Ll174r4) hSl174r4 (inlOK _) hp hJ (by kernel_rfl) hb)

abbrev Sl174r11 : List (Nat × Pat × Sp) := []
theorem hSl174r11 : SpecOK E (ofL Sl174r11) := specOK_nil
abbrev Ll174r11 : List (Nat × List Nat × Pat × LSp) := []
def lsl174r11 : LSp := fun vs σ K => asCons vs fun a1 r1 => asD (.int .i64) a1 fun s1 => asCons r1 fun a2 r2 => asD (.sl (.int .i64)) a2 fun s2 => asCons r2 fun a3 r3 => asD (.int .i64) a3 fun s3 => asCons r3 fun a4 r4 => asD (.int .i64) a4 fun s4 => asNil r4 <| asNil σ <| l174r11 (fun z1 => K .ret [(2, I z1)] []) (K (.exit 2) [(2, .undef)] []) s1 s2 s3 s4
theorem l174r11v : LoopV E (inlF (PA (ACall E)) E 8) (E.info 174).keep 0 Try.f174.ntmps 175000011 (body Try.f174 11) ([5, 39, 40, 41], lsl174r11) := by
  intro vs σ K (h0 : lsl174r11 vs σ K)
  unfold lsl174r11 at h0
  obtain ⟨a1, r1, rfl, h1⟩ := asCons_inv h0; clear h0
  obtain ⟨s1, rfl, h2⟩ := asD_inv h1; clear h1
  obtain ⟨a2, r2, rfl, h3⟩ := asCons_inv h2; clear h2
  obtain ⟨s2, rfl, h4⟩ := asD_inv h3; clear h3
  obtain ⟨a3, r3, rfl, h5⟩ := asCons_inv h4; clear h4
  obtain ⟨s3, rfl, h6⟩ := asD_inv h5; clear h5
  obtain ⟨a4, r4, rfl, h7⟩ := asCons_inv h6; clear h6
  obtain ⟨s4, rfl, h8⟩ := asD_inv h7; clear h7
  obtain ⟨rfl, h9⟩ := asNil_inv h8; clear h8
  obtain ⟨rfl, h10⟩ := asNil_inv h9; clear h9
  intro J hJ
  have hp : ∀ c' ∈ subsOf (E.info 174).keep (body Try.f174 11), SubOK E (inlF (PA (ACall E)) E 8) (E.info 174).keep 0 Try.f174.ntmps (lofL Ll174r11) c' := all_eq (by kernel_rfl : subsOf (E.info 174).keep (body Try.f174 11) = []) (all_nil)
  exact h10.of (fun s1 s2 s3 s4 => J [(175000011, .undef), (5, I s1), (39, .d (.sl (.int .i64)) s2), (40, I s3), (41, I s4)] []) (fun s1 s2 s3 s4 hb => loop_round2 (S := ofL Sl174r11) (L := lofL Ll174r11) hSl174r11 (inlOK _) hp hJ (by kernel_rfl) hb)

abbrev S174 : List (Nat × Pat × Sp) := []
theorem hS174 : SpecOK E (ofL S174) := specOK_nil
abbrev L174 : List (Nat × List Nat × Pat × LSp) := [(175000004, [1, 28, 29], none, lsl174r4), (175000011, [5, 39, 40, 41], none, lsl174r11)]
def sp174 : Sp := fun args τ K => asCons args fun a1 r1 => asD (.pair (.int .i64) (.pair (.int .i64) (.pair (.int .i64) (.pair (.arr 16 (.int .i64)) (.pair (.sl (.int .i64)) .unit))))) a1 fun x1 => asNil r1 <| asNil τ <| c174 x1 (fun z1 => K (I z1) [])
theorem h174 : ∀ args τ K, sp174 args τ K → ACall E 174 args τ K := by
  intro args τ K h0
  unfold sp174 at h0
  obtain ⟨a1, r1, rfl, h1⟩ := asCons_inv h0; clear h0
  obtain ⟨x1, rfl, h2⟩ := asD_inv h1; clear h1
  obtain ⟨rfl, h3⟩ := asNil_inv h2; clear h2
  obtain ⟨rfl, h4⟩ := asNil_inv h3; clear h3
  exact ACall.spec2 (fn := Try.f174) (c := codeOf Try.f174) (S := ofL S174) (L := lofL L174) hS174 (by kernel_rfl) (by kernel_rfl) (inlOK _) (all_eq (by kernel_rfl : subsOf (E.info 174).keep (codeOf Try.f174) = [.loop (body Try.f174 4), .loop (body Try.f174 11)]) (all_cons (loopOK_of (mk := 175000004) (sl := [1, 28, 29]) (ss := [([1, 28, 29], lsl174r4)]) (by kernel_rfl) (by kernel_rfl) (all_cons l174r4v (all_nil))) (all_cons (loopOK_of (mk := 175000011) (sl := [5, 39, 40, 41]) (ss := [([5, 39, 40, 41], lsl174r11)]) (by kernel_rfl) (by kernel_rfl) (all_cons l174r11v (all_nil))) (all_nil)))) (by kernel_rfl) h4.of

abbrev S218 : List (Nat × Pat × Sp) := []
theorem hS218 : SpecOK E (ofL S218) := specOK_nil
abbrev L218 : List (Nat × List Nat × Pat × LSp) := []
def sp218 : Sp := fun args τ K => asCons args fun a1 r1 => asD (.int .i64) a1 fun x1 => asCons r1 fun a2 r2 => asD (.int .i64) a2 fun x2 => asCons r2 fun a3 r3 => asD (.int .i64) a3 fun x3 => asNil r3 <| asNil τ <| c218 x1 x2 x3 (fun z1 => K (B z1) [])
theorem h218 : ∀ args τ K, sp218 args τ K → ACall E 218 args τ K := by
  intro args τ K h0
  unfold sp218 at h0
  obtain ⟨a1, r1, rfl, h1⟩ := asCons_inv h0; clear h0
  obtain ⟨x1, rfl, h2⟩ := asD_inv h1; clear h1
  obtain ⟨a2, r2, rfl, h3⟩ := asCons_inv h2; clear h2
  obtain ⟨x2, rfl, h4⟩ := asD_inv h3; clear h3
  obtain ⟨a3, r3, rfl, h5⟩ := asCons_inv h4; clear h4
  obtain ⟨x3, rfl, h6⟩ := asD_inv h5; clear h5
  obtain ⟨rfl, h7⟩ := asNil_inv h6; clear h6
  obtain ⟨rfl, h8⟩ := asNil_inv h7; clear h7
  exact ACall.spec2 (fn := Try.f218) (c := codeOf Try.f218) (S := ofL S218) (L := lofL L218) hS218 (by kernel_rfl) (by kernel_rfl) (inlOK _) (all_eq (by kernel_rfl : subsOf (E.info 218).keep (codeOf Try.f218) = []) (all_nil)) (by kernel_rfl) h8.of

abbrev S219 : List (Nat × Pat × Sp) := []
theorem hS219 : SpecOK E (ofL S219) := specOK_nil
abbrev L219 : List (Nat × List Nat × Pat × LSp) := []
def sp219 : Sp := fun args τ K => asCons args fun a1 r1 => asD (.int .i64) a1 fun x1 => asNil r1 <| asNil τ <| c219 x1 (fun z1 => K (.d (.pair .bool (.pair .bool (.pair .bool (.pair .bool .unit)))) z1) [])
theorem h219 : ∀ args τ K, sp219 args τ K → ACall E 219 args τ K := by
  intro args τ K h0
  unfold sp219 at h0
  obtain ⟨a1, r1, rfl, h1⟩ := asCons_inv h0; clear h0
  obtain ⟨x1, rfl, h2⟩ := asD_inv h1; clear h1
  obtain ⟨rfl, h3⟩ := asNil_inv h2; clear h2
  obtain ⟨rfl, h4⟩ := asNil_inv h3; clear h3
  exact ACall.spec2 (fn := Try.f219) (c := codeOf Try.f219) (S := ofL S219) (L := lofL L219) hS219 (by kernel_rfl) (by kernel_rfl) (inlOK _) (all_eq (by kernel_rfl : subsOf (E.info 219).keep (codeOf Try.f219) = []) (all_nil)) (by kernel_rfl) h4.of

abbrev Sj175s6 : List (Nat × Pat × Sp) := []
theorem hSj175s6 : SpecOK E (ofL Sj175s6) := specOK_nil
abbrev Lj175s6 : List (Nat × List Nat × Pat × LSp) := []
def lsj175s6 : LSp := fun vs σ K => asCons vs fun a1 r1 => asP (.ptr 0 0 []) a1 <| asCons r1 fun a2 r2 => asD .bool a2 fun s1 => asNil r2 <| asCons σ fun a3 r3 => asOne opT a3 fun a4 => asD opT a4 fun s2 => asNil r3 <| j175s6 (fun z1 => K .ret [(1, .undef), (2, I z1)] []) (fun z1 => K .normal [(1, .ptr 0 0 []), (2, .undef)] [.one opT (.d opT z1)]) s1 s2
theorem j175s6v : JoinV E (inlF (PA (ACall E)) E 8) (E.info 175).keep 0 Try.f175.ntmps 176500006 5000006 (jbody Try.f175 5000006) ([1, 70], lsj175s6) := by
  intro vs σ K (h0 : lsj175s6 vs σ K)
  unfold lsj175s6 at h0
  obtain ⟨a1, r1, rfl, h1⟩ := asCons_inv h0; clear h0
  obtain ⟨rfl, h2⟩ := asP_inv h1; clear h1
  obtain ⟨a2, r2, rfl, h3⟩ := asCons_inv h2; clear h2
  obtain ⟨s1, rfl, h4⟩ := asD_inv h3; clear h3
  obtain ⟨rfl, h5⟩ := asNil_inv h4; clear h4
  obtain ⟨a3, r3, rfl, h6⟩ := asCons_inv h5; clear h5
  obtain ⟨a4, rfl, h7⟩ := asOne_inv h6; clear h6
  obtain ⟨s2, rfl, h8⟩ := asD_inv h7; clear h7
  obtain ⟨rfl, h9⟩ := asNil_inv h8; clear h8
  exact join_round2 (S := ofL Sj175s6) (L := lofL Lj175s6) hSj175s6 (inlOK _) (all_eq (by kernel_rfl : subsOf (E.info 175).keep (jbody Try.f175 5000006) = []) (all_nil)) (by kernel_rfl) h9.of

abbrev Sj175s8 : List (Nat × Pat × Sp) := []
theorem hSj175s8 : SpecOK E (ofL Sj175s8) := specOK_nil
abbrev Lj175s8 : List (Nat × List Nat × Pat × LSp) := []
def lsj175s8 : LSp := fun vs σ K => asCons vs fun a1 r1 => asD .bool a1 fun s1 => asNil r1 <| asNil σ <| j175s8 (fun z1 => K .ret [(2, I z1)] []) (K .normal [(2, .undef)] []) s1
theorem j175s8v : JoinV E (inlF (PA (ACall E)) E 8) (E.info 175).keep 0 Try.f175.ntmps 176500008 5000008 (jbody Try.f175 5000008) ([106], lsj175s8) := by
  intro vs σ K (h0 : lsj175s8 vs σ K)
  unfold lsj175s8 at h0
  obtain ⟨a1, r1, rfl, h1⟩ := asCons_inv h0; clear h0
  obtain ⟨s1, rfl, h2⟩ := asD_inv h1; clear h1
  obtain ⟨rfl, h3⟩ := asNil_inv h2; clear h2
  obtain ⟨rfl, h4⟩ := asNil_inv h3; clear h3
  exact join_round2 (S := ofL Sj175s8) (L := lofL Lj175s8) hSj175s8 (inlOK _) (all_eq (by kernel_rfl : subsOf (E.info 175).keep (jbody Try.f175 5000008) = []) (all_nil)) (by kernel_rfl) h4.of

abbrev Sj175r10 : List (Nat × Pat × Sp) := []
theorem hSj175r10 : SpecOK E (ofL Sj175r10) := specOK_nil
abbrev Lj175r10 : List (Nat × List Nat × Pat × LSp) := []
def lsj175r10 : LSp := fun vs σ K => asNil vs <| asNil σ <| j175r10 (fun z1 => K .ret [(2, I z1)] []) 
theorem j175r10v : JoinV E (inlF (PA (ACall E)) E 8) (E.info 175).keep 0 Try.f175.ntmps 176400010 4000010 (jbody Try.f175 4000010) ([], lsj175r10) := by
  intro vs σ K (h0 : lsj175r10 vs σ K)
  unfold lsj175r10 at h0
  obtain ⟨rfl, h1⟩ := asNil_inv h0; clear h0
  obtain ⟨rfl, h2⟩ := asNil_inv h1; clear h1
  exact join_round2 (S := ofL Sj175r10) (L := lofL Lj175r10) hSj175r10 (inlOK _) (all_eq (by kernel_rfl : subsOf (E.info 175).keep (jbody Try.f175 4000010) = []) (all_nil)) (by kernel_rfl) h2.of

abbrev Sj175r8 : List (Nat × Pat × Sp) := [(218, none, sp218)]
theorem hSj175r8 : SpecOK E (ofL Sj175r8) := specOK_cons h218 (specOK_nil)
abbrev Lj175r8 : List (Nat × List Nat × Pat × LSp) := [(176500008, [106], none, lsj175s8), (176400010, [], none, lsj175r10)]
def lsj175r8 : LSp := fun vs σ K => asCons vs fun a1 r1 => asP (.ptr 0 0 []) a1 <| asNil r1 <| asCons σ fun a2 r2 => asOne opT a2 fun a3 => asD opT a3 fun s1 => asNil r2 <| j175r8 (fun z1 => K .ret [(2, I z1)] []) s1
theorem j175r8v : JoinV E (inlF (PA (ACall E)) E 8) (E.info 175).keep 0 Try.f175.ntmps 176400008 4000008 (jbody Try.f175 4000008) ([1], lsj175r8) := by
  intro vs σ K (h0 : lsj175r8 vs σ K)
  unfold lsj175r8 at h0
  obtain ⟨a1, r1, rfl, h1⟩ := asCons_inv h0; clear h0
  obtain ⟨rfl, h2⟩ := asP_inv h1; clear h1
  obtain ⟨rfl, h3⟩ := asNil_inv h2; clear h2
  obtain ⟨a2, r2, rfl, h4⟩ := asCons_inv h3; clear h3
  obtain ⟨a3, rfl, h5⟩ := asOne_inv h4; clear h4
  obtain ⟨s1, rfl, h6⟩ := asD_inv h5; clear h5
  obtain ⟨rfl, h7⟩ := asNil_inv h6; clear h6
  exact join_round2 (S := ofL Sj175r8) (L := lofL Lj175r8) hSj175r8 (inlOK _) (all_eq (by kernel_rfl : subsOf (E.info 175).keep (jbody Try.f175 4000008) = [.join 4000010 (jbody Try.f175 4000010), .join 5000008 (jbody Try.f175 5000008)]) (all_cons (joinOK_of (mk := 176400010) (sl := []) (ss := [([], lsj175r10)]) (by kernel_rfl) (by kernel_rfl) (all_cons j175r10v (all_nil))) (all_cons (joinOK_of (mk := 176500008) (sl := [106]) (ss := [([106], lsj175s8)]) (by kernel_rfl) (by kernel_rfl) (all_cons j175s8v (all_nil))) (all_nil)))) (by kernel_rfl) h7.of

abbrev S175 : List (Nat × Pat × Sp) := [(218, none, sp218), (219, none, sp219)]
theorem hS175 : SpecOK E (ofL S175) := specOK_cons h218 (specOK_cons h219 (specOK_nil))
abbrev L175 : List (Nat × List Nat × Pat × LSp) := [(176500006, [1, 70], none, lsj175s6), (176400008, [1], none, lsj175r8)]
def sp175 : Sp := fun args τ K => asCons args fun a1 r1 => asD opT a1 fun x1 => asNil r1 <| asNil τ <| c175 x1 (fun z1 => K (I z1) [])
theorem h175 : ∀ args τ K, sp175 args τ K → ACall E 175 args τ K := by
  intro args τ K h0
  unfold sp175 at h0
  obtain ⟨a1, r1, rfl, h1⟩ := asCons_inv h0; clear h0
  obtain ⟨x1, rfl, h2⟩ := asD_inv h1; clear h1
  obtain ⟨rfl, h3⟩ := asNil_inv h2; clear h2
  obtain ⟨rfl, h4⟩ := asNil_inv h3; clear h3
  exact ACall.spec2 (fn := Try.f175) (c := codeOf Try.f175) (S := ofL S175) (L := lofL L175) hS175 (by kernel_rfl) (by kernel_rfl) (inlOK _) (all_eq (by kernel_rfl : subsOf (E.info 175).keep (codeOf Try.f175) = [.join 4000008 (jbody Try.f175 4000008), .join 5000006 (jbody Try.f175 5000006)]) (all_cons (joinOK_of (mk := 176400008) (sl := [1]) (ss := [([1], lsj175r8)]) (by kernel_rfl) (by kernel_rfl) (all_cons j175r8v (all_nil))) (all_cons (joinOK_of (mk := 176500006) (sl := [1, 70]) (ss := [([1, 70], lsj175s6)]) (by kernel_rfl) (by kernel_rfl) (all_cons j175s6v (all_nil))) (all_nil)))) (by kernel_rfl) h4.of

abbrev S176 : List (Nat × Pat × Sp) := []
theorem hS176 : SpecOK E (ofL S176) := specOK_nil
abbrev L176 : List (Nat × List Nat × Pat × LSp) := []
def sp176 : Sp := fun args τ K => asCons args fun a1 r1 => asD (.int .i64) a1 fun x1 => asNil r1 <| asNil τ <| c176 x1 (fun z1 => K (I z1) [])
theorem h176 : ∀ args τ K, sp176 args τ K → ACall E 176 args τ K := by
  intro args τ K h0
  unfold sp176 at h0
  obtain ⟨a1, r1, rfl, h1⟩ := asCons_inv h0; clear h0
  obtain ⟨x1, rfl, h2⟩ := asD_inv h1; clear h1
  obtain ⟨rfl, h3⟩ := asNil_inv h2; clear h2
  obtain ⟨rfl, h4⟩ := asNil_inv h3; clear h3
  exact ACall.spec2 (fn := Try.f176) (c := codeOf Try.f176) (S := ofL S176) (L := lofL L176) hS176 (by kernel_rfl) (by kernel_rfl) (inlOK _) (all_eq (by kernel_rfl : subsOf (E.info 176).keep (codeOf Try.f176) = []) (all_nil)) (by kernel_rfl) h4.of

abbrev Sl264r1 : List (Nat × Pat × Sp) := []
theorem hSl264r1 : SpecOK E (ofL Sl264r1) := specOK_nil
abbrev Ll264r1 : List (Nat × List Nat × Pat × LSp) := []
def lsl264r1 : LSp := fun vs σ K => asCons vs fun a1 r1 => asP (.ptr 0 0 []) a1 <| asCons r1 fun a2 r2 => asD (.sl (.int .i64)) a2 fun s1 => asCons r2 fun a3 r3 => asD (.int .i64) a3 fun s2 => asCons r3 fun a4 r4 => asD (.int .i64) a4 fun s3 => asNil r4 <| asCons σ fun a5 r5 => asOne (.sl (.int .i64)) a5 fun a6 => asP (.vec 1) a6 <| asCons r5 fun a7 r7 => asRw (.int .i64) false a7 fun s4 => asNil r7 <| l264r1 (fun z1 => K (.exit 0) [] [.one (.sl (.int .i64)) (.vec 1), .row (.int .i64) z1 false]) s1 s2 s3 s4
theorem l264r1v : LoopV E (inlF (PA (ACall E)) E 8) (E.info 264).keep 1 Try.f264.ntmps 265000001 (body Try.f264 1) ([1, 5, 6, 7], lsl264r1) := by
  intro vs σ K (h0 : lsl264r1 vs σ K)
  unfold lsl264r1 at h0
  obtain ⟨a1, r1, rfl, h1⟩ := asCons_inv h0; clear h0
  obtain ⟨rfl, h2⟩ := asP_inv h1; clear h1
  obtain ⟨a2, r2, rfl, h3⟩ := asCons_inv h2; clear h2
  obtain ⟨s1, rfl, h4⟩ := asD_inv h3; clear h3
  obtain ⟨a3, r3, rfl, h5⟩ := asCons_inv h4; clear h4
  obtain ⟨s2, rfl, h6⟩ := asD_inv h5; clear h5
  obtain ⟨a4, r4, rfl, h7⟩ := asCons_inv h6; clear h6
  obtain ⟨s3, rfl, h8⟩ := asD_inv h7; clear h7
  obtain ⟨rfl, h9⟩ := asNil_inv h8; clear h8
  obtain ⟨a5, r5, rfl, h10⟩ := asCons_inv h9; clear h9
  obtain ⟨a6, rfl, h11⟩ := asOne_inv h10; clear h10
  obtain ⟨rfl, h12⟩ := asP_inv h11; clear h11
  obtain ⟨a7, r7, rfl, h13⟩ := asCons_inv h12; clear h12
  obtain ⟨s4, rfl, h14⟩ := asRw_inv h13; clear h13
  obtain ⟨rfl, h15⟩ := asNil_inv h14; clear h14
  intro J hJ
  have hp : ∀ c' ∈ subsOf (E.info 264).keep (body Try.f264 1), SubOK E (inlF (PA (ACall E)) E 8) (E.info 264).keep 1 Try.f264.ntmps (lofL Ll264r1) c' := all_eq (by kernel_rfl : subsOf (E.info 264).keep (body Try.f264 1) = []) (all_nil)
  exact h15.of (fun s1 s2 s3 s4 => J [(265000001, .undef), (1, .ptr 0 0 []), (5, .d (.sl (.int .i64)) s1), (6, I s2), (7, I s3)] [.one (.sl (.int .i64)) (.vec 1), .row (.int .i64) s4 false]) (fun s1 s2 s3 s4 hb => loop_round2 (S := ofL Sl264r1) (L := lofL Ll264r1) hSl264r1 (inlOK _) hp hJ (by kernel_rfl) hb)

abbrev S264 : List (Nat × Pat × Sp) := []
theorem hS264 : SpecOK E (ofL S264) := specOK_nil
abbrev L264 : List (Nat × List Nat × Pat × LSp) := [(265000001, [1, 5, 6, 7], none, lsl264r1)]
def sp264 : Sp := fun args τ K => asCons args fun a1 r1 => asD (.sl (.int .i64)) a1 fun x1 => asCons r1 fun a2 r2 => asP (.ptr 0 0 []) a2 <| asNil r2 <| asCons τ fun a3 r3 => asOne (.sl (.int .i64)) a3 fun a4 => asP (.nils (.int .i64)) a4 <| asNil r3 <| c264 x1 (fun z1 => K (.tup []) [.one (.sl (.int .i64)) (.vec 1), .row (.int .i64) z1 false])
theorem h264 : ∀ args τ K, sp264 args τ K → ACall E 264 args τ K := by
  intro args τ K h0
  unfold sp264 at h0
  obtain ⟨a1, r1, rfl, h1⟩ := asCons_inv h0; clear h0
  obtain ⟨x1, rfl, h2⟩ := asD_inv h1; clear h1
  obtain ⟨a2, r2, rfl, h3⟩ := asCons_inv h2; clear h2
  obtain ⟨rfl, h4⟩ := asP_inv h3; clear h3
  obtain ⟨rfl, h5⟩ := asNil_inv h4; clear h4
  obtain ⟨a3, r3, rfl, h6⟩ := asCons_inv h5; clear h5
  obtain ⟨a4, rfl, h7⟩ := asOne_inv h6; clear h6
  obtain ⟨rfl, h8⟩ := asP_inv h7; clear h7
  obtain ⟨rfl, h9⟩ := asNil_inv h8; clear h8
  exact ACall.spec2 (fn := Try.f264) (c := codeOf Try.f264) (S := ofL S264) (L := lofL L264) hS264 (by kernel_rfl) (by kernel_rfl) (inlOK _) (all_eq (by kernel_rfl : subsOf (E.info 264).keep (codeOf Try.f264) = [.loop (body Try.f264 1)]) (all_cons (loopOK_of (mk := 265000001) (sl := [1, 5, 6, 7]) (ss := [([1, 5, 6, 7], lsl264r1)]) (by kernel_rfl) (by kernel_rfl) (all_cons l264r1v (all_nil))) (all_nil))) (by kernel_rfl) h9.of

abbrev Sj220r30 : List (Nat × Pat × Sp) := []
theorem hSj220r30 : SpecOK E (ofL Sj220r30) := specOK_nil
abbrev Lj220r30 : List (Nat × List Nat × Pat × LSp) := []
def lsj220r30 : LSp := fun vs σ K => asCons vs fun a1 r1 => asP (.ptr 0 0 []) a1 <| asNil r1 <| asCons σ fun a2 r2 => asOne (.sl (.int .i64)) a2 fun a3 => asP (.vec 1) a3 <| asCons r2 fun a4 r4 => asRw (.int .i64) false a4 fun s1 => asNil r4 <| j220r30 (fun z1 => K .ret [(2, .vec 0)] [.row (.int .i64) z1 false]) s1
theorem j220r30v : JoinV E (inlF (PA (ACall E)) E 8) (E.info 220).keep 0 Try.f220.ntmps 221400030 4000030 (jbody Try.f220 4000030) ([3], lsj220r30) := by
  intro vs σ K (h0 : lsj220r30 vs σ K)
  unfold lsj220r30 at h0
  obtain ⟨a1, r1, rfl, h1⟩ := asCons_inv h0; clear h0
  obtain ⟨rfl, h2⟩ := asP_inv h1; clear h1
  obtain ⟨rfl, h3⟩ := asNil_inv h2; clear h2
  obtain ⟨a2, r2, rfl, h4⟩ := asCons_inv h3; clear h3
  obtain ⟨a3, rfl, h5⟩ := asOne_inv h4; clear h4
  obtain ⟨rfl, h6⟩ := asP_inv h5; clear h5
  obtain ⟨a4, r4, rfl, h7⟩ := asCons_inv h6; clear h6
  obtain ⟨s1, rfl, h8⟩ := asRw_inv h7; clear h7
  obtain ⟨rfl, h9⟩ := asNil_inv h8; clear h8
  exact join_round2 (S := ofL Sj220r30) (L := lofL Lj220r30) hSj220r30 (inlOK _) (all_eq (by kernel_rfl : subsOf (E.info 220).keep (jbody Try.f220 4000030) = []) (all_nil)) (by kernel_rfl) h9.of

abbrev Sl264r1v2 : List (Nat × Pat × Sp) := []
theorem hSl264r1v2 : SpecOK E (ofL Sl264r1v2) := specOK_nil
abbrev Ll264r1v2 : List (Nat × List Nat × Pat × LSp) := []
def lsl264r1v2 : LSp := fun vs σ K => asCons vs fun a1 r1 => asP (.ptr 0 0 []) a1 <| asCons r1 fun a2 r2 => asD (.sl (.int .i64)) a2 fun s1 => asCons r2 fun a3 r3 => asD (.int .i64) a3 fun s2 => asCons r3 fun a4 r4 => asD (.int .i64) a4 fun s3 => asNil r4 <| asCons σ fun a5 r5 => asOne (.sl (.int .i64)) a5 fun a6 => asP (.vec 1) a6 <| asCons r5 fun a7 r7 => asRw (.int .i64) false a7 fun s4 => asNil r7 <| l264r1v2 (fun z1 => K (.exit 0) [] [.one (.sl (.int .i64)) (.vec 1), .row (.int .i64) z1 false]) (fun z1 => K (.exit 0) [] [.one (.sl (.int .i64)) (.vec 2), .dead, .row (.int .i64) z1 false]) s1 s2 s3 s4
theorem l264r1v2v : LoopV E (inlF (PA (ACall E)) E 8) (E.info 264).keep 2 Try.f264.ntmps 265000001 (body Try.f264 1) ([1, 5, 6, 7], lsl264r1v2) := by
  intro vs σ K (h0 : lsl264r1v2 vs σ K)
  unfold lsl264r1v2 at h0
  obtain ⟨a1, r1, rfl, h1⟩ := asCons_inv h0; clear h0
  obtain ⟨rfl, h2⟩ := asP_inv h1; clear h1
  obtain ⟨a2, r2, rfl, h3⟩ := asCons_inv h2; clear h2
  obtain ⟨s1, rfl, h4⟩ := asD_inv h3; clear h3
  obtain ⟨a3, r3, rfl, h5⟩ := asCons_inv h4; clear h4
  obtain ⟨s2, rfl, h6⟩ := asD_inv h5; clear h5
  obtain ⟨a4, r4, rfl, h7⟩ := asCons_inv h6; clear h6
  obtain ⟨s3, rfl, h8⟩ := asD_inv h7; clear h7
  obtain ⟨rfl, h9⟩ := asNil_inv h8; clear h8
  obtain ⟨a5, r5, rfl, h10⟩ := asCons_inv h9; clear h9
  obtain ⟨a6, rfl, h11⟩ := asOne_inv h10; clear h10
  obtain ⟨rfl, h12⟩ := asP_inv h11; clear h11
  obtain ⟨a7, r7, rfl, h13⟩ := asCons_inv h12; clear h12
  obtain ⟨s4, rfl, h14⟩ := asRw_inv h13; clear h13
  obtain ⟨rfl, h15⟩ := asNil_inv h14; clear h14
  intro J hJ
  have hp : ∀ c' ∈ subsOf (E.info 264).keep (body Try.f264 1), SubOK E (inlF (PA (ACall E)) E 8) (E.info 264).keep 2 Try.f264.ntmps (lofL Ll264r1v2) c' := all_eq (by kernel_rfl : subsOf (E.info 264).keep (body Try.f264 1) = []) (all_nil)
  exact h15.of (fun s1 s2 s3 s4 => J [(265000001, .undef), (1, .ptr 0 0 []), (5, .d (.sl (.int .i64)) s1), (6, I s2), (7, I s3)] [.one (.sl (.int .i64)) (.vec 1), .row (.int .i64) s4 false]) (fun s6 s7 s8 s9 => J [(265000001, .undef), (1, .ptr 0 0 []), (5, .d (.sl (.int .i64)) s6), (6, I s7), (7, I s8)] [.one (.sl (.int .i64)) (.vec 2), .dead, .row (.int .i64) s9 false]) (fun s1 s2 s3 s4 hb => loop_round2 (S := ofL Sl264r1v2) (L := lofL Ll264r1v2) hSl264r1v2 (inlOK _) hp hJ (by kernel_rfl) hb) (fun s6 s7 s8 s9 hb => loop_round2 (S := ofL Sl264r1v2) (L := lofL Ll264r1v2) hSl264r1v2 (inlOK _) hp hJ (by kernel_rfl) hb)

abbrev S264v2 : List (Nat × Pat × Sp) := []
theorem hS264v2 : SpecOK E (ofL S264v2) := specOK_nil
abbrev L264v2 : List (Nat × List Nat × Pat × LSp) := [(265000001, [1, 5, 6, 7], none, lsl264r1v2)]
def sp264v2 : Sp := fun args τ K => asCons args fun a1 r1 => asD (.sl (.int .i64)) a1 fun x1 => asCons r1 fun a2 r2 => asP (.ptr 0 0 []) a2 <| asNil r2 <| asCons τ fun a3 r3 => asOne (.sl (.int .i64)) a3 fun a4 => asP (.vec 1) a4 <| asCons r3 fun a5 r5 => asRw (.int .i64) false a5 fun x2 => asNil r5 <| c264v2 x1 x2 (fun z1 => K (.tup []) [.one (.sl (.int .i64)) (.vec 1), .row (.int .i64) z1 false]) (fun z1 => K (.tup []) [.one (.sl (.int .i64)) (.vec 2), .dead, .row (.int .i64) z1 false])
theorem h264v2 : ∀ args τ K, sp264v2 args τ K → ACall E 264 args τ K := by
  intro args τ K h0
  unfold sp264v2 at h0
  obtain ⟨a1, r1, rfl, h1⟩ := asCons_inv h0; clear h0
  obtain ⟨x1, rfl, h2⟩ := asD_inv h1; clear h1
  obtain ⟨a2, r2, rfl, h3⟩ := asCons_inv h2; clear h2
  obtain ⟨rfl, h4⟩ := asP_inv h3; clear h3
  obtain ⟨rfl, h5⟩ := asNil_inv h4; clear h4
  obtain ⟨a3, r3, rfl, h6⟩ := asCons_inv h5; clear h5
  obtain ⟨a4, rfl, h7⟩ := asOne_inv h6; clear h6
  obtain ⟨rfl, h8⟩ := asP_inv h7; clear h7
  obtain ⟨a5, r5, rfl, h9⟩ := asCons_inv h8; clear h8
  obtain ⟨x2, rfl, h10⟩ := asRw_inv h9; clear h9
  obtain ⟨rfl, h11⟩ := asNil_inv h10; clear h10
  exact ACall.spec2 (fn := Try.f264) (c := codeOf Try.f264) (S := ofL S264v2) (L := lofL L264v2) hS264v2 (by kernel_rfl) (by kernel_rfl) (inlOK _) (all_eq (by kernel_rfl : subsOf (E.info 264).keep (codeOf Try.f264) = [.loop (body Try.f264 1)]) (all_cons (loopOK_of (mk := 265000001) (sl := [1, 5, 6, 7]) (ss := [([1, 5, 6, 7], lsl264r1v2)]) (by kernel_rfl) (by kernel_rfl) (all_cons l264r1v2v (all_nil))) (all_nil))) (by kernel_rfl) h11.of

abbrev Sj220s19 : List (Nat × Pat × Sp) := [(264, none, sp264v2)]
theorem hSj220s19 : SpecOK E (ofL Sj220s19) := specOK_cons h264v2 (specOK_nil)
abbrev Lj220s19 : List (Nat × List Nat × Pat × LSp) := []
def lsj220s19 : LSp := fun vs σ K => asCons vs fun a1 r1 => asP (.ptr 0 0 []) a1 <| asCons r1 fun a2 r2 => asP (.ptr 1 0 []) a2 <| asCons r2 fun a3 r3 => asFn 264 a3 fun l4 l5 => asNil l4 <| asCons l5 fun a6 r6 => asP (.ptr 1 0 []) a6 <| asNil r6 <| asCons r3 fun a7 r7 => asD (.int .i64) a7 fun s1 => asCons r7 fun a8 r8 => asD .bool a8 fun s2 => asNil r8 <| asCons σ fun a9 r9 => asOne opT a9 fun a10 => asD opT a10 fun s3 => asCons r9 fun a11 r11 => asOne (.sl (.int .i64)) a11 fun a12 => asP (.vec 2) a12 <| asCons r11 fun a13 r13 => asRw (.int .i64) false a13 fun s4 => asNil r13 <| j220s19 (fun z1 => K .normal [(3, .ptr 0 0 [])] [.one (.sl (.int .i64)) (.vec 1), .row (.int .i64) z1 false]) s1 s2 s3 s4
theorem j220s19v : JoinV E (inlF (PA (ACall E)) E 8) (E.info 220).keep 0 Try.f220.ntmps 221500019 5000019 (jbody Try.f220 5000019) ([1, 3, 4, 7, 18], lsj220s19) := by
  intro vs σ K (h0 : lsj220s19 vs σ K)
  unfold lsj220s19 at h0
  obtain ⟨a1, r1, rfl, h1⟩ := asCons_inv h0; clear h0
  obtain ⟨rfl, h2⟩ := asP_inv h1; clear h1
  obtain ⟨a2, r2, rfl, h3⟩ := asCons_inv h2; clear h2
  obtain ⟨rfl, h4⟩ := asP_inv h3; clear h3
  obtain ⟨a3, r3, rfl, h5⟩ := asCons_inv h4; clear h4
  obtain ⟨l4, l5, rfl, h6⟩ := asFn_inv h5; clear h5
  obtain ⟨rfl, h7⟩ := asNil_inv h6; clear h6
  obtain ⟨a6, r6, rfl, h8⟩ := asCons_inv h7; clear h7
  obtain ⟨rfl, h9⟩ := asP_inv h8; clear h8
  obtain ⟨rfl, h10⟩ := asNil_inv h9; clear h9
  obtain ⟨a7, r7, rfl, h11⟩ := asCons_inv h10; clear h10
  obtain ⟨s1, rfl, h12⟩ := asD_inv h11; clear h11
  obtain ⟨a8, r8, rfl, h13⟩ := asCons_inv h12; clear h12
  obtain ⟨s2, rfl, h14⟩ := asD_inv h13; clear h13
  obtain ⟨rfl, h15⟩ := asNil_inv h14; clear h14
  obtain ⟨a9, r9, rfl, h16⟩ := asCons_inv h15; clear h15
  obtain ⟨a10, rfl, h17⟩ := asOne_inv h16; clear h16
  obtain ⟨s3, rfl, h18⟩ := asD_inv h17; clear h17
  obtain ⟨a11, r11, rfl, h19⟩ := asCons_inv h18; clear h18
  obtain ⟨a12, rfl, h20⟩ := asOne_inv h19; clear h19
  obtain ⟨rfl, h21⟩ := asP_inv h20; clear h20
  obtain ⟨a13, r13, rfl, h22⟩ := asCons_inv h21; clear h21
  obtain ⟨s4, rfl, h23⟩ := asRw_inv h22; clear h22
  obtain ⟨rfl, h24⟩ := asNil_inv h23; clear h23
  exact join_round2 (S := ofL Sj220s19) (L := lofL Lj220s19) hSj220s19 (inlOK _) (all_eq (by kernel_rfl : subsOf (E.info 220).keep (jbody Try.f220 5000019) = []) (all_nil)) (by kernel_rfl) h24.of

abbrev S220 : List (Nat × Pat × Sp) := [(264, none, sp264)]
theorem hS220 : SpecOK E (ofL S220) := specOK_cons h264 (specOK_nil)
abbrev L220 : List (Nat × List Nat × Pat × LSp) := [(221400030, [3], none, lsj220r30), (221500019, [1, 3, 4, 7, 18], none, lsj220s19)]
def sp220 : Sp := fun args τ K => asCons args fun a1 r1 => asD opT a1 fun x1 => asNil r1 <| asNil τ <| c220 x1 (fun z1 => K (.vec 0) [.row (.int .i64) z1 false])
theorem h220 : ∀ args τ K, sp220 args τ K → ACall E 220 args τ K := by
  intro args τ K h0
  unfold sp220 at h0
  obtain ⟨a1, r1, rfl, h1⟩ := asCons_inv h0; clear h0
  obtain ⟨x1, rfl, h2⟩ := asD_inv h1; clear h1
  obtain ⟨rfl, h3⟩ := asNil_inv h2; clear h2
  obtain ⟨rfl, h4⟩ := asNil_inv h3; clear h3
  exact ACall.spec2 (fn := Try.f220) (c := codeOf Try.f220) (S := ofL S220) (L := lofL L220) hS220 (by kernel_rfl) (by kernel_rfl) (inlOK _) (all_eq (by kernel_rfl : subsOf (E.info 220).keep (codeOf Try.f220) = [.join 4000030 (jbody Try.f220 4000030), .join 5000019 (jbody Try.f220 5000019)]) (all_cons (joinOK_of (mk := 221400030) (sl := [3]) (ss := [([3], lsj220r30)]) (by kernel_rfl) (by kernel_rfl) (all_cons j220r30v (all_nil))) (all_cons (joinOK_of (mk := 221500019) (sl := [1, 3, 4, 7, 18]) (ss := [([1, 3, 4, 7, 18], lsj220s19)]) (by kernel_rfl) (by kernel_rfl) (all_cons j220s19v (all_nil))) (all_nil)))) (by kernel_rfl) h4.of

abbrev Sl177r3 : List (Nat × Pat × Sp) := []
theorem hSl177r3 : SpecOK E (ofL Sl177r3) := specOK_nil
abbrev Ll177r3 : List (Nat × List Nat × Pat × LSp) := []
def lsl177r3 : LSp := fun vs σ K => asCons vs fun a1 r1 => asD (.int .i64) a1 fun s1 => asCons r1 fun a2 r2 => asP (.ptr 0 0 []) a2 <| asCons r2 fun a3 r3 => asP (.ptr 1 0 []) a3 <| asCons r3 fun a4 r4 => asD (.int .i64) a4 fun s2 => asCons r4 fun a5 r5 => asP (.vec 2) a5 <| asCons r5 fun a6 r6 => asD (.int .i64) a6 fun s3 => asCons r6 fun a7 r7 => asD (.int .i64) a7 fun s4 => asNil r7 <| asCons σ fun a8 r8 => asOne (.pair (.int .i64) (.pair (.int .i64) (.pair (.int .i64) (.pair (.arr 16 (.int .i64)) (.pair (.sl (.int .i64)) .unit))))) a8 fun a9 => asD (.pair (.int .i64) (.pair (.int .i64) (.pair (.int .i64) (.pair (.arr 16 (.int .i64)) (.pair (.sl (.int .i64)) .unit))))) a9 fun s5 => asCons r8 fun a10 r10 => asOne opT a10 fun a11 => asD opT a11 fun s6 => asCons r10 fun a12 r12 => asRw (.int .i64) false a12 fun s7 => asNil r12 <| l177r3 (fun z1 z2 z3 z4 => K (.exit 0) [(2, I z1), (3, .ptr 0 0 []), (4, .ptr 1 0 []), (7, I z2)] [.one (.pair (.int .i64) (.pair (.int .i64) (.pair (.int .i64) (.pair (.arr 16 (.int .i64)) (.pair (.sl (.int .i64)) .unit))))) (.d (.pair (.int .i64) (.pair (.int .i64) (.pair (.int .i64) (.pair (.arr 16 (.int .i64)) (.pair (.sl (.int .i64)) .unit))))) z3), .one opT (.d opT z4)]) s1 s2 s3 s4 s5 s6 s7
theorem l177r3v : LoopV E (inlF (PA (ACall E)) E 8) (E.info 177).keep 0 Try.f177.ntmps 178000003 (body Try.f177 3) ([2, 3, 4, 7, 14, 15, 16], lsl177r3) := by
  intro vs σ K (h0 : lsl177r3 vs σ K)
  unfold lsl177r3 at h0
  obtain ⟨a1, r1, rfl, h1⟩ := asCons_inv h0; clear h0
  obtain ⟨s1, rfl, h2⟩ := asD_inv h1; clear h1
  obtain ⟨a2, r2, rfl, h3⟩ := asCons_inv h2; clear h2
  obtain ⟨rfl, h4⟩ := asP_inv h3; clear h3
  obtain ⟨a3, r3, rfl, h5⟩ := asCons_inv h4; clear h4
  obtain ⟨rfl, h6⟩ := asP_inv h5; clear h5
  obtain ⟨a4, r4, rfl, h7⟩ := asCons_inv h6; clear h6
  obtain ⟨s2, rfl, h8⟩ := asD_inv h7; clear h7
  obtain ⟨a5, r5, rfl, h9⟩ := asCons_inv h8; clear h8
  obtain ⟨rfl, h10⟩ := asP_inv h9; clear h9
  obtain ⟨a6, r6, rfl, h11⟩ := asCons_inv h10; clear h10
  obtain ⟨s3, rfl, h12⟩ := asD_inv h11; clear h11
  obtain ⟨a7, r7, rfl, h13⟩ := asCons_inv h12; clear h12
  obtain ⟨s4, rfl, h14⟩ := asD_inv h13; clear h13
  obtain ⟨rfl, h15⟩ := asNil_inv h14; clear h14
  obtain ⟨a8, r8, rfl, h16⟩ := asCons_inv h15; clear h15
  obtain ⟨a9, rfl, h17⟩ := asOne_inv h16; clear h16
  obtain ⟨s5, rfl, h18⟩ := asD_inv h17; clear h17
  obtain ⟨a10, r10, rfl, h19⟩ := asCons_inv h18; clear h18
  obtain ⟨a11, rfl, h20⟩ := asOne_inv h19; clear h19
  obtain ⟨s6, rfl, h21⟩ := asD_inv h20; clear h20
  obtain ⟨a12, r12, rfl, h22⟩ := asCons_inv h21; clear h21
  obtain ⟨s7, rfl, h23⟩ := asRw_inv h22; clear h22
  obtain ⟨rfl, h24⟩ := asNil_inv h23; clear h23
  intro J hJ
  have hp : ∀ c' ∈ subsOf (E.info 177).keep (body Try.f177 3), SubOK E (inlF (PA (ACall E)) E 8) (E.info 177).keep 0 Try.f177.ntmps (lofL Ll177r3) c' := all_eq (by kernel_rfl : subsOf (E.info 177).keep (body Try.f177 3) = []) (all_nil)
  exact h24.of (fun s1 s2 s3 s4 s5 s6 s7 => J [(178000003, .undef), (2, I s1), (3, .ptr 0 0 []), (4, .ptr 1 0 []), (7, I s2), (14, .vec 2), (15, I s3), (16, I s4)] [.one (.pair (.int .i64) (.pair (.int .i64) (.pair (.int .i64) (.pair (.arr 16 (.int .i64)) (.pair (.sl (.int .i64)) .unit))))) (.d (.pair (.int .i64) (.pair (.int .i64) (.pair (.int .i64) (.pair (.arr 16 (.int .i64)) (.pair (.sl (.int .i64)) .unit))))) s5), .one opT (.d opT s6), .row (.int .i64) s7 false]) (fun s1 s2 s3 s4 s5 s6 s7 hb => loop_round2 (S := ofL Sl177r3) (L := lofL Ll177r3) hSl177r3 (inlOK _) hp hJ (by kernel_rfl) hb)

abbrev S178 : List (Nat × Pat × Sp) := []
theorem hS178 : SpecOK E (ofL S178) := specOK_nil
abbrev L178 : List (Nat × List Nat × Pat × LSp) := []
def sp178 : Sp := fun args τ K => asCons args fun a1 r1 => asD (.int .i64) a1 fun x1 => asNil r1 <| asNil τ <| c178 x1 (fun z1 => K (B z1) [])
theorem h178 : ∀ args τ K, sp178 args τ K → ACall E 178 args τ K := by
  intro args τ K h0
  unfold sp178 at h0
  obtain ⟨a1, r1, rfl, h1⟩ := asCons_inv h0; clear h0
  obtain ⟨x1, rfl, h2⟩ := asD_inv h1; clear h1
  obtain ⟨rfl, h3⟩ := asNil_inv h2; clear h2
  obtain ⟨rfl, h4⟩ := asNil_inv h3; clear h3
  exact ACall.spec2 (fn := Try.f178) (c := codeOf Try.f178) (S := ofL S178) (L := lofL L178) hS178 (by kernel_rfl) (by kernel_rfl) (inlOK _) (all_eq (by kernel_rfl : subsOf (E.info 178).keep (codeOf Try.f178) = []) (all_nil)) (by kernel_rfl) h4.of

abbrev S179 : List (Nat × Pat × Sp) := []
theorem hS179 : SpecOK E (ofL S179) := specOK_nil
abbrev L179 : List (Nat × List Nat × Pat × LSp) := []
def sp179 : Sp := fun args τ K => asCons args fun a1 r1 => asD opT a1 fun x1 => asNil r1 <| asNil τ <| c179 x1 (fun z1 => K (I z1) [])
theorem h179 : ∀ args τ K, sp179 args τ K → ACall E 179 args τ K := by
  intro args τ K h0
  unfold sp179 at h0
  obtain ⟨a1, r1, rfl, h1⟩ := asCons_inv h0; clear h0
  obtain ⟨x1, rfl, h2⟩ := asD_inv h1; clear h1
  obtain ⟨rfl, h3⟩ := asNil_inv h2; clear h2
  obtain ⟨rfl, h4⟩ := asNil_inv h3; clear h3
  exact ACall.spec2 (fn := Try.f179) (c := codeOf Try.f179) (S := ofL S179) (L := lofL L179) hS179 (by kernel_rfl) (by kernel_rfl) (inlOK _) (all_eq (by kernel_rfl : subsOf (E.info 179).keep (codeOf Try.f179) = []) (all_nil)) (by kernel_rfl) h4.of

abbrev Sl81r2 : List (Nat × Pat × Sp) := []
theorem hSl81r2 : SpecOK E (ofL Sl81r2) := specOK_nil
abbrev Ll81r2 : List (Nat × List Nat × Pat × LSp) := []
def lsl81r2 : LSp := fun vs σ K => asCons vs fun a1 r1 => asD (.sl (.int .i64)) a1 fun s1 => asCons r1 fun a2 r2 => asD (.int .i64) a2 fun s2 => asCons r2 fun a3 r3 => asD (.int .i64) a3 fun s3 => asCons r3 fun a4 r4 => asD (.int .i64) a4 fun s4 => asNil r4 <| asNil σ <| l81r2 (fun z1 => K .ret [(4, I z1)] []) (K (.exit 0) [(4, .undef)] []) s1 s2 s3 s4
theorem l81r2v : LoopV E (inlF (PA (ACall E)) E 8) (E.info 81).keep 0 Try.f81.ntmps 82000002 (body Try.f81 2) ([0, 1, 7, 8], lsl81r2) := by
  intro vs σ K (h0 : lsl81r2 vs σ K)
  unfold lsl81r2 at h0
  obtain ⟨a1, r1, rfl, h1⟩ := asCons_inv h0; clear h0
  obtain ⟨s1, rfl, h2⟩ := asD_inv h1; clear h1
  obtain ⟨a2, r2, rfl, h3⟩ := asCons_inv h2; clear h2
  obtain ⟨s2, rfl, h4⟩ := asD_inv h3; clear h3
  obtain ⟨a3, r3, rfl, h5⟩ := asCons_inv h4; clear h4
  obtain ⟨s3, rfl, h6⟩ := asD_inv h5; clear h5
  obtain ⟨a4, r4, rfl, h7⟩ := asCons_inv h6; clear h6
  obtain ⟨s4, rfl, h8⟩ := asD_inv h7; clear h7
  obtain ⟨rfl, h9⟩ := asNil_inv h8; clear h8
  obtain ⟨rfl, h10⟩ := asNil_inv h9; clear h9
  intro J hJ
  have hp : ∀ c' ∈ subsOf (E.info 81).keep (body Try.f81 2), SubOK E (inlF (PA (ACall E)) E 8) (E.info 81).keep 0 Try.f81.ntmps (lofL Ll81r2) c' := all_eq (by kernel_rfl : subsOf (E.info 81).keep (body Try.f81 2) = []) (all_nil)
  exact h10.of (fun s1 s2 s3 s4 => J [(82000002, .undef), (0, .d (.sl (.int .i64)) s1), (1, I s2), (7, I s3), (8, I s4)] []) (fun s1 s2 s3 s4 hb => loop_round2 (S := ofL Sl81r2) (L := lofL Ll81r2) hSl81r2 (inlOK _) hp hJ (by kernel_rfl) hb)

abbrev S81 : List (Nat × Pat × Sp) := []
theorem hS81 : SpecOK E (ofL S81) := specOK_nil
abbrev L81 : List (Nat × List Nat × Pat × LSp) := [(82000002, [0, 1, 7, 8], none, lsl81r2)]
def sp81 : Sp := fun args τ K => asCons args fun a1 r1 => asD (.sl (.int .i64)) a1 fun x1 => asCons r1 fun a2 r2 => asD (.int .i64) a2 fun x2 => asNil r2 <| asNil τ <| c81 x1 x2 (fun z1 => K (I z1) [])
theorem h81 : ∀ args τ K, sp81 args τ K → ACall E 81 args τ K := by
  intro args τ K h0
  unfold sp81 at h0
  obtain ⟨a1, r1, rfl, h1⟩ := asCons_inv h0; clear h0
  obtain ⟨x1, rfl, h2⟩ := asD_inv h1; clear h1
  obtain ⟨a2, r2, rfl, h3⟩ := asCons_inv h2; clear h2
  obtain ⟨x2, rfl, h4⟩ := asD_inv h3; clear h3
  obtain ⟨rfl, h5⟩ := asNil_inv h4; clear h4
  obtain ⟨rfl, h6⟩ := asNil_inv h5; clear h5
  exact ACall.spec2 (fn := Try.f81) (c := codeOf Try.f81) (S := ofL S81) (L := lofL L81) hS81 (by kernel_rfl) (by kernel_rfl) (inlOK _) (all_eq (by kernel_rfl : subsOf (E.info 81).keep (codeOf Try.f81) = [.loop (body Try.f81 2)]) (all_cons (loopOK_of (mk := 82000002) (sl := [0, 1, 7, 8]) (ss := [([0, 1, 7, 8], lsl81r2)]) (by kernel_rfl) (by kernel_rfl) (all_cons l81r2v (all_nil))) (all_nil))) (by kernel_rfl) h6.of

abbrev S94 : List (Nat × Pat × Sp) := [(81, none, sp81)]
theorem hS94 : SpecOK E (ofL S94) := specOK_cons h81 (specOK_nil)
abbrev L94 : List (Nat × List Nat × Pat × LSp) := []
def sp94 : Sp := fun args τ K => asCons args fun a1 r1 => asD (.sl (.int .i64)) a1 fun x1 => asCons r1 fun a2 r2 => asD (.int .i64) a2 fun x2 => asNil r2 <| asNil τ <| c94 x1 x2 (fun z1 => K (B z1) [])
theorem h94 : ∀ args τ K, sp94 args τ K → ACall E 94 args τ K := by
  intro args τ K h0
  unfold sp94 at h0
  obtain ⟨a1, r1, rfl, h1⟩ := asCons_inv h0; clear h0
  obtain ⟨x1, rfl, h2⟩ := asD_inv h1; clear h1
  obtain ⟨a2, r2, rfl, h3⟩ := asCons_inv h2; clear h2
  obtain ⟨x2, rfl, h4⟩ := asD_inv h3; clear h3
  obtain ⟨rfl, h5⟩ := asNil_inv h4; clear h4
  obtain ⟨rfl, h6⟩ := asNil_inv h5; clear h5
  exact ACall.spec2 (fn := Try.f94) (c := codeOf Try.f94) (S := ofL S94) (L := lofL L94) hS94 (by kernel_rfl) (by kernel_rfl) (inlOK _) (all_eq (by kernel_rfl : subsOf (E.info 94).keep (codeOf Try.f94) = []) (all_nil)) (by kernel_rfl) h6.of

abbrev Sl177r12 : List (Nat × Pat × Sp) := [(94, none, sp94)]
theorem hSl177r12 : SpecOK E (ofL Sl177r12) := specOK_cons h94 (specOK_nil)
abbrev Ll177r12 : List (Nat × List Nat × Pat × LSp) := []
def lsl177r12 : LSp := fun vs σ K => asCons vs fun a1 r1 => asD (.int .i64) a1 fun s1 => asCons r1 fun a2 r2 => asP (.ptr 0 0 []) a2 <| asCons r2 fun a3 r3 => asD (.int .i64) a3 fun s2 => asNil r3 <| asCons σ fun a4 r4 => asOne (.pair (.int .i64) (.pair (.int .i64) (.pair (.int .i64) (.pair (.arr 16 (.int .i64)) (.pair (.sl (.int .i64)) .unit))))) a4 fun a5 => asD (.pair (.int .i64) (.pair (.int .i64) (.pair (.int .i64) (.pair (.arr 16 (.int .i64)) (.pair (.sl (.int .i64)) .unit))))) a5 fun s3 => asNil r4 <| l177r12 (fun z1 => K (.exit 2) [(7, I z1)] []) s1 s2 s3
theorem l177r12v : LoopV E (inlF (PA (ACall E)) E 8) (E.info 177).keep 0 Try.f177.ntmps 178000012 (body Try.f177 12) ([2, 3, 7], lsl177r12) := by
  intro vs σ K (h0 : lsl177r12 vs σ K)
  unfold lsl177r12 at h0
  obtain ⟨a1, r1, rfl, h1⟩ := asCons_inv h0; clear h0
  obtain ⟨s1, rfl, h2⟩ := asD_inv h1; clear h1
  obtain ⟨a2, r2, rfl, h3⟩ := asCons_inv h2; clear h2
  obtain ⟨rfl, h4⟩ := asP_inv h3; clear h3
  obtain ⟨a3, r3, rfl, h5⟩ := asCons_inv h4; clear h4
  obtain ⟨s2, rfl, h6⟩ := asD_inv h5; clear h5
  obtain ⟨rfl, h7⟩ := asNil_inv h6; clear h6
  obtain ⟨a4, r4, rfl, h8⟩ := asCons_inv h7; clear h7
  obtain ⟨a5, rfl, h9⟩ := asOne_inv h8; clear h8
  obtain ⟨s3, rfl, h10⟩ := asD_inv h9; clear h9
  obtain ⟨rfl, h11⟩ := asNil_inv h10; clear h10
  intro J hJ
  have hp : ∀ c' ∈ subsOf (E.info 177).keep (body Try.f177 12), SubOK E (inlF (PA (ACall E)) E 8) (E.info 177).keep 0 Try.f177.ntmps (lofL Ll177r12) c' := all_eq (by kernel_rfl : subsOf (E.info 177).keep (body Try.f177 12) = []) (all_nil)
  exact h11.of (fun s1 s2 s3 => J [(178000012, .undef), (2, I s1), (3, .ptr 0 0 []), (7, I s2)] [.one (.pair (.int .i64) (.pair (.int .i64) (.pair (.int .i64) (.pair (.arr 16 (.int .i64)) (.pair (.sl (.int .i64)) .unit))))) (.d (.pair (.int .i64) (.pair (.int .i64) (.pair (.int .i64) (.pair (.arr 16 (.int .i64)) (.pair (.sl (.int .i64)) .unit))))) s3)]) (fun s1 s2 s3 hb => loop_round2 (S := ofL Sl177r12) (L := lofL Ll177r12) hSl177r12 (inlOK _) hp hJ (by kernel_rfl) hb)

abbrev S177 : List (Nat × Pat × Sp) := [(220, none, sp220), (178, none, sp178), (179, none, sp179)]
theorem hS177 : SpecOK E (ofL S177) := specOK_cons h220 (specOK_cons h178 (specOK_cons h179 (specOK_nil)))
abbrev L177 : List (Nat × List Nat × Pat × LSp) := [(178000003, [2, 3, 4, 7, 14, 15, 16], none, lsl177r3), (178000012, [2, 3, 7], none, lsl177r12)]
def sp177 : Sp := fun args τ K => asCons args fun a1 r1 => asD (.pair (.int .i64) (.pair (.int .i64) (.pair (.int .i64) (.pair (.arr 16 (.int .i64)) (.pair (.sl (.int .i64)) .unit))))) a1 fun x1 => asCons r1 fun a2 r2 => asD opT a2 fun x2 => asCons r2 fun a3 r3 => asD (.int .i64) a3 fun x3 => asNil r3 <| asNil τ <| c177 x1 x2 x3 (fun z1 => K (I z1) [])
theorem h177 : ∀ args τ K, sp177 args τ K → ACall E 177 args τ K := by
  intro args τ K h0
  unfold sp177 at h0
  obtain ⟨a1, r1, rfl, h1⟩ := asCons_inv h0; clear h0
  obtain ⟨x1, rfl, h2⟩ := asD_inv h1; clear h1
  obtain ⟨a2, r2, rfl, h3⟩ := asCons_inv h2; clear h2
  obtain ⟨x2, rfl, h4⟩ := asD_inv h3; clear h3
  obtain ⟨a3, r3, rfl, h5⟩ := asCons_inv h4; clear h4
  obtain ⟨x3, rfl, h6⟩ := asD_inv h5; clear h5
  obtain ⟨rfl, h7⟩ := asNil_inv h6; clear h6
  obtain ⟨rfl, h8⟩ := asNil_inv h7; clear h7
  exact ACall.spec2 (fn := Try.f177) (c := codeOf Try.f177) (S := ofL S177) (L := lofL L177) hS177 (by kernel_rfl) (by kernel_rfl) (inlOK _) (all_eq (by kernel_rfl : subsOf (E.info 177).keep (codeOf Try.f177) = [.loop (body Try.f177 3), .loop (body Try.f177 12)]) (all_cons (loopOK_of (mk := 178000003) (sl := [2, 3, 4, 7, 14, 15, 16]) (ss := [([2, 3, 4, 7, 14, 15, 16], lsl177r3)]) (by kernel_rfl) (by kernel_rfl) (all_cons l177r3v (all_nil))) (all_cons (loopOK_of (mk := 178000012) (sl := [2, 3, 7]) (ss := [([2, 3, 7], lsl177r12)]) (by kernel_rfl) (by kernel_rfl) (all_cons l177r12v (all_nil))) (all_nil)))) (by kernel_rfl) h8.of

abbrev Sl102r18 : List (Nat × Pat × Sp) := []
theorem hSl102r18 : SpecOK E (ofL Sl102r18) := specOK_nil
abbrev Ll102r18 : List (Nat × List Nat × Pat × LSp) := []
def lsl102r18 : LSp := fun vs σ K => asCons vs fun a1 r1 => asP (.ptr 0 0 []) a1 <| asCons r1 fun a2 r2 => asP (.ptr 2 0 []) a2 <| asCons r2 fun a3 r3 => asP (.ptr 3 0 []) a3 <| asCons r3 fun a4 r4 => asD (.int .i64) a4 fun s1 => asCons r4 fun a5 r5 => asD (.int .i64) a5 fun s2 => asCons r5 fun a6 r6 => asP (.vec 5) a6 <| asCons r6 fun a7 r7 => asP (.vec 6) a7 <| asCons r7 fun a8 r8 => asD (.int .i64) a8 fun s3 => asCons r8 fun a9 r9 => asD (.int .i64) a9 fun s4 => asNil r9 <| asCons σ fun a10 r10 => asOne (.pair (.int .i64) (.pair (.int .i64) (.pair (.int .i64) (.pair (.arr 16 (.int .i64)) (.pair (.sl (.int .i64)) .unit))))) a10 fun a11 => asAgL a11 fun l12 => asCons l12 fun a13 r13 => asD (.int .i64) a13 fun s5 => asCons r13 fun a14 r14 => asD (.int .i64) a14 fun s6 => asCons r14 fun a15 r15 => asD (.int .i64) a15 fun s7 => asCons r15 fun a16 r16 => asD (.arr 16 (.int .i64)) a16 fun s8 => asCons r16 fun a17 r17 => asP (.vec 1) a17 <| asNil r17 <| asCons r10 fun a18 r18 => asRw (.int .i64) false a18 fun s9 => asCons r18 fun a19 r19 => asOne opT a19 fun a20 => asD opT a20 fun s10 => asCons r19 fun a21 r21 => asOne (.pair (.int .i64) (.pair (.int .i64) (.pair (.int .i64) (.pair (.arr 16 (.int .i64)) (.pair (.sl (.int .i64)) .unit))))) a21 fun a22 => asAgL a22 fun l23 => asCons l23 fun a24 r24 => asD (.int .i64) a24 fun s11 => asCons r24 fun a25 r25 => asD (.int .i64) a25 fun s12 => asCons r25 fun a26 r26 => asD (.int .i64) a26 fun s13 => asCons r26 fun a27 r27 => asD (.arr 16 (.int .i64)) a27 fun s14 => asCons r27 fun a28 r28 => asP (.vec 4) a28 <| asNil r28 <| asCons r21 fun a29 r29 => asRw (.int .i64) false a29 fun s15 => asCons r29 fun a30 r30 => asRw (.int .i64) false a30 fun s16 => asCons r30 fun a31 r31 => asRw (.int .i64) false a31 fun s17 => asNil r31 <| l102r18 (fun z1 z2 z3 z4 z5 z6 z7 z8 z9 z10 z11 z12 z13 z14 => K (.exit 0) [(3, .ptr 0 0 []), (4, .ptr 2 0 []), (6, .ptr 3 0 []), (12, I z1), (13, I z2), (14, .vec 5)] [.one (.pair (.int .i64) (.pair (.int .i64) (.pair (.int .i64) (.pair (.arr 16 (.int .i64)) (.pair (.sl (.int .i64)) .unit))))) (.agg [I z3, I z4, I z5, .d (.arr 16 (.int .i64)) z6, .vec 1]), .row (.int .i64) z7 false, .one opT (.d opT z8), .one (.pair (.int .i64) (.pair (.int .i64) (.pair (.int .i64) (.pair (.arr 16 (.int .i64)) (.pair (.sl (.int .i64)) .unit))))) (.agg [I z9, I z10, I z11, .d (.arr 16 (.int .i64)) z12, .vec 4]), .row (.int .i64) z13 false, .row (.int .i64) z14 false]) s1 s2 s3 s4 s5 s6 s7 s8 s9 s10 s11 s12 s13 s14 s15 s16 s17
theorem l102r18v : LoopV E (inlF (PA (ACall E)) E 8) (E.info 102).keep 0 Try.f102.ntmps 103000018 (body Try.f102 18) ([3, 4, 6, 12, 13, 14, 67, 68, 69], lsl102r18) := by
  intro vs σ K (h0 : lsl102r18 vs σ K)
  unfold lsl102r18 at h0
  obtain ⟨a1, r1, rfl, h1⟩ := asCons_inv h0; clear h0
  obtain ⟨rfl, h2⟩ := asP_inv h1; clear h1
  obtain ⟨a2, r2, rfl, h3⟩ := asCons_inv h2; clear h2
  obtain ⟨rfl, h4⟩ := asP_inv h3; clear h3
  obtain ⟨a3, r3, rfl, h5⟩ := asCons_inv h4; clear h4
  obtain ⟨rfl, h6⟩ := asP_inv h5; clear h5
  obtain ⟨a4, r4, rfl, h7⟩ := asCons_inv h6; clear h6
  obtain ⟨s1, rfl, h8⟩ := asD_inv h7; clear h7
  obtain ⟨a5, r5, rfl, h9⟩ := asCons_inv h8; clear h8
  obtain ⟨s2, rfl, h10⟩ := asD_inv h9; clear h9
  obtain ⟨a6, r6, rfl, h11⟩ := asCons_inv h10; clear h10
  obtain ⟨rfl, h12⟩ := asP_inv h11; clear h11
  obtain ⟨a7, r7, rfl, h13⟩ := asCons_inv h12; clear h12
  obtain ⟨rfl, h14⟩ := asP_inv h13; clear h13
  obtain ⟨a8, r8, rfl, h15⟩ := asCons_inv h14; clear h14
  obtain ⟨s3, rfl, h16⟩ := asD_inv h15; clear h15
  obtain ⟨a9, r9, rfl, h17⟩ := asCons_inv h16; clear h16
  obtain ⟨s4, rfl, h18⟩ := asD_inv h17; clear h17
  obtain ⟨rfl, h19⟩ := asNil_inv h18; clear h18
  obtain ⟨a10, r10, rfl, h20⟩ := asCons_inv h19; clear h19
  obtain ⟨a11, rfl, h21⟩ := asOne_inv h20; clear h20
  obtain ⟨l12, rfl, h22⟩ := asAgL_inv h21; clear h21
  obtain ⟨a13, r13, rfl, h23⟩ := asCons_inv h22; clear h22
  obtain ⟨s5, rfl, h24⟩ := asD_inv h23; clear h23
  obtain ⟨a14, r14, rfl, h25⟩ := asCons_inv h24; clear h24
  obtain ⟨s6, rfl, h26⟩ := asD_inv h25; clear h25
  obtain ⟨a15, r15, rfl, h27⟩ := asCons_inv h26; clear h26
  obtain ⟨s7, rfl, h28⟩ := asD_inv h27; clear h27
  obtain ⟨a16, r16, rfl, h29⟩ := asCons_inv h28; clear h28
  obtain ⟨s8, rfl, h30⟩ := asD_inv h29; clear h29
  obtain ⟨a17, r17, rfl, h31⟩ := asCons_inv h30; clear h30
  obtain ⟨rfl, h32⟩ := asP_inv h31; clear h31
  obtain ⟨rfl, h33⟩ := asNil_inv h32; clear h32
  obtain ⟨a18, r18, rfl, h34⟩ := asCons_inv h33; clear h33
  obtain ⟨s9, rfl, h35⟩ := asRw_inv h34; clear h34
  obtain ⟨a19, r19, rfl, h36⟩ := asCons_inv h35; clear h35
  obtain ⟨a20, rfl, h37⟩ := asOne_inv h36; clear h36
  obtain ⟨s10, rfl, h38⟩ := asD_inv h37; clear h37
  obtain ⟨a21, r21, rfl, h39⟩ := asCons_inv h38; clear h38
  obtain ⟨a22, rfl, h40⟩ := asOne_inv h39; clear h39
  obtain ⟨l23, rfl, h41⟩ := asAgL_inv h40; clear h40
  obtain ⟨a24, r24, rfl, h42⟩ := asCons_inv h41; clear h41
  obtain ⟨s11, rfl, h43⟩ := asD_inv h42; clear h42
  obtain ⟨a25, r25, rfl, h44⟩ := asCons_inv h43; clear h43
  obtain ⟨s12, rfl, h45⟩ := asD_inv h44; clear h44
  obtain ⟨a26, r26, rfl, h46⟩ := asCons_inv h45; clear h45
  obtain ⟨s13, rfl, h47⟩ := asD_inv h46; clear h46
  obtain ⟨a27, r27, rfl, h48⟩ := asCons_inv h47; clear h47
  obtain ⟨s14, rfl, h49⟩ := asD_inv h48; clear h48
  obtain ⟨a28, r28, rfl, h50⟩ := asCons_inv h49; clear h49
  obtain ⟨rfl, h51⟩ := asP_inv h50; clear h50
  obtain ⟨rfl, h52⟩ := asNil_inv h51; clear h51
  obtain ⟨a29, r29, rfl, h53⟩ := asCons_inv h52; clear h52
  obtain ⟨s15, rfl, h54⟩ := asRw_inv h53; clear h53
  obtain ⟨a30, r30, rfl, h55⟩ := asCons_inv h54; clear h54
  obtain ⟨s16, rfl, h56⟩ := asRw_inv h55; clear h55
  obtain ⟨a31, r31, rfl, h57⟩ := asCons_inv h56; clear h56
  obtain ⟨s17, rfl, h58⟩ := asRw_inv h57; clear h57
  obtain ⟨rfl, h59⟩ := asNil_inv h58; clear h58
  intro J hJ
  have hp : ∀ c' ∈ subsOf (E.info 102).keep (body Try.f102 18), SubOK E (inlF (PA (ACall E)) E 8) (E.info 102).keep 0 Try.f102.ntmps (lofL Ll102r18) c' := all_eq (by kernel_rfl : subsOf (E.info 102).keep (body Try.f102 18) = []) (all_nil)
  exact h59.of (fun s1 s2 s3 s4 s5 s6 s7 s8 s9 s10 s11 s12 s13 s14 s15 s16 s17 => J [(103000018, .undef), (3, .ptr 0 0 []), (4, .ptr 2 0 []), (6, .ptr 3 0 []), (12, I s1), (13, I s2), (14, .vec 5), (67, .vec 6), (68, I s3), (69, I s4)] [.one (.pair (.int .i64) (.pair (.int .i64) (.pair (.int .i64) (.pair (.arr 16 (.int .i64)) (.pair (.sl (.int .i64)) .unit))))) (.agg [I s5, I s6, I s7, .d (.arr 16 (.int .i64)) s8, .vec 1]), .row (.int .i64) s9 false, .one opT (.d opT s10), .one (.pair (.int .i64) (.pair (.int .i64) (.pair (.int .i64) (.pair (.arr 16 (.int .i64)) (.pair (.sl (.int .i64)) .unit))))) (.agg [I s11, I s12, I s13, .d (.arr 16 (.int .i64)) s14, .vec 4]), .row (.int .i64) s15 false, .row (.int .i64) s16 false, .row (.int .i64) s17 false]) (fun s1 s2 s3 s4 s5 s6 s7 s8 s9 s10 s11 s12 s13 s14 s15 s16 s17 hb => loop_round2 (S := ofL Sl102r18) (L := lofL Ll102r18) hSl102r18 (inlOK _) hp hJ (by kernel_rfl) hb)

abbrev S265 : List (Nat × Pat × Sp) := []
theorem hS265 : SpecOK E (ofL S265) := specOK_nil
abbrev L265 : List (Nat × List Nat × Pat × LSp) := []
def sp265 : Sp := fun args τ K => asCons args fun a1 r1 => asD (.int .i64) a1 fun x1 => asNil r1 <| asNil τ <| c265 x1 (fun z1 => K (B z1) [])
theorem h265 : ∀ args τ K, sp265 args τ K → ACall E 265 args τ K := by
  intro args τ K h0
  unfold sp265 at h0
  obtain ⟨a1, r1, rfl, h1⟩ := asCons_inv h0; clear h0
  obtain ⟨x1, rfl, h2⟩ := asD_inv h1; clear h1
  obtain ⟨rfl, h3⟩ := asNil_inv h2; clear h2
  obtain ⟨rfl, h4⟩ := asNil_inv h3; clear h3
  exact ACall.spec2 (fn := Try.f265) (c := codeOf Try.f265) (S := ofL S265) (L := lofL L265) hS265 (by kernel_rfl) (by kernel_rfl) (inlOK _) (all_eq (by kernel_rfl : subsOf (E.info 265).keep (codeOf Try.f265) = []) (all_nil)) (by kernel_rfl) h4.of

abbrev S221 : List (Nat × Pat × Sp) := [(265, none, sp265)]
theorem hS221 : SpecOK E (ofL S221) := specOK_cons h265 (specOK_nil)
abbrev L221 : List (Nat × List Nat × Pat × LSp) := []
def sp221 : Sp := fun args τ K => asCons args fun a1 r1 => asD (.int .i64) a1 fun x1 => asCons r1 fun a2 r2 => asD (.int .i64) a2 fun x2 => asNil r2 <| asNil τ <| c221 x1 x2 (fun z1 => K (B z1) [])
theorem h221 : ∀ args τ K, sp221 args τ K → ACall E 221 args τ K := by
  intro args τ K h0
  unfold sp221 at h0
  obtain ⟨a1, r1, rfl, h1⟩ := asCons_inv h0; clear h0
  obtain ⟨x1, rfl, h2⟩ := asD_inv h1; clear h1
  obtain ⟨a2, r2, rfl, h3⟩ := asCons_inv h2; clear h2
  obtain ⟨x2, rfl, h4⟩ := asD_inv h3; clear h3
  obtain ⟨rfl, h5⟩ := asNil_inv h4; clear h4
  obtain ⟨rfl, h6⟩ := asNil_inv h5; clear h5
  exact ACall.spec2 (fn := Try.f221) (c := codeOf Try.f221) (S := ofL S221) (L := lofL L221) hS221 (by kernel_rfl) (by kernel_rfl) (inlOK _) (all_eq (by kernel_rfl : subsOf (E.info 221).keep (codeOf Try.f221) = []) (all_nil)) (by kernel_rfl) h6.of

abbrev Sl180r3 : List (Nat × Pat × Sp) := [(221, none, sp221)]
theorem hSl180r3 : SpecOK E (ofL Sl180r3) := specOK_cons h221 (specOK_nil)
abbrev Ll180r3 : List (Nat × List Nat × Pat × LSp) := []
def lsl180r3 : LSp := fun vs σ K => asCons vs fun a1 r1 => asD (.sl (.int .i64)) a1 fun s1 => asCons r1 fun a2 r2 => asD (.int .i64) a2 fun s2 => asCons r2 fun a3 r3 => asD (.int .i64) a3 fun s3 => asCons r3 fun a4 r4 => asD (.int .i64) a4 fun s4 => asCons r4 fun a5 r5 => asD (.int .i64) a5 fun s5 => asNil r5 <| asNil σ <| l180r3 (fun z1 z2 z3 z4 => K (.exit 0) [(0, .d (.sl (.int .i64)) z1), (1, I z2), (6, I z3), (7, I z4)] []) s1 s2 s3 s4 s5
theorem l180r3v : LoopV E (inlF (PA (ACall E)) E 8) (E.info 180).keep 0 Try.f180.ntmps 181000003 (body Try.f180 3) ([0, 1, 6, 7, 8], lsl180r3) := by
  intro vs σ K (h0 : lsl180r3 vs σ K)
  unfold lsl180r3 at h0
  obtain ⟨a1, r1, rfl, h1⟩ := asCons_inv h0; clear h0
  obtain ⟨s1, rfl, h2⟩ := asD_inv h1; clear h1
  obtain ⟨a2, r2, rfl, h3⟩ := asCons_inv h2; clear h2
  obtain ⟨s2, rfl, h4⟩ := asD_inv h3; clear h3
  obtain ⟨a3, r3, rfl, h5⟩ := asCons_inv h4; clear h4
  obtain ⟨s3, rfl, h6⟩ := asD_inv h5; clear h5
  obtain ⟨a4, r4, rfl, h7⟩ := asCons_inv h6; clear h6
  obtain ⟨s4, rfl, h8⟩ := asD_inv h7; clear h7
  obtain ⟨a5, r5, rfl, h9⟩ := asCons_inv h8; clear h8
  obtain ⟨s5, rfl, h10⟩ := asD_inv h9; clear h9
  obtain ⟨rfl, h11⟩ := asNil_inv h10; clear h10
  obtain ⟨rfl, h12⟩ := asNil_inv h11; clear h11
  intro J hJ
  have hp : ∀ c' ∈ subsOf (E.info 180).keep (body Try.f180 3), SubOK E (inlF (PA (ACall E)) E 8) (E.info 180).keep 0 Try.f180.ntmps (lofL Ll180r3) c' := all_eq (by kernel_rfl : subsOf (E.info 180).keep (body Try.f180 3) = []) (all_nil)
  exact h12.of (fun s1 s2 s3 s4 s5 => J [(181000003, .undef), (0, .d (.sl (.int .i64)) s1), (1, I s2), (6, I s3), (7, I s4), (8, I s5)] []) (fun s1 s2 s3 s4 s5 hb => loop_round2 (S := ofL Sl180r3) (L := lofL Ll180r3) hSl180r3 (inlOK _) hp hJ (by kernel_rfl) hb)

abbrev S222 : List (Nat × Pat × Sp) := []
theorem hS222 : SpecOK E (ofL S222) := specOK_nil
abbrev L222 : List (Nat × List Nat × Pat × LSp) := []
def sp222 : Sp := fun args τ K => asCons args fun a1 r1 => asD (.int .i64) a1 fun x1 => asNil r1 <| asNil τ <| c222 x1 (fun z1 => K (B z1) [])
theorem h222 : ∀ args τ K, sp222 args τ K → ACall E 222 args τ K := by
  intro args τ K h0
  unfold sp222 at h0
  obtain ⟨a1, r1, rfl, h1⟩ := asCons_inv h0; clear h0
  obtain ⟨x1, rfl, h2⟩ := asD_inv h1; clear h1
  obtain ⟨rfl, h3⟩ := asNil_inv h2; clear h2
  obtain ⟨rfl, h4⟩ := asNil_inv h3; clear h3
  exact ACall.spec2 (fn := Try.f222) (c := codeOf Try.f222) (S := ofL S222) (L := lofL L222) hS222 (by kernel_rfl) (by kernel_rfl) (inlOK _) (all_eq (by kernel_rfl : subsOf (E.info 222).keep (codeOf Try.f222) = []) (all_nil)) (by kernel_rfl) h4.of

abbrev S180 : List (Nat × Pat × Sp) := [(222, none, sp222)]
theorem hS180 : SpecOK E (ofL S180) := specOK_cons h222 (specOK_nil)
abbrev L180 : List (Nat × List Nat × Pat × LSp) := [(181000003, [0, 1, 6, 7, 8], none, lsl180r3)]
def sp180 : Sp := fun args τ K => asCons args fun a1 r1 => asD (.sl (.int .i64)) a1 fun x1 => asCons r1 fun a2 r2 => asD (.int .i64) a2 fun x2 => asNil r2 <| asNil τ <| c180 x1 x2 (fun z1 z2 => K (.tup [I z1, B z2]) [])
theorem h180 : ∀ args τ K, sp180 args τ K → ACall E 180 args τ K := by
  intro args τ K h0
  unfold sp180 at h0
  obtain ⟨a1, r1, rfl, h1⟩ := asCons_inv h0; clear h0
  obtain ⟨x1, rfl, h2⟩ := asD_inv h1; clear h1
  obtain ⟨a2, r2, rfl, h3⟩ := asCons_inv h2; clear h2
  obtain ⟨x2, rfl, h4⟩ := asD_inv h3; clear h3
  obtain ⟨rfl, h5⟩ := asNil_inv h4; clear h4
  obtain ⟨rfl, h6⟩ := asNil_inv h5; clear h5
  exact ACall.spec2 (fn := Try.f180) (c := codeOf Try.f180) (S := ofL S180) (L := lofL L180) hS180 (by kernel_rfl) (by kernel_rfl) (inlOK _) (all_eq (by kernel_rfl : subsOf (E.info 180).keep (codeOf Try.f180) = [.loop (body Try.f180 3)]) (all_cons (loopOK_of (mk := 181000003) (sl := [0, 1, 6, 7, 8]) (ss := [([0, 1, 6, 7, 8], lsl180r3)]) (by kernel_rfl) (by kernel_rfl) (all_cons l180r3v (all_nil))) (all_nil))) (by kernel_rfl) h6.of

abbrev S102 : List (Nat × Pat × Sp) := [(174, none, sp174), (175, none, sp175), (176, none, sp176), (177, none, sp177), (178, none, sp178), (179, none, sp179), (180, none, sp180)]
theorem hS102 : SpecOK E (ofL S102) := specOK_cons h174 (specOK_cons h175 (specOK_cons h176 (specOK_cons h177 (specOK_cons h178 (specOK_cons h179 (specOK_cons h180 (specOK_nil)))))))
abbrev L102 : List (Nat × List Nat × Pat × LSp) := [(103000018, [3, 4, 6, 12, 13, 14, 67, 68, 69], none, lsl102r18)]
def sp102 : Sp := fun args τ K => asCons args fun a1 r1 => asAgL a1 fun l2 => asCons l2 fun a3 r3 => asD (.int .i64) a3 fun x1 => asCons r3 fun a4 r4 => asD (.int .i64) a4 fun x2 => asCons r4 fun a5 r5 => asD (.int .i64) a5 fun x3 => asCons r5 fun a6 r6 => asD (.arr 16 (.int .i64)) a6 fun x4 => asCons r6 fun a7 r7 => asP (.nils (.int .i64)) a7 <| asNil r7 <| asCons r1 fun a8 r8 => asD opT a8 fun x5 => asCons r8 fun a9 r9 => asD (.int .i64) a9 fun x6 => asNil r9 <| asNil τ <| c102 x1 x2 x3 x4 x5 x6 (fun z1 z2 z3 z4 z5 z6 z7 => K (.tup [.agg [I z1, I z2, I z3, .d (.arr 16 (.int .i64)) z4, .vec 0], I z5, I z6]) [.row (.int .i64) z7 false])
theorem h102 : ∀ args τ K, sp102 args τ K → ACall E 102 args τ K := by
  intro args τ K h0
  unfold sp102 at h0
  obtain ⟨a1, r1, rfl, h1⟩ := asCons_inv h0; clear h0
  obtain ⟨l2, rfl, h2⟩ := asAgL_inv h1; clear h1
  obtain ⟨a3, r3, rfl, h3⟩ := asCons_inv h2; clear h2
  obtain ⟨x1, rfl, h4⟩ := asD_inv h3; clear h3
  obtain ⟨a4, r4, rfl, h5⟩ := asCons_inv h4; clear h4
  obtain ⟨x2, rfl, h6⟩ := asD_inv h5; clear h5
  obtain ⟨a5, r5, rfl, h7⟩ := asCons_inv h6; clear h6
  obtain ⟨x3, rfl, h8⟩ := asD_inv h7; clear h7
  obtain ⟨a6, r6, rfl, h9⟩ := asCons_inv h8; clear h8
  obtain ⟨x4, rfl, h10⟩ := asD_inv h9; clear h9
  obtain ⟨a7, r7, rfl, h11⟩ := asCons_inv h10; clear h10
  obtain ⟨rfl, h12⟩ := asP_inv h11; clear h11
  obtain ⟨rfl, h13⟩ := asNil_inv h12; clear h12
  obtain ⟨a8, r8, rfl, h14⟩ := asCons_inv h13; clear h13
  obtain ⟨x5, rfl, h15⟩ := asD_inv h14; clear h14
  obtain ⟨a9, r9, rfl, h16⟩ := asCons_inv h15; clear h15
  obtain ⟨x6, rfl, h17⟩ := asD_inv h16; clear h16
  obtain ⟨rfl, h18⟩ := asNil_inv h17; clear h17
  obtain ⟨rfl, h19⟩ := asNil_inv h18; clear h18
  exact ACall.spec2 (fn := Try.f102) (c := codeOf Try.f102) (S := ofL S102) (L := lofL L102) hS102 (by kernel_rfl) (by kernel_rfl) (inlOK _) (all_eq (by kernel_rfl : subsOf (E.info 102).keep (codeOf Try.f102) = [.loop (body Try.f102 18)]) (all_cons (loopOK_of (mk := 103000018) (sl := [3, 4, 6, 12, 13, 14, 67, 68, 69]) (ss := [([3, 4, 6, 12, 13, 14, 67, 68, 69], lsl102r18)]) (by kernel_rfl) (by kernel_rfl) (all_cons l102r18v (all_nil))) (all_nil))) (by kernel_rfl) h19.of

abbrev S36 : List (Nat × Pat × Sp) := [(102, none, sp102)]
theorem hS36 : SpecOK E (ofL S36) := specOK_cons h102 (specOK_nil)
abbrev L36 : List (Nat × List Nat × Pat × LSp) := []
def sp36 : Sp := fun args τ K => asCons args fun a1 r1 => asP (.ptr 0 0 []) a1 <| asCons r1 fun a2 r2 => asD opT a2 fun x1 => asCons r2 fun a3 r3 => asD (.int .i64) a3 fun x2 => asNil r3 <| asCons τ fun a4 r4 => asOne (.pair (.pair (.int .i64) (.pair (.int .i64) (.pair (.int .i64) (.pair (.arr 16 (.int .i64)) (.pair (.sl (.int .i64)) .unit))))) (.pair (.int .i64) .unit)) a4 fun a5 => asAgL a5 fun l6 => asCons l6 fun a7 r7 => asAgL a7 fun l8 => asCons l8 fun a9 r9 => asD (.int .i64) a9 fun x3 => asCons r9 fun a10 r10 => asD (.int .i64) a10 fun x4 => asCons r10 fun a11 r11 => asD (.int .i64) a11 fun x5 => asCons r11 fun a12 r12 => asD (.arr 16 (.int .i64)) a12 fun x6 => asCons r12 fun a13 r13 => asP (.nils (.int .i64)) a13 <| asNil r13 <| asCons r7 fun a14 r14 => asD (.int .i64) a14 fun x7 => asNil r14 <| asNil r4 <| c36 x1 x2 x3 x4 x5 x6 x7 (fun z1 z2 z3 z4 z5 z6 z7 => K (.tup [I z1, I z2]) [.one (.pair (.pair (.int .i64) (.pair (.int .i64) (.pair (.int .i64) (.pair (.arr 16 (.int .i64)) (.pair (.sl (.int .i64)) .unit))))) (.pair (.int .i64) .unit)) (.agg [.agg [I z3, I z4, I z5, .d (.arr 16 (.int .i64)) z6, .nils (.int .i64)], I z7])]) (fun z1 z2 z3 z4 z5 z6 z7 z8 => K (.tup [I z1, I z2]) [.one (.pair (.pair (.int .i64) (.pair (.int .i64) (.pair (.int .i64) (.pair (.arr 16 (.int .i64)) (.pair (.sl (.int .i64)) .unit))))) (.pair (.int .i64) .unit)) (.agg [.agg [I z3, I z4, I z5, .d (.arr 16 (.int .i64)) z6, .vec 1], I z7]), .row (.int .i64) z8 false])
theorem h36 : ∀ args τ K, sp36 args τ K → ACall E 36 args τ K := by
  intro args τ K h0
  unfold sp36 at h0
  obtain ⟨a1, r1, rfl, h1⟩ := asCons_inv h0; clear h0
  obtain ⟨rfl, h2⟩ := asP_inv h1; clear h1
  obtain ⟨a2, r2, rfl, h3⟩ := asCons_inv h2; clear h2
  obtain ⟨x1, rfl, h4⟩ := asD_inv h3; clear h3
  obtain ⟨a3, r3, rfl, h5⟩ := asCons_inv h4; clear h4
  obtain ⟨x2, rfl, h6⟩ := asD_inv h5; clear h5
  obtain ⟨rfl, h7⟩ := asNil_inv h6; clear h6
  obtain ⟨a4, r4, rfl, h8⟩ := asCons_inv h7; clear h7
  obtain ⟨a5, rfl, h9⟩ := asOne_inv h8; clear h8
  obtain ⟨l6, rfl, h10⟩ := asAgL_inv h9; clear h9
  obtain ⟨a7, r7, rfl, h11⟩ := asCons_inv h10; clear h10
  obtain ⟨l8, rfl, h12⟩ := asAgL_inv h11; clear h11
  obtain ⟨a9, r9, rfl, h13⟩ := asCons_inv h12; clear h12
  obtain ⟨x3, rfl, h14⟩ := asD_inv h13; clear h13
  obtain ⟨a10, r10, rfl, h15⟩ := asCons_inv h14; clear h14
  obtain ⟨x4, rfl, h16⟩ := asD_inv h15; clear h15
  obtain ⟨a11, r11, rfl, h17⟩ := asCons_inv h16; clear h16
  obtain ⟨x5, rfl, h18⟩ := asD_inv h17; clear h17
  obtain ⟨a12, r12, rfl, h19⟩ := asCons_inv h18; clear h18
  obtain ⟨x6, rfl, h20⟩ := asD_inv h19; clear h19
  obtain ⟨a13, r13, rfl, h21⟩ := asCons_inv h20; clear h20
  obtain ⟨rfl, h22⟩ := asP_inv h21; clear h21
  obtain ⟨rfl, h23⟩ := asNil_inv h22; clear h22
  obtain ⟨a14, r14, rfl, h24⟩ := asCons_inv h23; clear h23
  obtain ⟨x7, rfl, h25⟩ := asD_inv h24; clear h24
  obtain ⟨rfl, h26⟩ := asNil_inv h25; clear h25
  obtain ⟨rfl, h27⟩ := asNil_inv h26; clear h26
  exact ACall.spec2 (fn := Try.f36) (c := codeOf Try.f36) (S := ofL S36) (L := lofL L36) hS36 (by kernel_rfl) (by kernel_rfl) (inlOK _) (all_eq (by kernel_rfl : subsOf (E.info 36).keep (codeOf Try.f36) = []) (all_nil)) (by kernel_rfl) h27.of

abbrev Sl37r4 : List (Nat × Pat × Sp) := []
theorem hSl37r4 : SpecOK E (ofL Sl37r4) := specOK_nil
abbrev Ll37r4 : List (Nat × List Nat × Pat × LSp) := []
def lsl37r4 : LSp := fun vs σ K => asCons vs fun a1 r1 => asP (.ptr 0 0 []) a1 <| asCons r1 fun a2 r2 => asP (.vec 1) a2 <| asCons r2 fun a3 r3 => asD (.int .i64) a3 fun s1 => asCons r3 fun a4 r4 => asD (.int .i64) a4 fun s2 => asNil r4 <| asCons σ fun a5 r5 => asOne opT a5 fun a6 => asD opT a6 fun s3 => asCons r5 fun a7 r7 => asRw (.int .i64) false a7 fun s4 => asNil r7 <| l37r4 (fun z1 => K .ret [(1, .undef), (2, I z1)] []) (fun z1 => K (.exit 0) [(1, .ptr 0 0 []), (2, .undef)] [.one opT (.d opT z1)]) s1 s2 s3 s4
theorem l37r4v : LoopV E (inlF (PA (ACall E)) E 8) (E.info 37).keep 0 Try.f37.ntmps 38000004 (body Try.f37 4) ([1, 24, 25, 26], lsl37r4) := by
  intro vs σ K (h0 : lsl37r4 vs σ K)
  unfold lsl37r4 at h0
  obtain ⟨a1, r1, rfl, h1⟩ := asCons_inv h0; clear h0
  obtain ⟨rfl, h2⟩ := asP_inv h1; clear h1
  obtain ⟨a2, r2, rfl, h3⟩ := asCons_inv h2; clear h2
  obtain ⟨rfl, h4⟩ := asP_inv h3; clear h3
  obtain ⟨a3, r3, rfl, h5⟩ := asCons_inv h4; clear h4
  obtain ⟨s1, rfl, h6⟩ := asD_inv h5; clear h5
  obtain ⟨a4, r4, rfl, h7⟩ := asCons_inv h6; clear h6
  obtain ⟨s2, rfl, h8⟩ := asD_inv h7; clear h7
  obtain ⟨rfl, h9⟩ := asNil_inv h8; clear h8
  obtain ⟨a5, r5, rfl, h10⟩ := asCons_inv h9; clear h9
  obtain ⟨a6, rfl, h11⟩ := asOne_inv h10; clear h10
  obtain ⟨s3, rfl, h12⟩ := asD_inv h11; clear h11
  obtain ⟨a7, r7, rfl, h13⟩ := asCons_inv h12; clear h12
  obtain ⟨s4, rfl, h14⟩ := asRw_inv h13; clear h13
  obtain ⟨rfl, h15⟩ := asNil_inv h14; clear h14
  intro J hJ
  have hp : ∀ c' ∈ subsOf (E.info 37).keep (body Try.f37 4), SubOK E (inlF (PA (ACall E)) E 8) (E.info 37).keep 0 Try.f37.ntmps (lofL Ll37r4) c' := all_eq (by kernel_rfl : subsOf (E.info 37).keep (body Try.f37 4) = []) (all_nil)
  exact h15.of (fun s1 s2 s3 s4 => J [(38000004, .undef), (1, .ptr 0 0 []), (24, .vec 1), (25, I s1), (26, I s2)] [.one opT (.d opT s3), .row (.int .i64) s4 false]) (fun s1 s2 s3 s4 hb => loop_round2 (S := ofL Sl37r4) (L := lofL Ll37r4) hSl37r4 (inlOK _) hp hJ (by kernel_rfl) hb)

abbrev S103 : List (Nat × Pat × Sp) := []
theorem hS103 : SpecOK E (ofL S103) := specOK_nil
abbrev L103 : List (Nat × List Nat × Pat × LSp) := []
def sp103 : Sp := fun args τ K => asNil args <| asNil τ <| c103  (fun z1 => K (.vec 0) [.row .str z1 false])
theorem h103 : ∀ args τ K, sp103 args τ K → ACall E 103 args τ K := by
  intro args τ K h0
  unfold sp103 at h0
  obtain ⟨rfl, h1⟩ := asNil_inv h0; clear h0
  obtain ⟨rfl, h2⟩ := asNil_inv h1; clear h1
  exact ACall.spec2 (fn := Try.f103) (c := codeOf Try.f103) (S := ofL S103) (L := lofL L103) hS103 (by kernel_rfl) (by kernel_rfl) (inlOK _) (all_eq (by kernel_rfl : subsOf (E.info 103).keep (codeOf Try.f103) = []) (all_nil)) (by kernel_rfl) h2.of

abbrev Sl104r2 : List (Nat × Pat × Sp) := []
theorem hSl104r2 : SpecOK E (ofL Sl104r2) := specOK_nil
abbrev Ll104r2 : List (Nat × List Nat × Pat × LSp) := []
def lsl104r2 : LSp := fun vs σ K => asCons vs fun a1 r1 => asD .str a1 fun s1 => asCons r1 fun a2 r2 => asD (.int .u8) a2 fun s2 => asCons r2 fun a3 r3 => asD (.int .i64) a3 fun s3 => asCons r3 fun a4 r4 => asD (.int .i64) a4 fun s4 => asNil r4 <| asNil σ <| l104r2 (fun z1 => K .ret [(4, B z1)] []) (K (.exit 0) [(4, .undef)] []) s1 s2 s3 s4
theorem l104r2v : LoopV E (inlF (PA (ACall E)) E 8) (E.info 104).keep 0 Try.f104.ntmps 105000002 (body Try.f104 2) ([0, 1, 7, 8], lsl104r2) := by
  intro vs σ K (h0 : lsl104r2 vs σ K)
  unfold lsl104r2 at h0
  obtain ⟨a1, r1, rfl, h1⟩ := asCons_inv h0; clear h0
  obtain ⟨s1, rfl, h2⟩ := asD_inv h1; clear h1
  obtain ⟨a2, r2, rfl, h3⟩ := asCons_inv h2; clear h2
  obtain ⟨s2, rfl, h4⟩ := asD_inv h3; clear h3
  obtain ⟨a3, r3, rfl, h5⟩ := asCons_inv h4; clear h4
  obtain ⟨s3, rfl, h6⟩ := asD_inv h5; clear h5
  obtain ⟨a4, r4, rfl, h7⟩ := asCons_inv h6; clear h6
  obtain ⟨s4, rfl, h8⟩ := asD_inv h7; clear h7
  obtain ⟨rfl, h9⟩ := asNil_inv h8; clear h8
  obtain ⟨rfl, h10⟩ := asNil_inv h9; clear h9
  intro J hJ
  have hp : ∀ c' ∈ subsOf (E.info 104).keep (body Try.f104 2), SubOK E (inlF (PA (ACall E)) E 8) (E.info 104).keep 0 Try.f104.ntmps (lofL Ll104r2) c' := all_eq (by kernel_rfl : subsOf (E.info 104).keep (body Try.f104 2) = []) (all_nil)
  exact h10.of (fun s1 s2 s3 s4 => J [(105000002, .undef), (0, .d .str s1), (1, .d (.int .u8) s2), (7, I s3), (8, I s4)] []) (fun s1 s2 s3 s4 hb => loop_round2 (S := ofL Sl104r2) (L := lofL Ll104r2) hSl104r2 (inlOK _) hp hJ (by kernel_rfl) hb)

abbrev S104 : List (Nat × Pat × Sp) := []
theorem hS104 : SpecOK E (ofL S104) := specOK_nil
abbrev L104 : List (Nat × List Nat × Pat × LSp) := [(105000002, [0, 1, 7, 8], none, lsl104r2)]
def sp104 : Sp := fun args τ K => asCons args fun a1 r1 => asD .str a1 fun x1 => asCons r1 fun a2 r2 => asD (.int .u8) a2 fun x2 => asNil r2 <| asNil τ <| c104 x1 x2 (fun z1 => K (B z1) [])
theorem h104 : ∀ args τ K, sp104 args τ K → ACall E 104 args τ K := by
  intro args τ K h0
  unfold sp104 at h0
  obtain ⟨a1, r1, rfl, h1⟩ := asCons_inv h0; clear h0
  obtain ⟨x1, rfl, h2⟩ := asD_inv h1; clear h1
  obtain ⟨a2, r2, rfl, h3⟩ := asCons_inv h2; clear h2
  obtain ⟨x2, rfl, h4⟩ := asD_inv h3; clear h3
  obtain ⟨rfl, h5⟩ := asNil_inv h4; clear h4
  obtain ⟨rfl, h6⟩ := asNil_inv h5; clear h5
  exact ACall.spec2 (fn := Try.f104) (c := codeOf Try.f104) (S := ofL S104) (L := lofL L104) hS104 (by kernel_rfl) (by kernel_rfl) (inlOK _) (all_eq (by kernel_rfl : subsOf (E.info 104).keep (codeOf Try.f104) = [.loop (body Try.f104 2)]) (all_cons (loopOK_of (mk := 105000002) (sl := [0, 1, 7, 8]) (ss := [([0, 1, 7, 8], lsl104r2)]) (by kernel_rfl) (by kernel_rfl) (all_cons l104r2v (all_nil))) (all_nil))) (by kernel_rfl) h6.of

abbrev Sl37r13 : List (Nat × Pat × Sp) := [(104, none, sp104)]
theorem hSl37r13 : SpecOK E (ofL Sl37r13) := specOK_cons h104 (specOK_nil)
abbrev Ll37r13 : List (Nat × List Nat × Pat × LSp) := []
def lsl37r13 : LSp := fun vs σ K => asCons vs fun a1 r1 => asP (.ptr 0 0 []) a1 <| asCons r1 fun a2 r2 => asD .str a2 fun s1 => asCons r2 fun a3 r3 => asP (.vec 1) a3 <| asCons r3 fun a4 r4 => asD (.int .i64) a4 fun s2 => asCons r4 fun a5 r5 => asD (.int .i64) a5 fun s3 => asNil r5 <| asCons σ fun a6 r6 => asOne opT a6 fun a7 => asD opT a7 fun s4 => asCons r6 fun a8 r8 => asRw (.int .i64) false a8 fun s5 => asNil r8 <| l37r13 (fun z1 => K .ret [(1, .undef), (2, I z1)] []) (fun z1 => K (.exit 2) [(1, .ptr 0 0 []), (2, .undef)] [.one opT (.d opT z1)]) s1 s2 s3 s4 s5
theorem l37r13v : LoopV E (inlF (PA (ACall E)) E 8) (E.info 37).keep 0 Try.f37.ntmps 38000013 (body Try.f37 13) ([1, 5, 58, 59, 60], lsl37r13) := by
  intro vs σ K (h0 : lsl37r13 vs σ K)
  unfold lsl37r13 at h0
  obtain ⟨a1, r1, rfl, h1⟩ := asCons_inv h0; clear h0
  obtain ⟨rfl, h2⟩ := asP_inv h1; clear h1
  obtain ⟨a2, r2, rfl, h3⟩ := asCons_inv h2; clear h2
  obtain ⟨s1, rfl, h4⟩ := asD_inv h3; clear h3
  obtain ⟨a3, r3, rfl, h5⟩ := asCons_inv h4; clear h4
  obtain ⟨rfl, h6⟩ := asP_inv h5; clear h5
  obtain ⟨a4, r4, rfl, h7⟩ := asCons_inv h6; clear h6
  obtain ⟨s2, rfl, h8⟩ := asD_inv h7; clear h7
  obtain ⟨a5, r5, rfl, h9⟩ := asCons_inv h8; clear h8
  obtain ⟨s3, rfl, h10⟩ := asD_inv h9; clear h9
  obtain ⟨rfl, h11⟩ := asNil_inv h10; clear h10
  obtain ⟨a6, r6, rfl, h12⟩ := asCons_inv h11; clear h11
  obtain ⟨a7, rfl, h13⟩ := asOne_inv h12; clear h12
  obtain ⟨s4, rfl, h14⟩ := asD_inv h13; clear h13
  obtain ⟨a8, r8, rfl, h15⟩ := asCons_inv h14; clear h14
  obtain ⟨s5, rfl, h16⟩ := asRw_inv h15; clear h15
  obtain ⟨rfl, h17⟩ := asNil_inv h16; clear h16
  intro J hJ
  have hp : ∀ c' ∈ subsOf (E.info 37).keep (body Try.f37 13), SubOK E (inlF (PA (ACall E)) E 8) (E.info 37).keep 0 Try.f37.ntmps (lofL Ll37r13) c' := all_eq (by kernel_rfl : subsOf (E.info 37).keep (body Try.f37 13) = []) (all_nil)
  exact h17.of (fun s1 s2 s3 s4 s5 => J [(38000013, .undef), (1, .ptr 0 0 []), (5, .d .str s1), (58, .vec 1), (59, I s2), (60, I s3)] [.one opT (.d opT s4), .row (.int .i64) s5 false]) (fun s1 s2 s3 s4 s5 hb => loop_round2 (S := ofL Sl37r13) (L := lofL Ll37r13) hSl37r13 (inlOK _) hp hJ (by kernel_rfl) hb)

abbrev S37 : List (Nat × Pat × Sp) := [(103, none, sp103)]
theorem hS37 : SpecOK E (ofL S37) := specOK_cons h103 (specOK_nil)
abbrev L37 : List (Nat × List Nat × Pat × LSp) := [(38000004, [1, 24, 25, 26], none, lsl37r4), (38000013, [1, 5, 58, 59, 60], none, lsl37r13)]
def sp37 : Sp := fun args τ K => asCons args fun a1 r1 => asD opT a1 fun x1 => asNil r1 <| asNil τ <| c37 x1 (fun z1 => K (I z1) [])
theorem h37 : ∀ args τ K, sp37 args τ K → ACall E 37 args τ K := by
  intro args τ K h0
  unfold sp37 at h0
  obtain ⟨a1, r1, rfl, h1⟩ := asCons_inv h0; clear h0
  obtain ⟨x1, rfl, h2⟩ := asD_inv h1; clear h1
  obtain ⟨rfl, h3⟩ := asNil_inv h2; clear h2
  obtain ⟨rfl, h4⟩ := asNil_inv h3; clear h3
  exact ACall.spec2 (fn := Try.f37) (c := codeOf Try.f37) (S := ofL S37) (L := lofL L37) hS37 (by kernel_rfl) (by kernel_rfl) (inlOK _) (all_eq (by kernel_rfl : subsOf (E.info 37).keep (codeOf Try.f37) = [.loop (body Try.f37 4), .loop (body Try.f37 13)]) (all_cons (loopOK_of (mk := 38000004) (sl := [1, 24, 25, 26]) (ss := [([1, 24, 25, 26], lsl37r4)]) (by kernel_rfl) (by kernel_rfl) (all_cons l37r4v (all_nil))) (all_cons (loopOK_of (mk := 38000013) (sl := [1, 5, 58, 59, 60]) (ss := [([1, 5, 58, 59, 60], lsl37r13)]) (by kernel_rfl) (by kernel_rfl) (all_cons l37r13v (all_nil))) (all_nil)))) (by kernel_rfl) h4.of

abbrev Sl102r18v2 : List (Nat × Pat × Sp) := []
theorem hSl102r18v2 : SpecOK E (ofL Sl102r18v2) := specOK_nil
abbrev Ll102r18v2 : List (Nat × List Nat × Pat × LSp) := []
def lsl102r18v2 : LSp := fun vs σ K => asCons vs fun a1 r1 => asP (.ptr 1 0 []) a1 <| asCons r1 fun a2 r2 => asP (.ptr 2 0 []) a2 <| asCons r2 fun a3 r3 => asP (.ptr 3 0 []) a3 <| asCons r3 fun a4 r4 => asD (.int .i64) a4 fun s1 => asCons r4 fun a5 r5 => asD (.int .i64) a5 fun s2 => asCons r5 fun a6 r6 => asP (.vec 5) a6 <| asCons r6 fun a7 r7 => asP (.vec 0) a7 <| asCons r7 fun a8 r8 => asD (.int .i64) a8 fun s3 => asCons r8 fun a9 r9 => asD (.int .i64) a9 fun s4 => asNil r9 <| asCons σ fun a10 r10 => asRw (.int .i64) false a10 fun s5 => asCons r10 fun a11 r11 => asOne (.pair (.int .i64) (.pair (.int .i64) (.pair (.int .i64) (.pair (.arr 16 (.int .i64)) (.pair (.sl (.int .i64)) .unit))))) a11 fun a12 => asAgL a12 fun l13 => asCons l13 fun a14 r14 => asD (.int .i64) a14 fun s6 => asCons r14 fun a15 r15 => asD (.int .i64) a15 fun s7 => asCons r15 fun a16 r16 => asD (.int .i64) a16 fun s8 => asCons r16 fun a17 r17 => asD (.arr 16 (.int .i64)) a17 fun s9 => asCons r17 fun a18 r18 => asP (.vec 0) a18 <| asNil r18 <| asCons r11 fun a19 r19 => asOne opT a19 fun a20 => asD opT a20 fun s10 => asCons r19 fun a21 r21 => asOne (.pair (.int .i64) (.pair (.int .i64) (.pair (.int .i64) (.pair (.arr 16 (.int .i64)) (.pair (.sl (.int .i64)) .unit))))) a21 fun a22 => asAgL a22 fun l23 => asCons l23 fun a24 r24 => asD (.int .i64) a24 fun s11 => asCons r24 fun a25 r25 => asD (.int .i64) a25 fun s12 => asCons r25 fun a26 r26 => asD (.int .i64) a26 fun s13 => asCons r26 fun a27 r27 => asD (.arr 16 (.int .i64)) a27 fun s14 => asCons r27 fun a28 r28 => asP (.vec 4) a28 <| asNil r28 <| asCons r21 fun a29 r29 => asRw (.int .i64) false a29 fun s15 => asCons r29 fun a30 r30 => asRw (.int .i64) false a30 fun s16 => asNil r30 <| l102r18v2 (fun z1 z2 z3 z4 z5 z6 z7 z8 z9 z10 z11 z12 z13 z14 => K (.exit 0) [(3, .ptr 1 0 []), (4, .ptr 2 0 []), (6, .ptr 3 0 []), (12, I z1), (13, I z2), (14, .vec 5)] [.row (.int .i64) z3 false, .one (.pair (.int .i64) (.pair (.int .i64) (.pair (.int .i64) (.pair (.arr 16 (.int .i64)) (.pair (.sl (.int .i64)) .unit))))) (.agg [I z4, I z5, I z6, .d (.arr 16 (.int .i64)) z7, .vec 0]), .one opT (.d opT z8), .one (.pair (.int .i64) (.pair (.int .i64) (.pair (.int .i64) (.pair (.arr 16 (.int .i64)) (.pair (.sl (.int .i64)) .unit))))) (.agg [I z9, I z10, I z11, .d (.arr 16 (.int .i64)) z12, .vec 4]), .row (.int .i64) z13 false, .row (.int .i64) z14 false]) s1 s2 s3 s4 s5 s6 s7 s8 s9 s10 s11 s12 s13 s14 s15 s16
theorem l102r18v2v : LoopV E (inlF (PA (ACall E)) E 8) (E.info 102).keep 1 Try.f102.ntmps 103000018 (body Try.f102 18) ([3, 4, 6, 12, 13, 14, 67, 68, 69], lsl102r18v2) := by
  intro vs σ K (h0 : lsl102r18v2 vs σ K)
  unfold lsl102r18v2 at h0
  obtain ⟨a1, r1, rfl, h1⟩ := asCons_inv h0; clear h0
  obtain ⟨rfl, h2⟩ := asP_inv h1; clear h1
  obtain ⟨a2, r2, rfl, h3⟩ := asCons_inv h2; clear h2
  obtain ⟨rfl, h4⟩ := asP_inv h3; clear h3
  obtain ⟨a3, r3, rfl, h5⟩ := asCons_inv h4; clear h4
  obtain ⟨rfl, h6⟩ := asP_inv h5; clear h5
  obtain ⟨a4, r4, rfl, h7⟩ := asCons_inv h6; clear h6
  obtain ⟨s1, rfl, h8⟩ := asD_inv h7; clear h7
  obtain ⟨a5, r5, rfl, h9⟩ := asCons_inv h8; clear h8
  obtain ⟨s2, rfl, h10⟩ := asD_inv h9; clear h9
  obtain ⟨a6, r6, rfl, h11⟩ := asCons_inv h10; clear h10
  obtain ⟨rfl, h12⟩ := asP_inv h11; clear h11
  obtain ⟨a7, r7, rfl, h13⟩ := asCons_inv h12; clear h12
  obtain ⟨rfl, h14⟩ := asP_inv h13; clear h13
  obtain ⟨a8, r8, rfl, h15⟩ := asCons_inv h14; clear h14
  obtain ⟨s3, rfl, h16⟩ := asD_inv h15; clear h15
  obtain ⟨a9, r9, rfl, h17⟩ := asCons_inv h16; clear h16
  obtain ⟨s4, rfl, h18⟩ := asD_inv h17; clear h17
  obtain ⟨rfl, h19⟩ := asNil_inv h18; clear h18
  obtain ⟨a10, r10, rfl, h20⟩ := asCons_inv h19; clear h19
  obtain ⟨s5, rfl, h21⟩ := asRw_inv h20; clear h20
  obtain ⟨a11, r11, rfl, h22⟩ := asCons_inv h21; clear h21
  obtain ⟨a12, rfl, h23⟩ := asOne_inv h22; clear h22
  obtain ⟨l13, rfl, h24⟩ := asAgL_inv h23; clear h23
  obtain ⟨a14, r14, rfl, h25⟩ := asCons_inv h24; clear h24
  obtain ⟨s6, rfl, h26⟩ := asD_inv h25; clear h25
  obtain ⟨a15, r15, rfl, h27⟩ := asCons_inv h26; clear h26
  obtain ⟨s7, rfl, h28⟩ := asD_inv h27; clear h27
  obtain ⟨a16, r16, rfl, h29⟩ := asCons_inv h28; clear h28
  obtain ⟨s8, rfl, h30⟩ := asD_inv h29; clear h29
  obtain ⟨a17, r17, rfl, h31⟩ := asCons_inv h30; clear h30
  obtain ⟨s9, rfl, h32⟩ := asD_inv h31; clear h31
  obtain ⟨a18, r18, rfl, h33⟩ := asCons_inv h32; clear h32
  obtain ⟨rfl, h34⟩ := asP_inv h33; clear h33
  obtain ⟨rfl, h35⟩ := asNil_inv h34; clear h34
  obtain ⟨a19, r19, rfl, h36⟩ := asCons_inv h35; clear h35
  obtain ⟨a20, rfl, h37⟩ := asOne_inv h36; clear h36
  obtain ⟨s10, rfl, h38⟩ := asD_inv h37; clear h37
  obtain ⟨a21, r21, rfl, h39⟩ := asCons_inv h38; clear h38
  obtain ⟨a22, rfl, h40⟩ := asOne_inv h39; clear h39
  obtain ⟨l23, rfl, h41⟩ := asAgL_inv h40; clear h40
  obtain ⟨a24, r24, rfl, h42⟩ := asCons_inv h41; clear h41
  obtain ⟨s11, rfl, h43⟩ := asD_inv h42; clear h42
  obtain ⟨a25, r25, rfl, h44⟩ := asCons_inv h43; clear h43
  obtain ⟨s12, rfl, h45⟩ := asD_inv h44; clear h44
  obtain ⟨a26, r26, rfl, h46⟩ := asCons_inv h45; clear h45
  obtain ⟨s13, rfl, h47⟩ := asD_inv h46; clear h46
  obtain ⟨a27, r27, rfl, h48⟩ := asCons_inv h47; clear h47
  obtain ⟨s14, rfl, h49⟩ := asD_inv h48; clear h48
  obtain ⟨a28, r28, rfl, h50⟩ := asCons_inv h49; clear h49
  obtain ⟨rfl, h51⟩ := asP_inv h50; clear h50
  obtain ⟨rfl, h52⟩ := asNil_inv h51; clear h51
  obtain ⟨a29, r29, rfl, h53⟩ := asCons_inv h52; clear h52
  obtain ⟨s15, rfl, h54⟩ := asRw_inv h53; clear h53
  obtain ⟨a30, r30, rfl, h55⟩ := asCons_inv h54; clear h54
  obtain ⟨s16, rfl, h56⟩ := asRw_inv h55; clear h55
  obtain ⟨rfl, h57⟩ := asNil_inv h56; clear h56
  intro J hJ
  have hp : ∀ c' ∈ subsOf (E.info 102).keep (body Try.f102 18), SubOK E (inlF (PA (ACall E)) E 8) (E.info 102).keep 1 Try.f102.ntmps (lofL Ll102r18v2) c' := all_eq (by kernel_rfl : subsOf (E.info 102).keep (body Try.f102 18) = []) (all_nil)
  exact h57.of (fun s1 s2 s3 s4 s5 s6 s7 s8 s9 s10 s11 s12 s13 s14 s15 s16 => J [(103000018, .undef), (3, .ptr 1 0 []), (4, .ptr 2 0 []), (6, .ptr 3 0 []), (12, I s1), (13, I s2), (14, .vec 5), (67, .vec 0), (68, I s3), (69, I s4)] [.row (.int .i64) s5 false, .one (.pair (.int .i64) (.pair (.int .i64) (.pair (.int .i64) (.pair (.arr 16 (.int .i64)) (.pair (.sl (.int .i64)) .unit))))) (.agg [I s6, I s7, I s8, .d (.arr 16 (.int .i64)) s9, .vec 0]), .one opT (.d opT s10), .one (.pair (.int .i64) (.pair (.int .i64) (.pair (.int .i64) (.pair (.arr 16 (.int .i64)) (.pair (.sl (.int .i64)) .unit))))) (.agg [I s11, I s12, I s13, .d (.arr 16 (.int .i64)) s14, .vec 4]), .row (.int .i64) s15 false, .row (.int .i64) s16 false]) (fun s1 s2 s3 s4 s5 s6 s7 s8 s9 s10 s11 s12 s13 s14 s15 s16 hb => loop_round2 (S := ofL Sl102r18v2) (L := lofL Ll102r18v2) hSl102r18v2 (inlOK _) hp hJ (by kernel_rfl) hb)

abbrev S102v2 : List (Nat × Pat × Sp) := [(174, none, sp174), (175, none, sp175), (176, none, sp176), (177, none, sp177), (178, none, sp178), (179, none, sp179), (180, none, sp180)]
theorem hS102v2 : SpecOK E (ofL S102v2) := specOK_cons h174 (specOK_cons h175 (specOK_cons h176 (specOK_cons h177 (specOK_cons h178 (specOK_cons h179 (specOK_cons h180 (specOK_nil)))))))
abbrev L102v2 : List (Nat × List Nat × Pat × LSp) := [(103000018, [3, 4, 6, 12, 13, 14, 67, 68, 69], none, lsl102r18v2)]
def sp102v2 : Sp := fun args τ K => asCons args fun a1 r1 => asAgL a1 fun l2 => asCons l2 fun a3 r3 => asD (.int .i64) a3 fun x1 => asCons r3 fun a4 r4 => asD (.int .i64) a4 fun x2 => asCons r4 fun a5 r5 => asD (.int .i64) a5 fun x3 => asCons r5 fun a6 r6 => asD (.arr 16 (.int .i64)) a6 fun x4 => asCons r6 fun a7 r7 => asP (.vec 0) a7 <| asNil r7 <| asCons r1 fun a8 r8 => asD opT a8 fun x5 => asCons r8 fun a9 r9 => asD (.int .i64) a9 fun x6 => asNil r9 <| asCons τ fun a10 r10 => asRw (.int .i64) false a10 fun x7 => asNil r10 <| c102v2 x1 x2 x3 x4 x5 x6 x7 (fun z1 z2 z3 z4 z5 z6 z7 z8 => K (.tup [.agg [I z1, I z2, I z3, .d (.arr 16 (.int .i64)) z4, .vec 1], I z5, I z6]) [.row (.int .i64) z7 false, .row (.int .i64) z8 false])
theorem h102v2 : ∀ args τ K, sp102v2 args τ K → ACall E 102 args τ K := by
  intro args τ K h0
  unfold sp102v2 at h0
  obtain ⟨a1, r1, rfl, h1⟩ := asCons_inv h0; clear h0
  obtain ⟨l2, rfl, h2⟩ := asAgL_inv h1; clear h1
  obtain ⟨a3, r3, rfl, h3⟩ := asCons_inv h2; clear h2
  obtain ⟨x1, rfl, h4⟩ := asD_inv h3; clear h3
  obtain ⟨a4, r4, rfl, h5⟩ := asCons_inv h4; clear h4
  obtain ⟨x2, rfl, h6⟩ := asD_inv h5; clear h5
  obtain ⟨a5, r5, rfl, h7⟩ := asCons_inv h6; clear h6
  obtain ⟨x3, rfl, h8⟩ := asD_inv h7; clear h7
  obtain ⟨a6, r6, rfl, h9⟩ := asCons_inv h8; clear h8
  obtain ⟨x4, rfl, h10⟩ := asD_inv h9; clear h9
  obtain ⟨a7, r7, rfl, h11⟩ := asCons_inv h10; clear h10
  obtain ⟨rfl, h12⟩ := asP_inv h11; clear h11
  obtain ⟨rfl, h13⟩ := asNil_inv h12; clear h12
  obtain ⟨a8, r8, rfl, h14⟩ := asCons_inv h13; clear h13
  obtain ⟨x5, rfl, h15⟩ := asD_inv h14; clear h14
  obtain ⟨a9, r9, rfl, h16⟩ := asCons_inv h15; clear h15
  obtain ⟨x6, rfl, h17⟩ := asD_inv h16; clear h16
  obtain ⟨rfl, h18⟩ := asNil_inv h17; clear h17
  obtain ⟨a10, r10, rfl, h19⟩ := asCons_inv h18; clear h18
  obtain ⟨x7, rfl, h20⟩ := asRw_inv h19; clear h19
  obtain ⟨rfl, h21⟩ := asNil_inv h20; clear h20
  exact ACall.spec2 (fn := Try.f102) (c := codeOf Try.f102) (S := ofL S102v2) (L := lofL L102v2) hS102v2 (by kernel_rfl) (by kernel_rfl) (inlOK _) (all_eq (by kernel_rfl : subsOf (E.info 102).keep (codeOf Try.f102) = [.loop (body Try.f102 18)]) (all_cons (loopOK_of (mk := 103000018) (sl := [3, 4, 6, 12, 13, 14, 67, 68, 69]) (ss := [([3, 4, 6, 12, 13, 14, 67, 68, 69], lsl102r18v2)]) (by kernel_rfl) (by kernel_rfl) (all_cons l102r18v2v (all_nil))) (all_nil))) (by kernel_rfl) h21.of

abbrev S36v2 : List (Nat × Pat × Sp) := [(102, none, sp102v2)]
theorem hS36v2 : SpecOK E (ofL S36v2) := specOK_cons h102v2 (specOK_nil)
abbrev L36v2 : List (Nat × List Nat × Pat × LSp) := []
def sp36v2 : Sp := fun args τ K => asCons args fun a1 r1 => asP (.ptr 0 0 []) a1 <| asCons r1 fun a2 r2 => asD opT a2 fun x1 => asCons r2 fun a3 r3 => asD (.int .i64) a3 fun x2 => asNil r3 <| asCons τ fun a4 r4 => asOne (.pair (.pair (.int .i64) (.pair (.int .i64) (.pair (.int .i64) (.pair (.arr 16 (.int .i64)) (.pair (.sl (.int .i64)) .unit))))) (.pair (.int .i64) .unit)) a4 fun a5 => asAgL a5 fun l6 => asCons l6 fun a7 r7 => asAgL a7 fun l8 => asCons l8 fun a9 r9 => asD (.int .i64) a9 fun x3 => asCons r9 fun a10 r10 => asD (.int .i64) a10 fun x4 => asCons r10 fun a11 r11 => asD (.int .i64) a11 fun x5 => asCons r11 fun a12 r12 => asD (.arr 16 (.int .i64)) a12 fun x6 => asCons r12 fun a13 r13 => asP (.vec 1) a13 <| asNil r13 <| asCons r7 fun a14 r14 => asD (.int .i64) a14 fun x7 => asNil r14 <| asCons r4 fun a15 r15 => asRw (.int .i64) false a15 fun x8 => asNil r15 <| c36v2 x1 x2 x3 x4 x5 x6 x7 x8 (fun z1 z2 z3 z4 z5 z6 z7 z8 => K (.tup [I z1, I z2]) [.one (.pair (.pair (.int .i64) (.pair (.int .i64) (.pair (.int .i64) (.pair (.arr 16 (.int .i64)) (.pair (.sl (.int .i64)) .unit))))) (.pair (.int .i64) .unit)) (.agg [.agg [I z3, I z4, I z5, .d (.arr 16 (.int .i64)) z6, .vec 1], I z7]), .row (.int .i64) z8 false]) (fun z1 z2 z3 z4 z5 z6 z7 z8 z9 => K (.tup [I z1, I z2]) [.one (.pair (.pair (.int .i64) (.pair (.int .i64) (.pair (.int .i64) (.pair (.arr 16 (.int .i64)) (.pair (.sl (.int .i64)) .unit))))) (.pair (.int .i64) .unit)) (.agg [.agg [I z3, I z4, I z5, .d (.arr 16 (.int .i64)) z6, .vec 2], I z7]), .row (.int .i64) z8 false, .row (.int .i64) z9 false])
theorem h36v2 : ∀ args τ K, sp36v2 args τ K → ACall E 36 args τ K := by
  intro args τ K h0
  unfold sp36v2 at h0
  obtain ⟨a1, r1, rfl, h1⟩ := asCons_inv h0; clear h0
  obtain ⟨rfl, h2⟩ := asP_inv h1; clear h1
  obtain ⟨a2, r2, rfl, h3⟩ := asCons_inv h2; clear h2
  obtain ⟨x1, rfl, h4⟩ := asD_inv h3; clear h3
  obtain ⟨a3, r3, rfl, h5⟩ := asCons_inv h4; clear h4
  obtain ⟨x2, rfl, h6⟩ := asD_inv h5; clear h5
  obtain ⟨rfl, h7⟩ := asNil_inv h6; clear h6
  obtain ⟨a4, r4, rfl, h8⟩ := asCons_inv h7; clear h7
  obtain ⟨a5, rfl, h9⟩ := asOne_inv h8; clear h8
  obtain ⟨l6, rfl, h10⟩ := asAgL_inv h9; clear h9
  obtain ⟨a7, r7, rfl, h11⟩ := asCons_inv h10; clear h10
  obtain ⟨l8, rfl, h12⟩ := asAgL_inv h11; clear h11
  obtain ⟨a9, r9, rfl, h13⟩ := asCons_inv h12; clear h12
  obtain ⟨x3, rfl, h14⟩ := asD_inv h13; clear h13
  obtain ⟨a10, r10, rfl, h15⟩ := asCons_inv h14; clear h14
  obtain ⟨x4, rfl, h16⟩ := asD_inv h15; clear h15
  obtain ⟨a11, r11, rfl, h17⟩ := asCons_inv h16; clear h16
  obtain ⟨x5, rfl, h18⟩ := asD_inv h17; clear h17
  obtain ⟨a12, r12, rfl, h19⟩ := asCons_inv h18; clear h18
  obtain ⟨x6, rfl, h20⟩ := asD_inv h19; clear h19
  obtain ⟨a13, r13, rfl, h21⟩ := asCons_inv h20; clear h20
  obtain ⟨rfl, h22⟩ := asP_inv h21; clear h21
  obtain ⟨rfl, h23⟩ := asNil_inv h22; clear h22
  obtain ⟨a14, r14, rfl, h24⟩ := asCons_inv h23; clear h23
  obtain ⟨x7, rfl, h25⟩ := asD_inv h24; clear h24
  obtain ⟨rfl, h26⟩ := asNil_inv h25; clear h25
  obtain ⟨a15, r15, rfl, h27⟩ := asCons_inv h26; clear h26
  obtain ⟨x8, rfl, h28⟩ := asRw_inv h27; clear h27
  obtain ⟨rfl, h29⟩ := asNil_inv h28; clear h28
  exact ACall.spec2 (fn := Try.f36) (c := codeOf Try.f36) (S := ofL S36v2) (L := lofL L36v2) hS36v2 (by kernel_rfl) (by kernel_rfl) (inlOK _) (all_eq (by kernel_rfl : subsOf (E.info 36).keep (codeOf Try.f36) = []) (all_nil)) (by kernel_rfl) h29.of

abbrev S105 : List (Nat × Pat × Sp) := []
theorem hS105 : SpecOK E (ofL S105) := specOK_nil
abbrev L105 : List (Nat × List Nat × Pat × LSp) := []
def sp105 : Sp := fun args τ K => asCons args fun a1 r1 => asD (.int .i64) a1 fun x1 => asNil r1 <| asNil τ <| c105 x1 (fun z1 => K (I z1) [])
theorem h105 : ∀ args τ K, sp105 args τ K → ACall E 105 args τ K := by
  intro args τ K h0
  unfold sp105 at h0
  obtain ⟨a1, r1, rfl, h1⟩ := asCons_inv h0; clear h0
  obtain ⟨x1, rfl, h2⟩ := asD_inv h1; clear h1
  obtain ⟨rfl, h3⟩ := asNil_inv h2; clear h2
  obtain ⟨rfl, h4⟩ := asNil_inv h3; clear h3
  exact ACall.spec2 (fn := Try.f105) (c := codeOf Try.f105) (S := ofL S105) (L := lofL L105) hS105 (by kernel_rfl) (by kernel_rfl) (inlOK _) (all_eq (by kernel_rfl : subsOf (E.info 105).keep (codeOf Try.f105) = []) (all_nil)) (by kernel_rfl) h4.of

abbrev Sl106r6 : List (Nat × Pat × Sp) := []
theorem hSl106r6 : SpecOK E (ofL Sl106r6) := specOK_nil
abbrev Ll106r6 : List (Nat × List Nat × Pat × LSp) := []
def lsl106r6 : LSp := fun vs σ K => asCons vs fun a1 r1 => asP (.ptr 0 0 []) a1 <| asCons r1 fun a2 r2 => asP (.vec 1) a2 <| asCons r2 fun a3 r3 => asD (.sl (.int .u8)) a3 fun s1 => asCons r3 fun a4 r4 => asD (.int .i64) a4 fun s2 => asCons r4 fun a5 r5 => asD (.int .i64) a5 fun s3 => asNil r5 <| asCons σ fun a6 r6 => asOne opT a6 fun a7 => asD opT a7 fun s4 => asCons r6 fun a8 r8 => asRw (.int .i64) false a8 fun s5 => asNil r8 <| l106r6 (fun z1 => K (.exit 0) [(4, .vec 0)] [.row (.int .i64) z1 false]) s1 s2 s3 s4 s5
theorem l106r6v : LoopV E (inlF (PA (ACall E)) E 8) (E.info 106).keep 0 Try.f106.ntmps 107000006 (body Try.f106 6) ([1, 4, 24, 25, 26], lsl106r6) := by
  intro vs σ K (h0 : lsl106r6 vs σ K)
  unfold lsl106r6 at h0
  obtain ⟨a1, r1, rfl, h1⟩ := asCons_inv h0; clear h0
  obtain ⟨rfl, h2⟩ := asP_inv h1; clear h1
  obtain ⟨a2, r2, rfl, h3⟩ := asCons_inv h2; clear h2
  obtain ⟨rfl, h4⟩ := asP_inv h3; clear h3
  obtain ⟨a3, r3, rfl, h5⟩ := asCons_inv h4; clear h4
  obtain ⟨s1, rfl, h6⟩ := asD_inv h5; clear h5
  obtain ⟨a4, r4, rfl, h7⟩ := asCons_inv h6; clear h6
  obtain ⟨s2, rfl, h8⟩ := asD_inv h7; clear h7
  obtain ⟨a5, r5, rfl, h9⟩ := asCons_inv h8; clear h8
  obtain ⟨s3, rfl, h10⟩ := asD_inv h9; clear h9
  obtain ⟨rfl, h11⟩ := asNil_inv h10; clear h10
  obtain ⟨a6, r6, rfl, h12⟩ := asCons_inv h11; clear h11
  obtain ⟨a7, rfl, h13⟩ := asOne_inv h12; clear h12
  obtain ⟨s4, rfl, h14⟩ := asD_inv h13; clear h13
  obtain ⟨a8, r8, rfl, h15⟩ := asCons_inv h14; clear h14
  obtain ⟨s5, rfl, h16⟩ := asRw_inv h15; clear h15
  obtain ⟨rfl, h17⟩ := asNil_inv h16; clear h16
  intro J hJ
  have hp : ∀ c' ∈ subsOf (E.info 106).keep (body Try.f106 6), SubOK E (inlF (PA (ACall E)) E 8) (E.info 106).keep 0 Try.f106.ntmps (lofL Ll106r6) c' := all_eq (by kernel_rfl : subsOf (E.info 106).keep (body Try.f106 6) = []) (all_nil)
  exact h17.of (fun s1 s2 s3 s4 s5 => J [(107000006, .undef), (1, .ptr 0 0 []), (4, .vec 1), (24, .d (.sl (.int .u8)) s1), (25, I s2), (26, I s3)] [.one opT (.d opT s4), .row (.int .i64) s5 false]) (fun s1 s2 s3 s4 s5 hb => loop_round2 (S := ofL Sl106r6) (L := lofL Ll106r6) hSl106r6 (inlOK _) hp hJ (by kernel_rfl) hb)

abbrev S106 : List (Nat × Pat × Sp) := []
theorem hS106 : SpecOK E (ofL S106) := specOK_nil
abbrev L106 : List (Nat × List Nat × Pat × LSp) := [(107000006, [1, 4, 24, 25, 26], none, lsl106r6)]
def sp106 : Sp := fun args τ K => asCons args fun a1 r1 => asD opT a1 fun x1 => asNil r1 <| asNil τ <| c106 x1 (fun z1 => K (.vec 0) [.row (.int .i64) z1 false])
theorem h106 : ∀ args τ K, sp106 args τ K → ACall E 106 args τ K := by
  intro args τ K h0
  unfold sp106 at h0
  obtain ⟨a1, r1, rfl, h1⟩ := asCons_inv h0; clear h0
  obtain ⟨x1, rfl, h2⟩ := asD_inv h1; clear h1
  obtain ⟨rfl, h3⟩ := asNil_inv h2; clear h2
  obtain ⟨rfl, h4⟩ := asNil_inv h3; clear h3
  exact ACall.spec2 (fn := Try.f106) (c := codeOf Try.f106) (S := ofL S106) (L := lofL L106) hS106 (by kernel_rfl) (by kernel_rfl) (inlOK _) (all_eq (by kernel_rfl : subsOf (E.info 106).keep (codeOf Try.f106) = [.loop (body Try.f106 6)]) (all_cons (loopOK_of (mk := 107000006) (sl := [1, 4, 24, 25, 26]) (ss := [([1, 4, 24, 25, 26], lsl106r6)]) (by kernel_rfl) (by kernel_rfl) (all_cons l106r6v (all_nil))) (all_nil))) (by kernel_rfl) h4.of

abbrev Sl38r4 : List (Nat × Pat × Sp) := []
theorem hSl38r4 : SpecOK E (ofL Sl38r4) := specOK_nil
abbrev Ll38r4 : List (Nat × List Nat × Pat × LSp) := []
def lsl38r4 : LSp := fun vs σ K => asCons vs fun a1 r1 => asD (.int .i64) a1 fun s1 => asCons r1 fun a2 r2 => asP (.ptr 0 0 []) a2 <| asCons r2 fun a3 r3 => asP (.ptr 1 0 []) a3 <| asCons r3 fun a4 r4 => asP (.ptr 2 0 []) a4 <| asCons r4 fun a5 r5 => asD (.int .i64) a5 fun s2 => asCons r5 fun a6 r6 => asD (.int .i64) a6 fun s3 => asCons r6 fun a7 r7 => asP (.vec 4) a7 <| asCons r7 fun a8 r8 => asD (.int .i64) a8 fun s4 => asCons r8 fun a9 r9 => asD (.int .i64) a9 fun s5 => asNil r9 <| asCons σ fun a10 r10 => asOne (.pair (.int .i64) (.pair (.int .i64) (.pair (.int .i64) (.pair (.arr 16 (.int .i64)) (.pair (.sl (.int .i64)) .unit))))) a10 fun a11 => asD (.pair (.int .i64) (.pair (.int .i64) (.pair (.int .i64) (.pair (.arr 16 (.int .i64)) (.pair (.sl (.int .i64)) .unit))))) a11 fun s6 => asCons r10 fun a12 r12 => asOne opT a12 fun a13 => asD opT a13 fun s7 => asCons r12 fun a14 r14 => asOne (.pair (.int .i64) (.pair (.int .i64) (.pair (.int .i64) (.pair (.arr 16 (.int .i64)) (.pair (.sl (.int .i64)) .unit))))) a14 fun a15 => asAgL a15 fun l16 => asCons l16 fun a17 r17 => asD (.int .i64) a17 fun s8 => asCons r17 fun a18 r18 => asD (.int .i64) a18 fun s9 => asCons r18 fun a19 r19 => asD (.int .i64) a19 fun s10 => asCons r19 fun a20 r20 => asD (.arr 16 (.int .i64)) a20 fun s11 => asCons r20 fun a21 r21 => asP (.vec 3) a21 <| asNil r21 <| asCons r14 fun a22 r22 => asRw (.int .i64) false a22 fun s12 => asCons r22 fun a23 r23 => asRw (.int .i64) false a23 fun s13 => asNil r23 <| l38r4 (fun z1 z2 z3 z4 z5 z6 z7 z8 z9 z10 => K (.exit 0) [(2, I z1), (3, .ptr 0 0 []), (4, .ptr 1 0 []), (6, .ptr 2 0 []), (8, I z2), (9, I z3)] [.one (.pair (.int .i64) (.pair (.int .i64) (.pair (.int .i64) (.pair (.arr 16 (.int .i64)) (.pair (.sl (.int .i64)) .unit))))) (.d (.pair (.int .i64) (.pair (.int .i64) (.pair (.int .i64) (.pair (.arr 16 (.int .i64)) (.pair (.sl (.int .i64)) .unit))))) z4), .one opT (.d opT z5), .one (.pair (.int .i64) (.pair (.int .i64) (.pair (.int .i64) (.pair (.arr 16 (.int .i64)) (.pair (.sl (.int .i64)) .unit))))) (.agg [I z6, I z7, I z8, .d (.arr 16 (.int .i64)) z9, .vec 3]), .row (.int .i64) z10 false]) s1 s2 s3 s4 s5 s6 s7 s8 s9 s10 s11 s12 s13
theorem l38r4v : LoopV E (inlF (PA (ACall E)) E 8) (E.info 38).keep 0 Try.f38.ntmps 39000004 (body Try.f38 4) ([2, 3, 4, 6, 8, 9, 27, 28, 29], lsl38r4) := by
  intro vs σ K (h0 : lsl38r4 vs σ K)
  unfold lsl38r4 at h0
  obtain ⟨a1, r1, rfl, h1⟩ := asCons_inv h0; clear h0
  obtain ⟨s1, rfl, h2⟩ := asD_inv h1; clear h1
  obtain ⟨a2, r2, rfl, h3⟩ := asCons_inv h2; clear h2
  obtain ⟨rfl, h4⟩ := asP_inv h3; clear h3
  obtain ⟨a3, r3, rfl, h5⟩ := asCons_inv h4; clear h4
  obtain ⟨rfl, h6⟩ := asP_inv h5; clear h5
  obtain ⟨a4, r4, rfl, h7⟩ := asCons_inv h6; clear h6
  obtain ⟨rfl, h8⟩ := asP_inv h7; clear h7
  obtain ⟨a5, r5, rfl, h9⟩ := asCons_inv h8; clear h8
  obtain ⟨s2, rfl, h10⟩ := asD_inv h9; clear h9
  obtain ⟨a6, r6, rfl, h11⟩ := asCons_inv h10; clear h10
  obtain ⟨s3, rfl, h12⟩ := asD_inv h11; clear h11
  obtain ⟨a7, r7, rfl, h13⟩ := asCons_inv h12; clear h12
  obtain ⟨rfl, h14⟩ := asP_inv h13; clear h13
  obtain ⟨a8, r8, rfl, h15⟩ := asCons_inv h14; clear h14
  obtain ⟨s4, rfl, h16⟩ := asD_inv h15; clear h15
  obtain ⟨a9, r9, rfl, h17⟩ := asCons_inv h16; clear h16
  obtain ⟨s5, rfl, h18⟩ := asD_inv h17; clear h17
  obtain ⟨rfl, h19⟩ := asNil_inv h18; clear h18
  obtain ⟨a10, r10, rfl, h20⟩ := asCons_inv h19; clear h19
  obtain ⟨a11, rfl, h21⟩ := asOne_inv h20; clear h20
  obtain ⟨s6, rfl, h22⟩ := asD_inv h21; clear h21
  obtain ⟨a12, r12, rfl, h23⟩ := asCons_inv h22; clear h22
  obtain ⟨a13, rfl, h24⟩ := asOne_inv h23; clear h23
  obtain ⟨s7, rfl, h25⟩ := asD_inv h24; clear h24
  obtain ⟨a14, r14, rfl, h26⟩ := asCons_inv h25; clear h25
  obtain ⟨a15, rfl, h27⟩ := asOne_inv h26; clear h26
  obtain ⟨l16, rfl, h28⟩ := asAgL_inv h27; clear h27
  obtain ⟨a17, r17, rfl, h29⟩ := asCons_inv h28; clear h28
  obtain ⟨s8, rfl, h30⟩ := asD_inv h29; clear h29
  obtain ⟨a18, r18, rfl, h31⟩ := asCons_inv h30; clear h30
  obtain ⟨s9, rfl, h32⟩ := asD_inv h31; clear h31
  obtain ⟨a19, r19, rfl, h33⟩ := asCons_inv h32; clear h32
  obtain ⟨s10, rfl, h34⟩ := asD_inv h33; clear h33
  obtain ⟨a20, r20, rfl, h35⟩ := asCons_inv h34; clear h34
  obtain ⟨s11, rfl, h36⟩ := asD_inv h35; clear h35
  obtain ⟨a21, r21, rfl, h37⟩ := asCons_inv h36; clear h36
  obtain ⟨rfl, h38⟩ := asP_inv h37; clear h37
  obtain ⟨rfl, h39⟩ := asNil_inv h38; clear h38
  obtain ⟨a22, r22, rfl, h40⟩ := asCons_inv h39; clear h39
  obtain ⟨s12, rfl, h41⟩ := asRw_inv h40; clear h40
  obtain ⟨a23, r23, rfl, h42⟩ := asCons_inv h41; clear h41
  obtain ⟨s13, rfl, h43⟩ := asRw_inv h42; clear h42
  obtain ⟨rfl, h44⟩ := asNil_inv h43; clear h43
  intro J hJ
  have hp : ∀ c' ∈ subsOf (E.info 38).keep (body Try.f38 4), SubOK E (inlF (PA (ACall E)) E 8) (E.info 38).keep 0 Try.f38.ntmps (lofL Ll38r4) c' := all_eq (by kernel_rfl : subsOf (E.info 38).keep (body Try.f38 4) = []) (all_nil)
  exact h44.of (fun s1 s2 s3 s4 s5 s6 s7 s8 s9 s10 s11 s12 s13 => J [(39000004, .undef), (2, I s1), (3, .ptr 0 0 []), (4, .ptr 1 0 []), (6, .ptr 2 0 []), (8, I s2), (9, I s3), (27, .vec 4), (28, I s4), (29, I s5)] [.one (.pair (.int .i64) (.pair (.int .i64) (.pair (.int .i64) (.pair (.arr 16 (.int .i64)) (.pair (.sl (.int .i64)) .unit))))) (.d (.pair (.int .i64) (.pair (.int .i64) (.pair (.int .i64) (.pair (.arr 16 (.int .i64)) (.pair (.sl (.int .i64)) .unit))))) s6), .one opT (.d opT s7), .one (.pair (.int .i64) (.pair (.int .i64) (.pair (.int .i64) (.pair (.arr 16 (.int .i64)) (.pair (.sl (.int .i64)) .unit))))) (.agg [I s8, I s9, I s10, .d (.arr 16 (.int .i64)) s11, .vec 3]), .row (.int .i64) s12 false, .row (.int .i64) s13 false]) (fun s1 s2 s3 s4 s5 s6 s7 s8 s9 s10 s11 s12 s13 hb => loop_round2 (S := ofL Sl38r4) (L := lofL Ll38r4) hSl38r4 (inlOK _) hp hJ (by kernel_rfl) hb)

abbrev S111 : List (Nat × Pat × Sp) := []
theorem hS111 : SpecOK E (ofL S111) := specOK_nil
abbrev L111 : List (Nat × List Nat × Pat × LSp) := []
def sp111 : Sp := fun args τ K => asCons args fun a1 r1 => asD (.int .i64) a1 fun x1 => asCons r1 fun a2 r2 => asD (.int .i64) a2 fun x2 => asCons r2 fun a3 r3 => asD (.int .i64) a3 fun x3 => asNil r3 <| asNil τ <| c111 x1 x2 x3 (fun z1 => K (B z1) [])
theorem h111 : ∀ args τ K, sp111 args τ K → ACall E 111 args τ K := by
  intro args τ K h0
  unfold sp111 at h0
  obtain ⟨a1, r1, rfl, h1⟩ := asCons_inv h0; clear h0
  obtain ⟨x1, rfl, h2⟩ := asD_inv h1; clear h1
  obtain ⟨a2, r2, rfl, h3⟩ := asCons_inv h2; clear h2
  obtain ⟨x2, rfl, h4⟩ := asD_inv h3; clear h3
  obtain ⟨a3, r3, rfl, h5⟩ := asCons_inv h4; clear h4
  obtain ⟨x3, rfl, h6⟩ := asD_inv h5; clear h5
  obtain ⟨rfl, h7⟩ := asNil_inv h6; clear h6
  obtain ⟨rfl, h8⟩ := asNil_inv h7; clear h7
  exact ACall.spec2 (fn := Try.f111) (c := codeOf Try.f111) (S := ofL S111) (L := lofL L111) hS111 (by kernel_rfl) (by kernel_rfl) (inlOK _) (all_eq (by kernel_rfl : subsOf (E.info 111).keep (codeOf Try.f111) = []) (all_nil)) (by kernel_rfl) h8.of

abbrev S107 : List (Nat × Pat × Sp) := [(111, none, sp111), (103, none, sp103), (104, none, sp104)]
theorem hS107 : SpecOK E (ofL S107) := specOK_cons h111 (specOK_cons h103 (specOK_cons h104 (specOK_nil)))
abbrev L107 : List (Nat × List Nat × Pat × LSp) := []
def sp107 : Sp := fun args τ K => asCons args fun a1 r1 => asD opT a1 fun x1 => asNil r1 <| asNil τ <| c107 x1 (fun z1 => K (I z1) [])
theorem h107 : ∀ args τ K, sp107 args τ K → ACall E 107 args τ K := by
  intro args τ K h0
  unfold sp107 at h0
  obtain ⟨a1, r1, rfl, h1⟩ := asCons_inv h0; clear h0
  obtain ⟨x1, rfl, h2⟩ := asD_inv h1; clear h1
  obtain ⟨rfl, h3⟩ := asNil_inv h2; clear h2
  obtain ⟨rfl, h4⟩ := asNil_inv h3; clear h3
  exact ACall.spec2 (fn := Try.f107) (c := codeOf Try.f107) (S := ofL S107) (L := lofL L107) hS107 (by kernel_rfl) (by kernel_rfl) (inlOK _) (all_eq (by kernel_rfl : subsOf (E.info 107).keep (codeOf Try.f107) = []) (all_nil)) (by kernel_rfl) h4.of

abbrev Sl108r4 : List (Nat × Pat × Sp) := []
theorem hSl108r4 : SpecOK E (ofL Sl108r4) := specOK_nil
abbrev Ll108r4 : List (Nat × List Nat × Pat × LSp) := []
def lsl108r4 : LSp := fun vs σ K => asCons vs fun a1 r1 => asD (.int .i64) a1 fun s1 => asCons r1 fun a2 r2 => asD (.int .i64) a2 fun s2 => asCons r2 fun a3 r3 => asP (.ptr 0 0 []) a3 <| asCons r3 fun a4 r4 => asP (.ptr 1 0 []) a4 <| asCons r4 fun a5 r5 => asP (.vec 2) a5 <| asCons r5 fun a6 r6 => asD (.int .i64) a6 fun s3 => asCons r6 fun a7 r7 => asD (.int .i64) a7 fun s4 => asNil r7 <| asCons σ fun a8 r8 => asOne (.pair (.int .i64) (.pair (.int .i64) (.pair (.int .i64) (.pair (.arr 16 (.int .i64)) (.pair (.sl (.int .i64)) .unit))))) a8 fun a9 => asD (.pair (.int .i64) (.pair (.int .i64) (.pair (.int .i64) (.pair (.arr 16 (.int .i64)) (.pair (.sl (.int .i64)) .unit))))) a9 fun s5 => asCons r8 fun a10 r10 => asOne opT a10 fun a11 => asD opT a11 fun s6 => asCons r10 fun a12 r12 => asRw (.int .i64) false a12 fun s7 => asNil r12 <| l108r4 (fun z1 => K .ret [(2, .undef), (3, .undef), (4, .undef), (5, .undef), (8, B z1)] []) (fun z1 z2 z3 z4 => K (.exit 0) [(2, I z1), (3, I z2), (4, .ptr 0 0 []), (5, .ptr 1 0 []), (8, .undef)] [.one (.pair (.int .i64) (.pair (.int .i64) (.pair (.int .i64) (.pair (.arr 16 (.int .i64)) (.pair (.sl (.int .i64)) .unit))))) (.d (.pair (.int .i64) (.pair (.int .i64) (.pair (.int .i64) (.pair (.arr 16 (.int .i64)) (.pair (.sl (.int .i64)) .unit))))) z3), .one opT (.d opT z4)]) s1 s2 s3 s4 s5 s6 s7
theorem l108r4v : LoopV E (inlF (PA (ACall E)) E 8) (E.info 108).keep 0 Try.f108.ntmps 109000004 (body Try.f108 4) ([2, 3, 4, 5, 19, 20, 21], lsl108r4) := by
  intro vs σ K (h0 : lsl108r4 vs σ K)
  unfold lsl108r4 at h0
  obtain ⟨a1, r1, rfl, h1⟩ := asCons_inv h0; clear h0
  obtain ⟨s1, rfl, h2⟩ := asD_inv h1; clear h1
  obtain ⟨a2, r2, rfl, h3⟩ := asCons_inv h2; clear h2
  obtain ⟨s2, rfl, h4⟩ := asD_inv h3; clear h3
  obtain ⟨a3, r3, rfl, h5⟩ := asCons_inv h4; clear h4
  obtain ⟨rfl, h6⟩ := asP_inv h5; clear h5
  obtain ⟨a4, r4, rfl, h7⟩ := asCons_inv h6; clear h6
  obtain ⟨rfl, h8⟩ := asP_inv h7; clear h7
  obtain ⟨a5, r5, rfl, h9⟩ := asCons_inv h8; clear h8
  obtain ⟨rfl, h10⟩ := asP_inv h9; clear h9
  obtain ⟨a6, r6, rfl, h11⟩ := asCons_inv h10; clear h10
  obtain ⟨s3, rfl, h12⟩ := asD_inv h11; clear h11
  obtain ⟨a7, r7, rfl, h13⟩ := asCons_inv h12; clear h12
  obtain ⟨s4, rfl, h14⟩ := asD_inv h13; clear h13
  obtain ⟨rfl, h15⟩ := asNil_inv h14; clear h14
  obtain ⟨a8, r8, rfl, h16⟩ := asCons_inv h15; clear h15
  obtain ⟨a9, rfl, h17⟩ := asOne_inv h16; clear h16
  obtain ⟨s5, rfl, h18⟩ := asD_inv h17; clear h17
  obtain ⟨a10, r10, rfl, h19⟩ := asCons_inv h18; clear h18
  obtain ⟨a11, rfl, h20⟩ := asOne_inv h19; clear h19
  obtain ⟨s6, rfl, h21⟩ := asD_inv h20; clear h20
  obtain ⟨a12, r12, rfl, h22⟩ := asCons_inv h21; clear h21
  obtain ⟨s7, rfl, h23⟩ := asRw_inv h22; clear h22
  obtain ⟨rfl, h24⟩ := asNil_inv h23; clear h23
  intro J hJ
  have hp : ∀ c' ∈ subsOf (E.info 108).keep (body Try.f108 4), SubOK E (inlF (PA (ACall E)) E 8) (E.info 108).keep 0 Try.f108.ntmps (lofL Ll108r4) c' := all_eq (by kernel_rfl : subsOf (E.info 108).keep (body Try.f108 4) = []) (all_nil)
  exact h24.of (fun s1 s2 s3 s4 s5 s6 s7 => J [(109000004, .undef), (2, I s1), (3, I s2), (4, .ptr 0 0 []), (5, .ptr 1 0 []), (19, .vec 2), (20, I s3), (21, I s4)] [.one (.pair (.int .i64) (.pair (.int .i64) (.pair (.int .i64) (.pair (.arr 16 (.int .i64)) (.pair (.sl (.int .i64)) .unit))))) (.d (.pair (.int .i64) (.pair (.int .i64) (.pair (.int .i64) (.pair (.arr 16 (.int .i64)) (.pair (.sl (.int .i64)) .unit))))) s5), .one opT (.d opT s6), .row (.int .i64) s7 false]) (fun s1 s2 s3 s4 s5 s6 s7 hb => loop_round2 (S := ofL Sl108r4) (L := lofL Ll108r4) hSl108r4 (inlOK _) hp hJ (by kernel_rfl) hb)

abbrev Sl108r15 : List (Nat × Pat × Sp) := []
theorem hSl108r15 : SpecOK E (ofL Sl108r15) := specOK_nil
abbrev Ll108r15 : List (Nat × List Nat × Pat × LSp) := []
def lsl108r15 : LSp := fun vs σ K => asCons vs fun a1 r1 => asD (.int .i64) a1 fun s1 => asCons r1 fun a2 r2 => asD (.int .i64) a2 fun s2 => asCons r2 fun a3 r3 => asP (.ptr 0 0 []) a3 <| asCons r3 fun a4 r4 => asD (.int .i64) a4 fun s3 => asCons r4 fun a5 r5 => asD (.sl (.int .i64)) a5 fun s4 => asCons r5 fun a6 r6 => asD (.int .i64) a6 fun s5 => asCons r6 fun a7 r7 => asD (.int .i64) a7 fun s6 => asNil r7 <| asCons σ fun a8 r8 => asOne (.pair (.int .i64) (.pair (.int .i64) (.pair (.int .i64) (.pair (.arr 16 (.int .i64)) (.pair (.sl (.int .i64)) .unit))))) a8 fun a9 => asD (.pair (.int .i64) (.pair (.int .i64) (.pair (.int .i64) (.pair (.arr 16 (.int .i64)) (.pair (.sl (.int .i64)) .unit))))) a9 fun s7 => asNil r8 <| l108r15 (fun z1 => K .ret [(2, .undef), (3, .undef), (4, .undef), (8, B z1), (11, .undef)] []) (fun z1 z2 z3 z4 => K (.exit 2) [(2, I z1), (3, I z2), (4, .ptr 0 0 []), (8, .undef), (11, I z3)] [.one (.pair (.int .i64) (.pair (.int .i64) (.pair (.int .i64) (.pair (.arr 16 (.int .i64)) (.pair (.sl (.int .i64)) .unit))))) (.d (.pair (.int .i64) (.pair (.int .i64) (.pair (.int .i64) (.pair (.arr 16 (.int .i64)) (.pair (.sl (.int .i64)) .unit))))) z4)]) s1 s2 s3 s4 s5 s6 s7
theorem l108r15v : LoopV E (inlF (PA (ACall E)) E 8) (E.info 108).keep 0 Try.f108.ntmps 109000015 (body Try.f108 15) ([2, 3, 4, 11, 51, 52, 53], lsl108r15) := by
  intro vs σ K (h0 : lsl108r15 vs σ K)
  unfold lsl108r15 at h0
  obtain ⟨a1, r1, rfl, h1⟩ := asCons_inv h0; clear h0
  obtain ⟨s1, rfl, h2⟩ := asD_inv h1; clear h1
  obtain ⟨a2, r2, rfl, h3⟩ := asCons_inv h2; clear h2
  obtain ⟨s2, rfl, h4⟩ := asD_inv h3; clear h3
  obtain ⟨a3, r3, rfl, h5⟩ := asCons_inv h4; clear h4
  obtain ⟨rfl, h6⟩ := asP_inv h5; clear h5
  obtain ⟨a4, r4, rfl, h7⟩ := asCons_inv h6; clear h6
  obtain ⟨s3, rfl, h8⟩ := asD_inv h7; clear h7
  obtain ⟨a5, r5, rfl, h9⟩ := asCons_inv h8; clear h8
  obtain ⟨s4, rfl, h10⟩ := asD_inv h9; clear h9
  obtain ⟨a6, r6, rfl, h11⟩ := asCons_inv h10; clear h10
  obtain ⟨s5, rfl, h12⟩ := asD_inv h11; clear h11
  obtain ⟨a7, r7, rfl, h13⟩ := asCons_inv h12; clear h12
  obtain ⟨s6, rfl, h14⟩ := asD_inv h13; clear h13
  obtain ⟨rfl, h15⟩ := asNil_inv h14; clear h14
  obtain ⟨a8, r8, rfl, h16⟩ := asCons_inv h15; clear h15
  obtain ⟨a9, rfl, h17⟩ := asOne_inv h16; clear h16
  obtain ⟨s7, rfl, h18⟩ := asD_inv h17; clear h17
  obtain ⟨rfl, h19⟩ := asNil_inv h18; clear h18
  intro J hJ
  have hp : ∀ c' ∈ subsOf (E.info 108).keep (body Try.f108 15), SubOK E (inlF (PA (ACall E)) E 8) (E.info 108).keep 0 Try.f108.ntmps (lofL Ll108r15) c' := all_eq (by kernel_rfl : subsOf (E.info 108).keep (body Try.f108 15) = []) (all_nil)
  exact h19.of (fun s1 s2 s3 s4 s5 s6 s7 => J [(109000015, .undef), (2, I s1), (3, I s2), (4, .ptr 0 0 []), (11, I s3), (51, .d (.sl (.int .i64)) s4), (52, I s5), (53, I s6)] [.one (.pair (.int .i64) (.pair (.int .i64) (.pair (.int .i64) (.pair (.arr 16 (.int .i64)) (.pair (.sl (.int .i64)) .unit))))) (.d (.pair (.int .i64) (.pair (.int .i64) (.pair (.int .i64) (.pair (.arr 16 (.int .i64)) (.pair (.sl (.int .i64)) .unit))))) s7)]) (fun s1 s2 s3 s4 s5 s6 s7 hb => loop_round2 (S := ofL Sl108r15) (L := lofL Ll108r15) hSl108r15 (inlOK _) hp hJ (by kernel_rfl) hb)

abbrev S108 : List (Nat × Pat × Sp) := [(106, none, sp106), (107, none, sp107)]
theorem hS108 : SpecOK E (ofL S108) := specOK_cons h106 (specOK_cons h107 (specOK_nil))
abbrev L108 : List (Nat × List Nat × Pat × LSp) := [(109000004, [2, 3, 4, 5, 19, 20, 21], none, lsl108r4), (109000015, [2, 3, 4, 11, 51, 52, 53], none, lsl108r15)]
def sp108 : Sp := fun args τ K => asCons args fun a1 r1 => asD (.pair (.int .i64) (.pair (.int .i64) (.pair (.int .i64) (.pair (.arr 16 (.int .i64)) (.pair (.sl (.int .i64)) .unit))))) a1 fun x1 => asCons r1 fun a2 r2 => asD opT a2 fun x2 => asCons r2 fun a3 r3 => asD (.int .i64) a3 fun x3 => asCons r3 fun a4 r4 => asD (.int .i64) a4 fun x4 => asNil r4 <| asNil τ <| c108 x1 x2 x3 x4 (fun z1 => K (B z1) [])
theorem h108 : ∀ args τ K, sp108 args τ K → ACall E 108 args τ K := by
  intro args τ K h0
  unfold sp108 at h0
  obtain ⟨a1, r1, rfl, h1⟩ := asCons_inv h0; clear h0
  obtain ⟨x1, rfl, h2⟩ := asD_inv h1; clear h1
  obtain ⟨a2, r2, rfl, h3⟩ := asCons_inv h2; clear h2
  obtain ⟨x2, rfl, h4⟩ := asD_inv h3; clear h3
  obtain ⟨a3, r3, rfl, h5⟩ := asCons_inv h4; clear h4
  obtain ⟨x3, rfl, h6⟩ := asD_inv h5; clear h5
  obtain ⟨a4, r4, rfl, h7⟩ := asCons_inv h6; clear h6
  obtain ⟨x4, rfl, h8⟩ := asD_inv h7; clear h7
  obtain ⟨rfl, h9⟩ := asNil_inv h8; clear h8
  obtain ⟨rfl, h10⟩ := asNil_inv h9; clear h9
  exact ACall.spec2 (fn := Try.f108) (c := codeOf Try.f108) (S := ofL S108) (L := lofL L108) hS108 (by kernel_rfl) (by kernel_rfl) (inlOK _) (all_eq (by kernel_rfl : subsOf (E.info 108).keep (codeOf Try.f108) = [.loop (body Try.f108 4), .loop (body Try.f108 15)]) (all_cons (loopOK_of (mk := 109000004) (sl := [2, 3, 4, 5, 19, 20, 21]) (ss := [([2, 3, 4, 5, 19, 20, 21], lsl108r4)]) (by kernel_rfl) (by kernel_rfl) (all_cons l108r4v (all_nil))) (all_cons (loopOK_of (mk := 109000015) (sl := [2, 3, 4, 11, 51, 52, 53]) (ss := [([2, 3, 4, 11, 51, 52, 53], lsl108r15)]) (by kernel_rfl) (by kernel_rfl) (all_cons l108r15v (all_nil))) (all_nil)))) (by kernel_rfl) h10.of

abbrev Sl38r13 : List (Nat × Pat × Sp) := [(108, none, sp108)]
theorem hSl38r13 : SpecOK E (ofL Sl38r13) := specOK_cons h108 (specOK_nil)
abbrev Ll38r13 : List (Nat × List Nat × Pat × LSp) := []
def lsl38r13 : LSp := fun vs σ K => asCons vs fun a1 r1 => asD (.int .i64) a1 fun s1 => asCons r1 fun a2 r2 => asP (.ptr 0 0 []) a2 <| asCons r2 fun a3 r3 => asP (.ptr 1 0 []) a3 <| asCons r3 fun a4 r4 => asP (.ptr 2 0 []) a4 <| asCons r4 fun a5 r5 => asD (.int .i64) a5 fun s2 => asCons r5 fun a6 r6 => asD (.int .i64) a6 fun s3 => asNil r6 <| asCons σ fun a7 r7 => asOne (.pair (.int .i64) (.pair (.int .i64) (.pair (.int .i64) (.pair (.arr 16 (.int .i64)) (.pair (.sl (.int .i64)) .unit))))) a7 fun a8 => asD (.pair (.int .i64) (.pair (.int .i64) (.pair (.int .i64) (.pair (.arr 16 (.int .i64)) (.pair (.sl (.int .i64)) .unit))))) a8 fun s4 => asCons r7 fun a9 r9 => asOne opT a9 fun a10 => asD opT a10 fun s5 => asCons r9 fun a11 r11 => asOne (.pair (.int .i64) (.pair (.int .i64) (.pair (.int .i64) (.pair (.arr 16 (.int .i64)) (.pair (.sl (.int .i64)) .unit))))) a11 fun a12 => asAgL a12 fun l13 => asCons l13 fun a14 r14 => asD (.int .i64) a14 fun s6 => asCons r14 fun a15 r15 => asD (.int .i64) a15 fun s7 => asCons r15 fun a16 r16 => asD (.int .i64) a16 fun s8 => asCons r16 fun a17 r17 => asD (.arr 16 (.int .i64)) a17 fun s9 => asCons r17 fun a18 r18 => asP (.vec 3) a18 <| asNil r18 <| asCons r11 fun a19 r19 => asRw (.int .i64) false a19 fun s10 => asNil r19 <| l38r13 (fun z1 z2 z3 z4 z5 z6 z7 z8 z9 z10 => K (.exit 2) [(2, I z1), (3, .ptr 0 0 []), (4, .ptr 1 0 []), (6, .ptr 2 0 []), (8, I z2), (9, I z3)] [.one (.pair (.int .i64) (.pair (.int .i64) (.pair (.int .i64) (.pair (.arr 16 (.int .i64)) (.pair (.sl (.int .i64)) .unit))))) (.d (.pair (.int .i64) (.pair (.int .i64) (.pair (.int .i64) (.pair (.arr 16 (.int .i64)) (.pair (.sl (.int .i64)) .unit))))) z4), .one opT (.d opT z5), .one (.pair (.int .i64) (.pair (.int .i64) (.pair (.int .i64) (.pair (.arr 16 (.int .i64)) (.pair (.sl (.int .i64)) .unit))))) (.agg [I z6, I z7, I z8, .d (.arr 16 (.int .i64)) z9, .vec 3]), .row (.int .i64) z10 false]) s1 s2 s3 s4 s5 s6 s7 s8 s9 s10
theorem l38r13v : LoopV E (inlF (PA (ACall E)) E 8) (E.info 38).keep 0 Try.f38.ntmps 39000013 (body Try.f38 13) ([2, 3, 4, 6, 8, 9], lsl38r13) := by
  intro vs σ K (h0 : lsl38r13 vs σ K)
  unfold lsl38r13 at h0
  obtain ⟨a1, r1, rfl, h1⟩ := asCons_inv h0; clear h0
  obtain ⟨s1, rfl, h2⟩ := asD_inv h1; clear h1
  obtain ⟨a2, r2, rfl, h3⟩ := asCons_inv h2; clear h2
  obtain ⟨rfl, h4⟩ := asP_inv h3; clear h3
  obtain ⟨a3, r3, rfl, h5⟩ := asCons_inv h4; clear h4
  obtain ⟨rfl, h6⟩ := asP_inv h5; clear h5
  obtain ⟨a4, r4, rfl, h7⟩ := asCons_inv h6; clear h6
  obtain ⟨rfl, h8⟩ := asP_inv h7; clear h7
  obtain ⟨a5, r5, rfl, h9⟩ := asCons_inv h8; clear h8
  obtain ⟨s2, rfl, h10⟩ := asD_inv h9; clear h9
  obtain ⟨a6, r6, rfl, h11⟩ := asCons_inv h10; clear h10
  obtain ⟨s3, rfl, h12⟩ := asD_inv h11; clear h11
  obtain ⟨rfl, h13⟩ := asNil_inv h12; clear h12
  obtain ⟨a7, r7, rfl, h14⟩ := asCons_inv h13; clear h13
  obtain ⟨a8, rfl, h15⟩ := asOne_inv h14; clear h14
  obtain ⟨s4, rfl, h16⟩ := asD_inv h15; clear h15
  obtain ⟨a9, r9, rfl, h17⟩ := asCons_inv h16; clear h16
  obtain ⟨a10, rfl, h18⟩ := asOne_inv h17; clear h17
  obtain ⟨s5, rfl, h19⟩ := asD_inv h18; clear h18
  obtain ⟨a11, r11, rfl, h20⟩ := asCons_inv h19; clear h19
  obtain ⟨a12, rfl, h21⟩ := asOne_inv h20; clear h20
  obtain ⟨l13, rfl, h22⟩ := asAgL_inv h21; clear h21
  obtain ⟨a14, r14, rfl, h23⟩ := asCons_inv h22; clear h22
  obtain ⟨s6, rfl, h24⟩ := asD_inv h23; clear h23
  obtain ⟨a15, r15, rfl, h25⟩ := asCons_inv h24; clear h24
  obtain ⟨s7, rfl, h26⟩ := asD_inv h25; clear h25
  obtain ⟨a16, r16, rfl, h27⟩ := asCons_inv h26; clear h26
  obtain ⟨s8, rfl, h28⟩ := asD_inv h27; clear h27
  obtain ⟨a17, r17, rfl, h29⟩ := asCons_inv h28; clear h28
  obtain ⟨s9, rfl, h30⟩ := asD_inv h29; clear h29
  obtain ⟨a18, r18, rfl, h31⟩ := asCons_inv h30; clear h30
  obtain ⟨rfl, h32⟩ := asP_inv h31; clear h31
  obtain ⟨rfl, h33⟩ := asNil_inv h32; clear h32
  obtain ⟨a19, r19, rfl, h34⟩ := asCons_inv h33; clear h33
  obtain ⟨s10, rfl, h35⟩ := asRw_inv h34; clear h34
  obtain ⟨rfl, h36⟩ := asNil_inv h35; clear h35
  intro J hJ
  have hp : ∀ c' ∈ subsOf (E.info 38).keep (body Try.f38 13), SubOK E (inlF (PA (ACall E)) E 8) (E.info 38).keep 0 Try.f38.ntmps (lofL Ll38r13) c' := all_eq (by kernel_rfl : subsOf (E.info 38).keep (body Try.f38 13) = []) (all_nil)
  exact h36.of (fun s1 s2 s3 s4 s5 s6 s7 s8 s9 s10 => J [(39000013, .undef), (2, I s1), (3, .ptr 0 0 []), (4, .ptr 1 0 []), (6, .ptr 2 0 []), (8, I s2), (9, I s3)] [.one (.pair (.int .i64) (.pair (.int .i64) (.pair (.int .i64) (.pair (.arr 16 (.int .i64)) (.pair (.sl (.int .i64)) .unit))))) (.d (.pair (.int .i64) (.pair (.int .i64) (.pair (.int .i64) (.pair (.arr 16 (.int .i64)) (.pair (.sl (.int .i64)) .unit))))) s4), .one opT (.d opT s5), .one (.pair (.int .i64) (.pair (.int .i64) (.pair (.int .i64) (.pair (.arr 16 (.int .i64)) (.pair (.sl (.int .i64)) .unit))))) (.agg [I s6, I s7, I s8, .d (.arr 16 (.int .i64)) s9, .vec 3]), .row (.int .i64) s10 false]) (fun s1 s2 s3 s4 s5 s6 s7 s8 s9 s10 hb => loop_round2 (S := ofL Sl38r13) (L := lofL Ll38r13) hSl38r13 (inlOK _) hp hJ (by kernel_rfl) hb)

abbrev Sl38r25 : List (Nat × Pat × Sp) := []
theorem hSl38r25 : SpecOK E (ofL Sl38r25) := specOK_nil
abbrev Ll38r25 : List (Nat × List Nat × Pat × LSp) := []
def lsl38r25 : LSp := fun vs σ K => asCons vs fun a1 r1 => asP (.ptr 0 0 []) a1 <| asCons r1 fun a2 r2 => asD (.int .i64) a2 fun s1 => asCons r2 fun a3 r3 => asD (.int .i64) a3 fun s2 => asCons r3 fun a4 r4 => asP (.ptr 2 0 []) a4 <| asCons r4 fun a5 r5 => asP (.vec 4) a5 <| asCons r5 fun a6 r6 => asD (.int .i64) a6 fun s3 => asNil r6 <| asCons σ fun a7 r7 => asOne (.pair (.int .i64) (.pair (.int .i64) (.pair (.int .i64) (.pair (.arr 16 (.int .i64)) (.pair (.sl (.int .i64)) .unit))))) a7 fun a8 => asAgL a8 fun l9 => asCons l9 fun a10 r10 => asD (.int .i64) a10 fun s4 => asCons r10 fun a11 r11 => asD (.int .i64) a11 fun s5 => asCons r11 fun a12 r12 => asD (.int .i64) a12 fun s6 => asCons r12 fun a13 r13 => asD (.arr 16 (.int .i64)) a13 fun s7 => asCons r13 fun a14 r14 => asP (.vec 1) a14 <| asNil r14 <| asCons r7 fun a15 r15 => asRw (.int .i64) false a15 fun s8 => asCons r15 fun a16 r16 => asOne (.pair (.int .i64) (.pair (.int .i64) (.pair (.int .i64) (.pair (.arr 16 (.int .i64)) (.pair (.sl (.int .i64)) .unit))))) a16 fun a17 => asAgL a17 fun l18 => asCons l18 fun a19 r19 => asD (.int .i64) a19 fun s9 => asCons r19 fun a20 r20 => asD (.int .i64) a20 fun s10 => asCons r20 fun a21 r21 => asD (.int .i64) a21 fun s11 => asCons r21 fun a22 r22 => asD (.arr 16 (.int .i64)) a22 fun s12 => asCons r22 fun a23 r23 => asP (.vec 3) a23 <| asNil r23 <| asCons r16 fun a24 r24 => asRw (.int .i64) false a24 fun s13 => asCons r24 fun a25 r25 => asRw (.int .i64) false a25 fun s14 => asNil r25 <| l38r25 (fun z1 z2 z3 z4 z5 z6 z7 z8 z9 z10 z11 z12 z13 z14 => K (.exit 4) [(6, .ptr 0 0 []), (8, I z1), (9, I z2), (13, .ptr 2 0 []), (14, .vec 4), (16, I z3)] [.one (.pair (.int .i64) (.pair (.int .i64) (.pair (.int .i64) (.pair (.arr 16 (.int .i64)) (.pair (.sl (.int .i64)) .unit))))) (.agg [I z4, I z5, I z6, .d (.arr 16 (.int .i64)) z7, .vec 1]), .row (.int .i64) z8 false, .one (.pair (.int .i64) (.pair (.int .i64) (.pair (.int .i64) (.pair (.arr 16 (.int .i64)) (.pair (.sl (.int .i64)) .unit))))) (.agg [I z9, I z10, I z11, .d (.arr 16 (.int .i64)) z12, .vec 3]), .row (.int .i64) z13 false, .row (.int .i64) z14 false]) s1 s2 s3 s4 s5 s6 s7 s8 s9 s10 s11 s12 s13 s14
theorem l38r25v : LoopV E (inlF (PA (ACall E)) E 8) (E.info 38).keep 0 Try.f38.ntmps 39000025 (body Try.f38 25) ([6, 8, 9, 13, 14, 16], lsl38r25) := by
  intro vs σ K (h0 : lsl38r25 vs σ K)
  unfold lsl38r25 at h0
  obtain ⟨a1, r1, rfl, h1⟩ := asCons_inv h0; clear h0
  obtain ⟨rfl, h2⟩ := asP_inv h1; clear h1
  obtain ⟨a2, r2, rfl, h3⟩ := asCons_inv h2; clear h2
  obtain ⟨s1, rfl, h4⟩ := asD_inv h3; clear h3
  obtain ⟨a3, r3, rfl, h5⟩ := asCons_inv h4; clear h4
  obtain ⟨s2, rfl, h6⟩ := asD_inv h5; clear h5
  obtain ⟨a4, r4, rfl, h7⟩ := asCons_inv h6; clear h6
  obtain ⟨rfl, h8⟩ := asP_inv h7; clear h7
  obtain ⟨a5, r5, rfl, h9⟩ := asCons_inv h8; clear h8
  obtain ⟨rfl, h10⟩ := asP_inv h9; clear h9
  obtain ⟨a6, r6, rfl, h11⟩ := asCons_inv h10; clear h10
  obtain ⟨s3, rfl, h12⟩ := asD_inv h11; clear h11
  obtain ⟨rfl, h13⟩ := asNil_inv h12; clear h12
  obtain ⟨a7, r7, rfl, h14⟩ := asCons_inv h13; clear h13
  obtain ⟨a8, rfl, h15⟩ := asOne_inv h14; clear h14
  obtain ⟨l9, rfl, h16⟩ := asAgL_inv h15; clear h15
  obtain ⟨a10, r10, rfl, h17⟩ := asCons_inv h16; clear h16
  obtain ⟨s4, rfl, h18⟩ := asD_inv h17; clear h17
  obtain ⟨a11, r11, rfl, h19⟩ := asCons_inv h18; clear h18
  obtain ⟨s5, rfl, h20⟩ := asD_inv h19; clear h19
  obtain ⟨a12, r12, rfl, h21⟩ := asCons_inv h20; clear h20
  obtain ⟨s6, rfl, h22⟩ := asD_inv h21; clear h21
  obtain ⟨a13, r13, rfl, h23⟩ := asCons_inv h22; clear h22
  obtain ⟨s7, rfl, h24⟩ := asD_inv h23; clear h23
  obtain ⟨a14, r14, rfl, h25⟩ := asCons_inv h24; clear h24
  obtain ⟨rfl, h26⟩ := asP_inv h25; clear h25
  obtain ⟨rfl, h27⟩ := asNil_inv h26; clear h26
  obtain ⟨a15, r15, rfl, h28⟩ := asCons_inv h27; clear h27
  obtain ⟨s8, rfl, h29⟩ := asRw_inv h28; clear h28
  obtain ⟨a16, r16, rfl, h30⟩ := asCons_inv h29; clear h29
  obtain ⟨a17, rfl, h31⟩ := asOne_inv h30; clear h30
  obtain ⟨l18, rfl, h32⟩ := asAgL_inv h31; clear h31
  obtain ⟨a19, r19, rfl, h33⟩ := asCons_inv h32; clear h32
  obtain ⟨s9, rfl, h34⟩ := asD_inv h33; clear h33
  obtain ⟨a20, r20, rfl, h35⟩ := asCons_inv h34; clear h34
  obtain ⟨s10, rfl, h36⟩ := asD_inv h35; clear h35
  obtain ⟨a21, r21, rfl, h37⟩ := asCons_inv h36; clear h36
  obtain ⟨s11, rfl, h38⟩ := asD_inv h37; clear h37
  obtain ⟨a22, r22, rfl, h39⟩ := asCons_inv h38; clear h38
  obtain ⟨s12, rfl, h40⟩ := asD_inv h39; clear h39
  obtain ⟨a23, r23, rfl, h41⟩ := asCons_inv h40; clear h40
  obtain ⟨rfl, h42⟩ := asP_inv h41; clear h41
  obtain ⟨rfl, h43⟩ := asNil_inv h42; clear h42
  obtain ⟨a24, r24, rfl, h44⟩ := asCons_inv h43; clear h43
  obtain ⟨s13, rfl, h45⟩ := asRw_inv h44; clear h44
  obtain ⟨a25, r25, rfl, h46⟩ := asCons_inv h45; clear h45
  obtain ⟨s14, rfl, h47⟩ := asRw_inv h46; clear h46
  obtain ⟨rfl, h48⟩ := asNil_inv h47; clear h47
  intro J hJ
  have hp : ∀ c' ∈ subsOf (E.info 38).keep (body Try.f38 25), SubOK E (inlF (PA (ACall E)) E 8) (E.info 38).keep 0 Try.f38.ntmps (lofL Ll38r25) c' := all_eq (by kernel_rfl : subsOf (E.info 38).keep (body Try.f38 25) = []) (all_nil)
  exact h48.of (fun s1 s2 s3 s4 s5 s6 s7 s8 s9 s10 s11 s12 s13 s14 => J [(39000025, .undef), (6, .ptr 0 0 []), (8, I s1), (9, I s2), (13, .ptr 2 0 []), (14, .vec 4), (16, I s3)] [.one (.pair (.int .i64) (.pair (.int .i64) (.pair (.int .i64) (.pair (.arr 16 (.int .i64)) (.pair (.sl (.int .i64)) .unit))))) (.agg [I s4, I s5, I s6, .d (.arr 16 (.int .i64)) s7, .vec 1]), .row (.int .i64) s8 false, .one (.pair (.int .i64) (.pair (.int .i64) (.pair (.int .i64) (.pair (.arr 16 (.int .i64)) (.pair (.sl (.int .i64)) .unit))))) (.agg [I s9, I s10, I s11, .d (.arr 16 (.int .i64)) s12, .vec 3]), .row (.int .i64) s13 false, .row (.int .i64) s14 false]) (fun s1 s2 s3 s4 s5 s6 s7 s8 s9 s10 s11 s12 s13 s14 hb => loop_round2 (S := ofL Sl38r25) (L := lofL Ll38r25) hSl38r25 (inlOK _) hp hJ (by kernel_rfl) hb)

abbrev Sl38r29 : List (Nat × Pat × Sp) := []
theorem hSl38r29 : SpecOK E (ofL Sl38r29) := specOK_nil
abbrev Ll38r29 : List (Nat × List Nat × Pat × LSp) := []
def lsl38r29 : LSp := fun vs σ K => asCons vs fun a1 r1 => asP (.ptr 0 0 []) a1 <| asCons r1 fun a2 r2 => asD (.int .i64) a2 fun s1 => asCons r2 fun a3 r3 => asP (.ptr 2 0 []) a3 <| asCons r3 fun a4 r4 => asSl 4 true a4 fun s2 s3 s4 => asCons r4 fun a5 r5 => asD (.int .i64) a5 fun s5 => asCons r5 fun a6 r6 => asD (.int .i64) a6 fun s6 => asNil r6 <| asCons σ fun a7 r7 => asOne (.pair (.int .i64) (.pair (.int .i64) (.pair (.int .i64) (.pair (.arr 16 (.int .i64)) (.pair (.sl (.int .i64)) .unit))))) a7 fun a8 => asAgL a8 fun l9 => asCons l9 fun a10 r10 => asD (.int .i64) a10 fun s7 => asCons r10 fun a11 r11 => asD (.int .i64) a11 fun s8 => asCons r11 fun a12 r12 => asD (.int .i64) a12 fun s9 => asCons r12 fun a13 r13 => asD (.arr 16 (.int .i64)) a13 fun s10 => asCons r13 fun a14 r14 => asP (.vec 1) a14 <| asNil r14 <| asCons r7 fun a15 r15 => asRw (.int .i64) false a15 fun s11 => asCons r15 fun a16 r16 => asOne (.pair (.int .i64) (.pair (.int .i64) (.pair (.int .i64) (.pair (.arr 16 (.int .i64)) (.pair (.sl (.int .i64)) .unit))))) a16 fun a17 => asAgL a17 fun l18 => asCons l18 fun a19 r19 => asD (.int .i64) a19 fun s12 => asCons r19 fun a20 r20 => asD (.int .i64) a20 fun s13 => asCons r20 fun a21 r21 => asD (.int .i64) a21 fun s14 => asCons r21 fun a22 r22 => asD (.arr 16 (.int .i64)) a22 fun s15 => asCons r22 fun a23 r23 => asP (.vec 3) a23 <| asNil r23 <| asCons r16 fun a24 r24 => asRw (.int .i64) false a24 fun s16 => asCons r24 fun a25 r25 => asRw (.int .i64) false a25 fun s17 => asNil r25 <| l38r29 (fun z1 z2 z3 z4 z5 z6 z7 z8 z9 z10 z11 => K (.exit 6) [(6, .ptr 0 0 []), (9, I z1), (13, .ptr 2 0 [])] [.one (.pair (.int .i64) (.pair (.int .i64) (.pair (.int .i64) (.pair (.arr 16 (.int .i64)) (.pair (.sl (.int .i64)) .unit))))) (.agg [I z2, I z3, I z4, .d (.arr 16 (.int .i64)) z5, .vec 1]), .row (.int .i64) z6 false, .one (.pair (.int .i64) (.pair (.int .i64) (.pair (.int .i64) (.pair (.arr 16 (.int .i64)) (.pair (.sl (.int .i64)) .unit))))) (.agg [I z7, I z8, I z9, .d (.arr 16 (.int .i64)) z10, .vec 3]), .row (.int .i64) z11 false]) s1 s2 s3 s4 s5 s6 s7 s8 s9 s10 s11 s12 s13 s14 s15 s16 s17
theorem l38r29v : LoopV E (inlF (PA (ACall E)) E 8) (E.info 38).keep 0 Try.f38.ntmps 39000029 (body Try.f38 29) ([6, 9, 13, 149, 150, 151], lsl38r29) := by
  intro vs σ K (h0 : lsl38r29 vs σ K)
  unfold lsl38r29 at h0
  obtain ⟨a1, r1, rfl, h1⟩ := asCons_inv h0; clear h0
  obtain ⟨rfl, h2⟩ := asP_inv h1; clear h1
  obtain ⟨a2, r2, rfl, h3⟩ := asCons_inv h2; clear h2
  obtain ⟨s1, rfl, h4⟩ := asD_inv h3; clear h3
  obtain ⟨a3, r3, rfl, h5⟩ := asCons_inv h4; clear h4
  obtain ⟨rfl, h6⟩ := asP_inv h5; clear h5
  obtain ⟨a4, r4, rfl, h7⟩ := asCons_inv h6; clear h6
  obtain ⟨s2, s3, s4, rfl, h8⟩ := asSl_inv h7; clear h7
  obtain ⟨a5, r5, rfl, h9⟩ := asCons_inv h8; clear h8
  obtain ⟨s5, rfl, h10⟩ := asD_inv h9; clear h9
  obtain ⟨a6, r6, rfl, h11⟩ := asCons_inv h10; clear h10
  obtain ⟨s6, rfl, h12⟩ := asD_inv h11; clear h11
  obtain ⟨rfl, h13⟩ := asNil_inv h12; clear h12
  obtain ⟨a7, r7, rfl, h14⟩ := asCons_inv h13; clear h13
  obtain ⟨a8, rfl, h15⟩ := asOne_inv h14; clear h14
  obtain ⟨l9, rfl, h16⟩ := asAgL_inv h15; clear h15
  obtain ⟨a10, r10, rfl, h17⟩ := asCons_inv h16; clear h16
  obtain ⟨s7, rfl, h18⟩ := asD_inv h17; clear h17
  obtain ⟨a11, r11, rfl, h19⟩ := asCons_inv h18; clear h18
  obtain ⟨s8, rfl, h20⟩ := asD_inv h19; clear h19
  obtain ⟨a12, r12, rfl, h21⟩ := asCons_inv h20; clear h20
  obtain ⟨s9, rfl, h22⟩ := asD_inv h21; clear h21
  obtain ⟨a13, r13, rfl, h23⟩ := asCons_inv h22; clear h22
  obtain ⟨s10, rfl, h24⟩ := asD_inv h23; clear h23
  obtain ⟨a14, r14, rfl, h25⟩ := asCons_inv h24; clear h24
  obtain ⟨rfl, h26⟩ := asP_inv h25; clear h25
  obtain ⟨rfl, h27⟩ := asNil_inv h26; clear h26
  obtain ⟨a15, r15, rfl, h28⟩ := asCons_inv h27; clear h27
  obtain ⟨s11, rfl, h29⟩ := asRw_inv h28; clear h28
  obtain ⟨a16, r16, rfl, h30⟩ := asCons_inv h29; clear h29
  obtain ⟨a17, rfl, h31⟩ := asOne_inv h30; clear h30
  obtain ⟨l18, rfl, h32⟩ := asAgL_inv h31; clear h31
  obtain ⟨a19, r19, rfl, h33⟩ := asCons_inv h32; clear h32
  obtain ⟨s12, rfl, h34⟩ := asD_inv h33; clear h33
  obtain ⟨a20, r20, rfl, h35⟩ := asCons_inv h34; clear h34
  obtain ⟨s13, rfl, h36⟩ := asD_inv h35; clear h35
  obtain ⟨a21, r21, rfl, h37⟩ := asCons_inv h36; clear h36
  obtain ⟨s14, rfl, h38⟩ := asD_inv h37; clear h37
  obtain ⟨a22, r22, rfl, h39⟩ := asCons_inv h38; clear h38
  obtain ⟨s15, rfl, h40⟩ := asD_inv h39; clear h39
  obtain ⟨a23, r23, rfl, h41⟩ := asCons_inv h40; clear h40
  obtain ⟨rfl, h42⟩ := asP_inv h41; clear h41
  obtain ⟨rfl, h43⟩ := asNil_inv h42; clear h42
  obtain ⟨a24, r24, rfl, h44⟩ := asCons_inv h43; clear h43
  obtain ⟨s16, rfl, h45⟩ := asRw_inv h44; clear h44
  obtain ⟨a25, r25, rfl, h46⟩ := asCons_inv h45; clear h45
  obtain ⟨s17, rfl, h47⟩ := asRw_inv h46; clear h46
  obtain ⟨rfl, h48⟩ := asNil_inv h47; clear h47
  intro J hJ
  have hp : ∀ c' ∈ subsOf (E.info 38).keep (body Try.f38 29), SubOK E (inlF (PA (ACall E)) E 8) (E.info 38).keep 0 Try.f38.ntmps (lofL Ll38r29) c' := all_eq (by kernel_rfl : subsOf (E.info 38).keep (body Try.f38 29) = []) (all_nil)
  exact h48.of (fun s1 s2 s3 s4 s5 s6 s7 s8 s9 s10 s11 s12 s13 s14 s15 s16 s17 => J [(39000029, .undef), (6, .ptr 0 0 []), (9, I s1), (13, .ptr 2 0 []), (149, .sl 4 s2 s3 s4 true), (150, I s5), (151, I s6)] [.one (.pair (.int .i64) (.pair (.int .i64) (.pair (.int .i64) (.pair (.arr 16 (.int .i64)) (.pair (.sl (.int .i64)) .unit))))) (.agg [I s7, I s8, I s9, .d (.arr 16 (.int .i64)) s10, .vec 1]), .row (.int .i64) s11 false, .one (.pair (.int .i64) (.pair (.int .i64) (.pair (.int .i64) (.pair (.arr 16 (.int .i64)) (.pair (.sl (.int .i64)) .unit))))) (.agg [I s12, I s13, I s14, .d (.arr 16 (.int .i64)) s15, .vec 3]), .row (.int .i64) s16 false, .row (.int .i64) s17 false]) (fun s1 s2 s3 s4 s5 s6 s7 s8 s9 s10 s11 s12 s13 s14 s15 s16 s17 hb => loop_round2 (S := ofL Sl38r29) (L := lofL Ll38r29) hSl38r29 (inlOK _) hp hJ (by kernel_rfl) hb)

abbrev Sl38r29v2 : List (Nat × Pat × Sp) := []
theorem hSl38r29v2 : SpecOK E (ofL Sl38r29v2) := specOK_nil
abbrev Ll38r29v2 : List (Nat × List Nat × Pat × LSp) := []
def lsl38r29v2 : LSp := fun vs σ K => asCons vs fun a1 r1 => asP (.ptr 0 0 []) a1 <| asCons r1 fun a2 r2 => asD (.int .i64) a2 fun s1 => asCons r2 fun a3 r3 => asP (.ptr 2 0 []) a3 <| asCons r3 fun a4 r4 => asP (.vec 4) a4 <| asCons r4 fun a5 r5 => asD (.int .i64) a5 fun s2 => asCons r5 fun a6 r6 => asD (.int .i64) a6 fun s3 => asNil r6 <| asCons σ fun a7 r7 => asOne (.pair (.int .i64) (.pair (.int .i64) (.pair (.int .i64) (.pair (.arr 16 (.int .i64)) (.pair (.sl (.int .i64)) .unit))))) a7 fun a8 => asAgL a8 fun l9 => asCons l9 fun a10 r10 => asD (.int .i64) a10 fun s4 => asCons r10 fun a11 r11 => asD (.int .i64) a11 fun s5 => asCons r11 fun a12 r12 => asD (.int .i64) a12 fun s6 => asCons r12 fun a13 r13 => asD (.arr 16 (.int .i64)) a13 fun s7 => asCons r13 fun a14 r14 => asP (.vec 1) a14 <| asNil r14 <| asCons r7 fun a15 r15 => asRw (.int .i64) false a15 fun s8 => asCons r15 fun a16 r16 => asOne (.pair (.int .i64) (.pair (.int .i64) (.pair (.int .i64) (.pair (.arr 16 (.int .i64)) (.pair (.sl (.int .i64)) .unit))))) a16 fun a17 => asAgL a17 fun l18 => asCons l18 fun a19 r19 => asD (.int .i64) a19 fun s9 => asCons r19 fun a20 r20 => asD (.int .i64) a20 fun s10 => asCons r20 fun a21 r21 => asD (.int .i64) a21 fun s11 => asCons r21 fun a22 r22 => asD (.arr 16 (.int .i64)) a22 fun s12 => asCons r22 fun a23 r23 => asP (.vec 3) a23 <| asNil r23 <| asCons r16 fun a24 r24 => asRw (.int .i64) false a24 fun s13 => asCons r24 fun a25 r25 => asRw (.int .i64) false a25 fun s14 => asNil r25 <| l38r29v2 (fun z1 z2 z3 z4 z5 z6 z7 z8 z9 z10 z11 => K (.exit 6) [(6, .ptr 0 0 []), (9, I z1), (13, .ptr 2 0 [])] [.one (.pair (.int .i64) (.pair (.int .i64) (.pair (.int .i64) (.pair (.arr 16 (.int .i64)) (.pair (.sl (.int .i64)) .unit))))) (.agg [I z2, I z3, I z4, .d (.arr 16 (.int .i64)) z5, .vec 1]), .row (.int .i64) z6 false, .one (.pair (.int .i64) (.pair (.int .i64) (.pair (.int .i64) (.pair (.arr 16 (.int .i64)) (.pair (.sl (.int .i64)) .unit))))) (.agg [I z7, I z8, I z9, .d (.arr 16 (.int .i64)) z10, .vec 3]), .row (.int .i64) z11 false]) s1 s2 s3 s4 s5 s6 s7 s8 s9 s10 s11 s12 s13 s14
theorem l38r29v2v : LoopV E (inlF (PA (ACall E)) E 8) (E.info 38).keep 0 Try.f38.ntmps 39000029 (body Try.f38 29) ([6, 9, 13, 149, 150, 151], lsl38r29v2) := by
  intro vs σ K (h0 : lsl38r29v2 vs σ K)
  unfold lsl38r29v2 at h0
  obtain ⟨a1, r1, rfl, h1⟩ := asCons_inv h0; clear h0
  obtain ⟨rfl, h2⟩ := asP_inv h1; clear h1
  obtain ⟨a2, r2, rfl, h3⟩ := asCons_inv h2; clear h2
  obtain ⟨s1, rfl, h4⟩ := asD_inv h3; clear h3
  obtain ⟨a3, r3, rfl, h5⟩ := asCons_inv h4; clear h4
  obtain ⟨rfl, h6⟩ := asP_inv h5; clear h5
  obtain ⟨a4, r4, rfl, h7⟩ := asCons_inv h6; clear h6
  obtain ⟨rfl, h8⟩ := asP_inv h7; clear h7
  obtain ⟨a5, r5, rfl, h9⟩ := asCons_inv h8; clear h8
  obtain ⟨s2, rfl, h10⟩ := asD_inv h9; clear h9
  obtain ⟨a6, r6, rfl, h11⟩ := asCons_inv h10; clear h10
  obtain ⟨s3, rfl, h12⟩ := asD_inv h11; clear h11
  obtain ⟨rfl, h13⟩ := asNil_inv h12; clear h12
  obtain ⟨a7, r7, rfl, h14⟩ := asCons_inv h13; clear h13
  obtain ⟨a8, rfl, h15⟩ := asOne_inv h14; clear h14
  obtain ⟨l9, rfl, h16⟩ := asAgL_inv h15; clear h15
  obtain ⟨a10, r10, rfl, h17⟩ := asCons_inv h16; clear h16
  obtain ⟨s4, rfl, h18⟩ := asD_inv h17; clear h17
  obtain ⟨a11, r11, rfl, h19⟩ := asCons_inv h18; clear h18
  obtain ⟨s5, rfl, h20⟩ := asD_inv h19; clear h19
  obtain ⟨a12, r12, rfl, h21⟩ := asCons_inv h20; clear h20
  obtain ⟨s6, rfl, h22⟩ := asD_inv h21; clear h21
  obtain ⟨a13, r13, rfl, h23⟩ := asCons_inv h22; clear h22
  obtain ⟨s7, rfl, h24⟩ := asD_inv h23; clear h23
  obtain ⟨a14, r14, rfl, h25⟩ := asCons_inv h24; clear h24
  obtain ⟨rfl, h26⟩ := asP_inv h25; clear h25
  obtain ⟨rfl, h27⟩ := asNil_inv h26; clear h26
  obtain ⟨a15, r15, rfl, h28⟩ := asCons_inv h27; clear h27
  obtain ⟨s8, rfl, h29⟩ := asRw_inv h28; clear h28
  obtain ⟨a16, r16, rfl, h30⟩ := asCons_inv h29; clear h29
  obtain ⟨a17, rfl, h31⟩ := asOne_inv h30; clear h30
  obtain ⟨l18, rfl, h32⟩ := asAgL_inv h31; clear h31
  obtain ⟨a19, r19, rfl, h33⟩ := asCons_inv h32; clear h32
  obtain ⟨s9, rfl, h34⟩ := asD_inv h33; clear h33
  obtain ⟨a20, r20, rfl, h35⟩ := asCons_inv h34; clear h34
  obtain ⟨s10, rfl, h36⟩ := asD_inv h35; clear h35
  obtain ⟨a21, r21, rfl, h37⟩ := asCons_inv h36; clear h36
  obtain ⟨s11, rfl, h38⟩ := asD_inv h37; clear h37
  obtain ⟨a22, r22, rfl, h39⟩ := asCons_inv h38; clear h38
  obtain ⟨s12, rfl, h40⟩ := asD_inv h39; clear h39
  obtain ⟨a23, r23, rfl, h41⟩ := asCons_inv h40; clear h40
  obtain ⟨rfl, h42⟩ := asP_inv h41; clear h41
  obtain ⟨rfl, h43⟩ := asNil_inv h42; clear h42
  obtain ⟨a24, r24, rfl, h44⟩ := asCons_inv h43; clear h43
  obtain ⟨s13, rfl, h45⟩ := asRw_inv h44; clear h44
  obtain ⟨a25, r25, rfl, h46⟩ := asCons_inv h45; clear h45
  obtain ⟨s14, rfl, h47⟩ := asRw_inv h46; clear h46
  obtain ⟨rfl, h48⟩ := asNil_inv h47; clear h47
  intro J hJ
  have hp : ∀ c' ∈ subsOf (E.info 38).keep (body Try.f38 29), SubOK E (inlF (PA (ACall E)) E 8) (E.info 38).keep 0 Try.f38.ntmps (lofL Ll38r29v2) c' := all_eq (by kernel_rfl : subsOf (E.info 38).keep (body Try.f38 29) = []) (all_nil)
  exact h48.of (fun s1 s2 s3 s4 s5 s6 s7 s8 s9 s10 s11 s12 s13 s14 => J [(39000029, .undef), (6, .ptr 0 0 []), (9, I s1), (13, .ptr 2 0 []), (149, .vec 4), (150, I s2), (151, I s3)] [.one (.pair (.int .i64) (.pair (.int .i64) (.pair (.int .i64) (.pair (.arr 16 (.int .i64)) (.pair (.sl (.int .i64)) .unit))))) (.agg [I s4, I s5, I s6, .d (.arr 16 (.int .i64)) s7, .vec 1]), .row (.int .i64) s8 false, .one (.pair (.int .i64) (.pair (.int .i64) (.pair (.int .i64) (.pair (.arr 16 (.int .i64)) (.pair (.sl (.int .i64)) .unit))))) (.agg [I s9, I s10, I s11, .d (.arr 16 (.int .i64)) s12, .vec 3]), .row (.int .i64) s13 false, .row (.int .i64) s14 false]) (fun s1 s2 s3 s4 s5 s6 s7 s8 s9 s10 s11 s12 s13 s14 hb => loop_round2 (S := ofL Sl38r29v2) (L := lofL Ll38r29v2) hSl38r29v2 (inlOK _) hp hJ (by kernel_rfl) hb)

abbrev Sj38r20 : List (Nat × Pat × Sp) := [(107, none, sp107)]
theorem hSj38r20 : SpecOK E (ofL Sj38r20) := specOK_cons h107 (specOK_nil)
abbrev Lj38r20 : List (Nat × List Nat × Pat × LSp) := [(39000025, [6, 8, 9, 13, 14, 16], none, lsl38r25), (39000029, [6, 9, 13, 149, 150, 151], some ([.fix (.ptr 0 0 []), .d (.int .i64), .fix (.ptr 2 0 []), .sl 4 true, .d (.int .i64), .d (.int .i64)], [.one (.pair (.int .i64) (.pair (.int .i64) (.pair (.int .i64) (.pair (.arr 16 (.int .i64)) (.pair (.sl (.int .i64)) .unit))))) (.agg [.d (.int .i64), .d (.int .i64), .d (.int .i64), .d (.arr 16 (.int .i64)), .fix (.vec 1)]), .row (.int .i64) false, .one (.pair (.int .i64) (.pair (.int .i64) (.pair (.int .i64) (.pair (.arr 16 (.int .i64)) (.pair (.sl (.int .i64)) .unit))))) (.agg [.d (.int .i64), .d (.int .i64), .d (.int .i64), .d (.arr 16 (.int .i64)), .fix (.vec 3)]), .row (.int .i64) false, .row (.int .i64) false]), lsl38r29), (39000029, [6, 9, 13, 149, 150, 151], some ([.fix (.ptr 0 0 []), .d (.int .i64), .fix (.ptr 2 0 []), .fix (.vec 4), .d (.int .i64), .d (.int .i64)], [.one (.pair (.int .i64) (.pair (.int .i64) (.pair (.int .i64) (.pair (.arr 16 (.int .i64)) (.pair (.sl (.int .i64)) .unit))))) (.agg [.d (.int .i64), .d (.int .i64), .d (.int .i64), .d (.arr 16 (.int .i64)), .fix (.vec 1)]), .row (.int .i64) false, .one (.pair (.int .i64) (.pair (.int .i64) (.pair (.int .i64) (.pair (.arr 16 (.int .i64)) (.pair (.sl (.int .i64)) .unit))))) (.agg [.d (.int .i64), .d (.int .i64), .d (.int .i64), .d (.arr 16 (.int .i64)), .fix (.vec 3)]), .row (.int .i64) false, .row (.int .i64) false]), lsl38r29v2)]
def lsj38r20 : LSp := fun vs σ K => asCons vs fun a1 r1 => asP (.ptr 0 0 []) a1 <| asCons r1 fun a2 r2 => asP (.ptr 1 0 []) a2 <| asCons r2 fun a3 r3 => asP (.ptr 2 0 []) a3 <| asCons r3 fun a4 r4 => asD (.int .i64) a4 fun s1 => asCons r4 fun a5 r5 => asD (.int .i64) a5 fun s2 => asCons r5 fun a6 r6 => asP (.ptr 4 0 []) a6 <| asNil r6 <| asCons σ fun a7 r7 => asOne (.pair (.int .i64) (.pair (.int .i64) (.pair (.int .i64) (.pair (.arr 16 (.int .i64)) (.pair (.sl (.int .i64)) .unit))))) a7 fun a8 => asD (.pair (.int .i64) (.pair (.int .i64) (.pair (.int .i64) (.pair (.arr 16 (.int .i64)) (.pair (.sl (.int .i64)) .unit))))) a8 fun s3 => asCons r7 fun a9 r9 => asOne opT a9 fun a10 => asD opT a10 fun s4 => asCons r9 fun a11 r11 => asOne (.pair (.int .i64) (.pair (.int .i64) (.pair (.int .i64) (.pair (.arr 16 (.int .i64)) (.pair (.sl (.int .i64)) .unit))))) a11 fun a12 => asAgL a12 fun l13 => asCons l13 fun a14 r14 => asD (.int .i64) a14 fun s5 => asCons r14 fun a15 r15 => asD (.int .i64) a15 fun s6 => asCons r15 fun a16 r16 => asD (.int .i64) a16 fun s7 => asCons r16 fun a17 r17 => asD (.arr 16 (.int .i64)) a17 fun s8 => asCons r17 fun a18 r18 => asP (.vec 3) a18 <| asNil r18 <| asCons r11 fun a19 r19 => asRw (.int .i64) false a19 fun s9 => asCons r19 fun a20 r20 => asOne (.pair (.int .i64) (.pair (.int .i64) (.pair (.int .i64) (.pair (.arr 16 (.int .i64)) (.pair (.sl (.int .i64)) .unit))))) a20 fun a21 => asAgL a21 fun l22 => asCons l22 fun a23 r23 => asD (.int .i64) a23 fun s10 => asCons r23 fun a24 r24 => asD (.int .i64) a24 fun s11 => asCons r24 fun a25 r25 => asD (.int .i64) a25 fun s12 => asCons r25 fun a26 r26 => asD (.arr 16 (.int .i64)) a26 fun s13 => asCons r26 fun a27 r27 => asP (.vec 5) a27 <| asNil r27 <| asCons r20 fun a28 r28 => asRw (.int .i64) false a28 fun s14 => asNil r28 <| j38r20 (fun z1 z2 z3 z4 z5 z6 => K .ret [(6, .ptr 0 0 []), (7, I z1)] [.one (.pair (.int .i64) (.pair (.int .i64) (.pair (.int .i64) (.pair (.arr 16 (.int .i64)) (.pair (.sl (.int .i64)) .unit))))) (.agg [I z2, I z3, I z4, .d (.arr 16 (.int .i64)) z5, .vec 1]), .row (.int .i64) z6 false]) s1 s2 s3 s4 s5 s6 s7 s8 s9 s10 s11 s12 s13 s14
theorem j38r20v : JoinV E (inlF (PA (ACall E)) E 8) (E.info 38).keep 0 Try.f38.ntmps 39400020 4000020 (jbody Try.f38 4000020) ([3, 4, 6, 8, 9, 13], lsj38r20) := by
  intro vs σ K (h0 : lsj38r20 vs σ K)
  unfold lsj38r20 at h0
  obtain ⟨a1, r1, rfl, h1⟩ := asCons_inv h0; clear h0
  obtain ⟨rfl, h2⟩ := asP_inv h1; clear h1
  obtain ⟨a2, r2, rfl, h3⟩ := asCons_inv h2; clear h2
  obtain ⟨rfl, h4⟩ := asP_inv h3; clear h3
  obtain ⟨a3, r3, rfl, h5⟩ := asCons_inv h4; clear h4
  obtain ⟨rfl, h6⟩ := asP_inv h5; clear h5
  obtain ⟨a4, r4, rfl, h7⟩ := asCons_inv h6; clear h6
  obtain ⟨s1, rfl, h8⟩ := asD_inv h7; clear h7
  obtain ⟨a5, r5, rfl, h9⟩ := asCons_inv h8; clear h8
  obtain ⟨s2, rfl, h10⟩ := asD_inv h9; clear h9
  obtain ⟨a6, r6, rfl, h11⟩ := asCons_inv h10; clear h10
  obtain ⟨rfl, h12⟩ := asP_inv h11; clear h11
  obtain ⟨rfl, h13⟩ := asNil_inv h12; clear h12
  obtain ⟨a7, r7, rfl, h14⟩ := asCons_inv h13; clear h13
  obtain ⟨a8, rfl, h15⟩ := asOne_inv h14; clear h14
  obtain ⟨s3, rfl, h16⟩ := asD_inv h15; clear h15
  obtain ⟨a9, r9, rfl, h17⟩ := asCons_inv h16; clear h16
  obtain ⟨a10, rfl, h18⟩ := asOne_inv h17; clear h17
  obtain ⟨s4, rfl, h19⟩ := asD_inv h18; clear h18
  obtain ⟨a11, r11, rfl, h20⟩ := asCons_inv h19; clear h19
  obtain ⟨a12, rfl, h21⟩ := asOne_inv h20; clear h20
  obtain ⟨l13, rfl, h22⟩ := asAgL_inv h21; clear h21
  obtain ⟨a14, r14, rfl, h23⟩ := asCons_inv h22; clear h22
  obtain ⟨s5, rfl, h24⟩ := asD_inv h23; clear h23
  obtain ⟨a15, r15, rfl, h25⟩ := asCons_inv h24; clear h24
  obtain ⟨s6, rfl, h26⟩ := asD_inv h25; clear h25
  obtain ⟨a16, r16, rfl, h27⟩ := asCons_inv h26; clear h26
  obtain ⟨s7, rfl, h28⟩ := asD_inv h27; clear h27
  obtain ⟨a17, r17, rfl, h29⟩ := asCons_inv h28; clear h28
  obtain ⟨s8, rfl, h30⟩ := asD_inv h29; clear h29
  obtain ⟨a18, r18, rfl, h31⟩ := asCons_inv h30; clear h30
  obtain ⟨rfl, h32⟩ := asP_inv h31; clear h31
  obtain ⟨rfl, h33⟩ := asNil_inv h32; clear h32
  obtain ⟨a19, r19, rfl, h34⟩ := asCons_inv h33; clear h33
  obtain ⟨s9, rfl, h35⟩ := asRw_inv h34; clear h34
  obtain ⟨a20, r20, rfl, h36⟩ := asCons_inv h35; clear h35
  obtain ⟨a21, rfl, h37⟩ := asOne_inv h36; clear h36
  obtain ⟨l22, rfl, h38⟩ := asAgL_inv h37; clear h37
  obtain ⟨a23, r23, rfl, h39⟩ := asCons_inv h38; clear h38
  obtain ⟨s10, rfl, h40⟩ := asD_inv h39; clear h39
  obtain ⟨a24, r24, rfl, h41⟩ := asCons_inv h40; clear h40
  obtain ⟨s11, rfl, h42⟩ := asD_inv h41; clear h41
  obtain ⟨a25, r25, rfl, h43⟩ := asCons_inv h42; clear h42
  obtain ⟨s12, rfl, h44⟩ := asD_inv h43; clear h43
  obtain ⟨a26, r26, rfl, h45⟩ := asCons_inv h44; clear h44
  obtain ⟨s13, rfl, h46⟩ := asD_inv h45; clear h45
  obtain ⟨a27, r27, rfl, h47⟩ := asCons_inv h46; clear h46
  obtain ⟨rfl, h48⟩ := asP_inv h47; clear h47
  obtain ⟨rfl, h49⟩ := asNil_inv h48; clear h48
  obtain ⟨a28, r28, rfl, h50⟩ := asCons_inv h49; clear h49
  obtain ⟨s14, rfl, h51⟩ := asRw_inv h50; clear h50
  obtain ⟨rfl, h52⟩ := asNil_inv h51; clear h51
  exact join_round2 (S := ofL Sj38r20) (L := lofL Lj38r20) hSj38r20 (inlOK _) (all_eq (by kernel_rfl : subsOf (E.info 38).keep (jbody Try.f38 4000020) = [.loop (body Try.f38 25), .loop (body Try.f38 29)]) (all_cons (loopOK_of (mk := 39000025) (sl := [6, 8, 9, 13, 14, 16]) (ss := [([6, 8, 9, 13, 14, 16], lsl38r25)]) (by kernel_rfl) (by kernel_rfl) (all_cons l38r25v (all_nil))) (all_cons (loopOK_of (mk := 39000029) (sl := [6, 9, 13, 149, 150, 151]) (ss := [([6, 9, 13, 149, 150, 151], lsl38r29), ([6, 9, 13, 149, 150, 151], lsl38r29v2)]) (by kernel_rfl) (by kernel_rfl) (all_cons l38r29v (all_cons l38r29v2v (all_nil)))) (all_nil)))) (by kernel_rfl) h52.of

abbrev Sj38r18 : List (Nat × Pat × Sp) := []
theorem hSj38r18 : SpecOK E (ofL Sj38r18) := specOK_nil
abbrev Lj38r18 : List (Nat × List Nat × Pat × LSp) := [(39400020, [3, 4, 6, 8, 9, 13], none, lsj38r20)]
def lsj38r18 : LSp := fun vs σ K => asCons vs fun a1 r1 => asP (.ptr 0 0 []) a1 <| asCons r1 fun a2 r2 => asP (.ptr 1 0 []) a2 <| asCons r2 fun a3 r3 => asP (.ptr 2 0 []) a3 <| asCons r3 fun a4 r4 => asD (.int .i64) a4 fun s1 => asCons r4 fun a5 r5 => asD (.int .i64) a5 fun s2 => asCons r5 fun a6 r6 => asP (.ptr 4 0 []) a6 <| asNil r6 <| asCons σ fun a7 r7 => asOne (.pair (.int .i64) (.pair (.int .i64) (.pair (.int .i64) (.pair (.arr 16 (.int .i64)) (.pair (.sl (.int .i64)) .unit))))) a7 fun a8 => asD (.pair (.int .i64) (.pair (.int .i64) (.pair (.int .i64) (.pair (.arr 16 (.int .i64)) (.pair (.sl (.int .i64)) .unit))))) a8 fun s3 => asCons r7 fun a9 r9 => asOne opT a9 fun a10 => asD opT a10 fun s4 => asCons r9 fun a11 r11 => asOne (.pair (.int .i64) (.pair (.int .i64) (.pair (.int .i64) (.pair (.arr 16 (.int .i64)) (.pair (.sl (.int .i64)) .unit))))) a11 fun a12 => asAgL a12 fun l13 => asCons l13 fun a14 r14 => asD (.int .i64) a14 fun s5 => asCons r14 fun a15 r15 => asD (.int .i64) a15 fun s6 => asCons r15 fun a16 r16 => asD (.int .i64) a16 fun s7 => asCons r16 fun a17 r17 => asD (.arr 16 (.int .i64)) a17 fun s8 => asCons r17 fun a18 r18 => asP (.vec 3) a18 <| asNil r18 <| asCons r11 fun a19 r19 => asRw (.int .i64) false a19 fun s9 => asCons r19 fun a20 r20 => asOne (.pair (.int .i64) (.pair (.int .i64) (.pair (.int .i64) (.pair (.arr 16 (.int .i64)) (.pair (.sl (.int .i64)) .unit))))) a20 fun a21 => asAgL a21 fun l22 => asCons l22 fun a23 r23 => asD (.int .i64) a23 fun s10 => asCons r23 fun a24 r24 => asD (.int .i64) a24 fun s11 => asCons r24 fun a25 r25 => asD (.int .i64) a25 fun s12 => asCons r25 fun a26 r26 => asD (.arr 16 (.int .i64)) a26 fun s13 => asCons r26 fun a27 r27 => asP (.vec 5) a27 <| asNil r27 <| asCons r20 fun a28 r28 => asRw (.int .i64) false a28 fun s14 => asNil r28 <| j38r18 (fun z1 z2 z3 z4 z5 z6 => K .ret [(6, .ptr 0 0 []), (7, I z1)] [.one (.pair (.int .i64) (.pair (.int .i64) (.pair (.int .i64) (.pair (.arr 16 (.int .i64)) (.pair (.sl (.int .i64)) .unit))))) (.agg [I z2, I z3, I z4, .d (.arr 16 (.int .i64)) z5, .vec 1]), .row (.int .i64) z6 false]) s1 s2 s3 s4 s5 s6 s7 s8 s9 s10 s11 s12 s13 s14
theorem j38r18v : JoinV E (inlF (PA (ACall E)) E 8) (E.info 38).keep 0 Try.f38.ntmps 39400018 4000018 (jbody Try.f38 4000018) ([3, 4, 6, 8, 9, 13], lsj38r18) := by
  intro vs σ K (h0 : lsj38r18 vs σ K)
  unfold lsj38r18 at h0
  obtain ⟨a1, r1, rfl, h1⟩ := asCons_inv h0; clear h0
  obtain ⟨rfl, h2⟩ := asP_inv h1; clear h1
  obtain ⟨a2, r2, rfl, h3⟩ := asCons_inv h2; clear h2
  obtain ⟨rfl, h4⟩ := asP_inv h3; clear h3
  obtain ⟨a3, r3, rfl, h5⟩ := asCons_inv h4; clear h4
  obtain ⟨rfl, h6⟩ := asP_inv h5; clear h5
  obtain ⟨a4, r4, rfl, h7⟩ := asCons_inv h6; clear h6
  obtain ⟨s1, rfl, h8⟩ := asD_inv h7; clear h7
  obtain ⟨a5, r5, rfl, h9⟩ := asCons_inv h8; clear h8
  obtain ⟨s2, rfl, h10⟩ := asD_inv h9; clear h9
  obtain ⟨a6, r6, rfl, h11⟩ := asCons_inv h10; clear h10
  obtain ⟨rfl, h12⟩ := asP_inv h11; clear h11
  obtain ⟨rfl, h13⟩ := asNil_inv h12; clear h12
  obtain ⟨a7, r7, rfl, h14⟩ := asCons_inv h13; clear h13
  obtain ⟨a8, rfl, h15⟩ := asOne_inv h14; clear h14
  obtain ⟨s3, rfl, h16⟩ := asD_inv h15; clear h15
  obtain ⟨a9, r9, rfl, h17⟩ := asCons_inv h16; clear h16
  obtain ⟨a10, rfl, h18⟩ := asOne_inv h17; clear h17
  obtain ⟨s4, rfl, h19⟩ := asD_inv h18; clear h18
  obtain ⟨a11, r11, rfl, h20⟩ := asCons_inv h19; clear h19
  obtain ⟨a12, rfl, h21⟩ := asOne_inv h20; clear h20
  obtain ⟨l13, rfl, h22⟩ := asAgL_inv h21; clear h21
  obtain ⟨a14, r14, rfl, h23⟩ := asCons_inv h22; clear h22
  obtain ⟨s5, rfl, h24⟩ := asD_inv h23; clear h23
  obtain ⟨a15, r15, rfl, h25⟩ := asCons_inv h24; clear h24
  obtain ⟨s6, rfl, h26⟩ := asD_inv h25; clear h25
  obtain ⟨a16, r16, rfl, h27⟩ := asCons_inv h26; clear h26
  obtain ⟨s7, rfl, h28⟩ := asD_inv h27; clear h27
  obtain ⟨a17, r17, rfl, h29⟩ := asCons_inv h28; clear h28
  obtain ⟨s8, rfl, h30⟩ := asD_inv h29; clear h29
  obtain ⟨a18, r18, rfl, h31⟩ := asCons_inv h30; clear h30
  obtain ⟨rfl, h32⟩ := asP_inv h31; clear h31
  obtain ⟨rfl, h33⟩ := asNil_inv h32; clear h32
  obtain ⟨a19, r19, rfl, h34⟩ := asCons_inv h33; clear h33
  obtain ⟨s9, rfl, h35⟩ := asRw_inv h34; clear h34
  obtain ⟨a20, r20, rfl, h36⟩ := asCons_inv h35; clear h35
  obtain ⟨a21, rfl, h37⟩ := asOne_inv h36; clear h36
  obtain ⟨l22, rfl, h38⟩ := asAgL_inv h37; clear h37
  obtain ⟨a23, r23, rfl, h39⟩ := asCons_inv h38; clear h38
  obtain ⟨s10, rfl, h40⟩ := asD_inv h39; clear h39
  obtain ⟨a24, r24, rfl, h41⟩ := asCons_inv h40; clear h40
  obtain ⟨s11, rfl, h42⟩ := asD_inv h41; clear h41
  obtain ⟨a25, r25, rfl, h43⟩ := asCons_inv h42; clear h42
  obtain ⟨s12, rfl, h44⟩ := asD_inv h43; clear h43
  obtain ⟨a26, r26, rfl, h45⟩ := asCons_inv h44; clear h44
  obtain ⟨s13, rfl, h46⟩ := asD_inv h45; clear h45
  obtain ⟨a27, r27, rfl, h47⟩ := asCons_inv h46; clear h46
  obtain ⟨rfl, h48⟩ := asP_inv h47; clear h47
  obtain ⟨rfl, h49⟩ := asNil_inv h48; clear h48
  obtain ⟨a28, r28, rfl, h50⟩ := asCons_inv h49; clear h49
  obtain ⟨s14, rfl, h51⟩ := asRw_inv h50; clear h50
  obtain ⟨rfl, h52⟩ := asNil_inv h51; clear h51
  exact join_round2 (S := ofL Sj38r18) (L := lofL Lj38r18) hSj38r18 (inlOK _) (all_eq (by kernel_rfl : subsOf (E.info 38).keep (jbody Try.f38 4000018) = [.join 4000020 (jbody Try.f38 4000020)]) (all_cons (joinOK_of (mk := 39400020) (sl := [3, 4, 6, 8, 9, 13]) (ss := [([3, 4, 6, 8, 9, 13], lsj38r20)]) (by kernel_rfl) (by kernel_rfl) (all_cons j38r20v (all_nil))) (all_nil))) (by kernel_rfl) h52.of

abbrev Sj38r13 : List (Nat × Pat × Sp) := []
theorem hSj38r13 : SpecOK E (ofL Sj38r13) := specOK_nil
abbrev Lj38r13 : List (Nat × List Nat × Pat × LSp) := [(39000013, [2, 3, 4, 6, 8, 9], none, lsl38r13), (39400018, [3, 4, 6, 8, 9, 13], none, lsj38r18)]
def lsj38r13 : LSp := fun vs σ K => asCons vs fun a1 r1 => asD (.int .i64) a1 fun s1 => asCons r1 fun a2 r2 => asP (.ptr 0 0 []) a2 <| asCons r2 fun a3 r3 => asP (.ptr 1 0 []) a3 <| asCons r3 fun a4 r4 => asP (.ptr 2 0 []) a4 <| asCons r4 fun a5 r5 => asD (.int .i64) a5 fun s2 => asCons r5 fun a6 r6 => asD (.int .i64) a6 fun s3 => asNil r6 <| asCons σ fun a7 r7 => asOne (.pair (.int .i64) (.pair (.int .i64) (.pair (.int .i64) (.pair (.arr 16 (.int .i64)) (.pair (.sl (.int .i64)) .unit))))) a7 fun a8 => asD (.pair (.int .i64) (.pair (.int .i64) (.pair (.int .i64) (.pair (.arr 16 (.int .i64)) (.pair (.sl (.int .i64)) .unit))))) a8 fun s4 => asCons r7 fun a9 r9 => asOne opT a9 fun a10 => asD opT a10 fun s5 => asCons r9 fun a11 r11 => asOne (.pair (.int .i64) (.pair (.int .i64) (.pair (.int .i64) (.pair (.arr 16 (.int .i64)) (.pair (.sl (.int .i64)) .unit))))) a11 fun a12 => asAgL a12 fun l13 => asCons l13 fun a14 r14 => asD (.int .i64) a14 fun s6 => asCons r14 fun a15 r15 => asD (.int .i64) a15 fun s7 => asCons r15 fun a16 r16 => asD (.int .i64) a16 fun s8 => asCons r16 fun a17 r17 => asD (.arr 16 (.int .i64)) a17 fun s9 => asCons r17 fun a18 r18 => asP (.vec 3) a18 <| asNil r18 <| asCons r11 fun a19 r19 => asRw (.int .i64) false a19 fun s10 => asNil r19 <| j38r13 (fun z1 z2 z3 z4 z5 z6 => K .ret [(6, .ptr 0 0 []), (7, I z1)] [.one (.pair (.int .i64) (.pair (.int .i64) (.pair (.int .i64) (.pair (.arr 16 (.int .i64)) (.pair (.sl (.int .i64)) .unit))))) (.agg [I z2, I z3, I z4, .d (.arr 16 (.int .i64)) z5, .vec 1]), .row (.int .i64) z6 false]) s1 s2 s3 s4 s5 s6 s7 s8 s9 s10
theorem j38r13v : JoinV E (inlF (PA (ACall E)) E 8) (E.info 38).keep 0 Try.f38.ntmps 39400013 4000013 (jbody Try.f38 4000013) ([2, 3, 4, 6, 8, 9], lsj38r13) := by
  intro vs σ K (h0 : lsj38r13 vs σ K)
  unfold lsj38r13 at h0
  obtain ⟨a1, r1, rfl, h1⟩ := asCons_inv h0; clear h0
  obtain ⟨s1, rfl, h2⟩ := asD_inv h1; clear h1
  obtain ⟨a2, r2, rfl, h3⟩ := asCons_inv h2; clear h2
  obtain ⟨rfl, h4⟩ := asP_inv h3; clear h3
  obtain ⟨a3, r3, rfl, h5⟩ := asCons_inv h4; clear h4
  obtain ⟨rfl, h6⟩ := asP_inv h5; clear h5
  obtain ⟨a4, r4, rfl, h7⟩ := asCons_inv h6; clear h6
  obtain ⟨rfl, h8⟩ := asP_inv h7; clear h7
  obtain ⟨a5, r5, rfl, h9⟩ := asCons_inv h8; clear h8
  obtain ⟨s2, rfl, h10⟩ := asD_inv h9; clear h9
  obtain ⟨a6, r6, rfl, h11⟩ := asCons_inv h10; clear h10
  obtain ⟨s3, rfl, h12⟩ := asD_inv h11; clear h11
  obtain ⟨rfl, h13⟩ := asNil_inv h12; clear h12
  obtain ⟨a7, r7, rfl, h14⟩ := asCons_inv h13; clear h13
  obtain ⟨a8, rfl, h15⟩ := asOne_inv h14; clear h14
  obtain ⟨s4, rfl, h16⟩ := asD_inv h15; clear h15
  obtain ⟨a9, r9, rfl, h17⟩ := asCons_inv h16; clear h16
  obtain ⟨a10, rfl, h18⟩ := asOne_inv h17; clear h17
  obtain ⟨s5, rfl, h19⟩ := asD_inv h18; clear h18
  obtain ⟨a11, r11, rfl, h20⟩ := asCons_inv h19; clear h19
  obtain ⟨a12, rfl, h21⟩ := asOne_inv h20; clear h20
  obtain ⟨l13, rfl, h22⟩ := asAgL_inv h21; clear h21
  obtain ⟨a14, r14, rfl, h23⟩ := asCons_inv h22; clear h22
  obtain ⟨s6, rfl, h24⟩ := asD_inv h23; clear h23
  obtain ⟨a15, r15, rfl, h25⟩ := asCons_inv h24; clear h24
  obtain ⟨s7, rfl, h26⟩ := asD_inv h25; clear h25
  obtain ⟨a16, r16, rfl, h27⟩ := asCons_inv h26; clear h26
  obtain ⟨s8, rfl, h28⟩ := asD_inv h27; clear h27
  obtain ⟨a17, r17, rfl, h29⟩ := asCons_inv h28; clear h28
  obtain ⟨s9, rfl, h30⟩ := asD_inv h29; clear h29
  obtain ⟨a18, r18, rfl, h31⟩ := asCons_inv h30; clear h30
  obtain ⟨rfl, h32⟩ := asP_inv h31; clear h31
  obtain ⟨rfl, h33⟩ := asNil_inv h32; clear h32
  obtain ⟨a19, r19, rfl, h34⟩ := asCons_inv h33; clear h33
  obtain ⟨s10, rfl, h35⟩ := asRw_inv h34; clear h34
  obtain ⟨rfl, h36⟩ := asNil_inv h35; clear h35
  exact join_round2 (S := ofL Sj38r13) (L := lofL Lj38r13) hSj38r13 (inlOK _) (all_eq (by kernel_rfl : subsOf (E.info 38).keep (jbody Try.f38 4000013) = [.loop (body Try.f38 13), .join 4000018 (jbody Try.f38 4000018)]) (all_cons (loopOK_of (mk := 39000013) (sl := [2, 3, 4, 6, 8, 9]) (ss := [([2, 3, 4, 6, 8, 9], lsl38r13)]) (by kernel_rfl) (by kernel_rfl) (all_cons l38r13v (all_nil))) (all_cons (joinOK_of (mk := 39400018) (sl := [3, 4, 6, 8, 9, 13]) (ss := [([3, 4, 6, 8, 9, 13], lsj38r18)]) (by kernel_rfl) (by kernel_rfl) (all_cons j38r18v (all_nil))) (all_nil)))) (by kernel_rfl) h36.of

abbrev Sj38r10 : List (Nat × Pat × Sp) := [(107, none, sp107)]
theorem hSj38r10 : SpecOK E (ofL Sj38r10) := specOK_cons h107 (specOK_nil)
abbrev Lj38r10 : List (Nat × List Nat × Pat × LSp) := [(39400013, [2, 3, 4, 6, 8, 9], none, lsj38r13)]
def lsj38r10 : LSp := fun vs σ K => asCons vs fun a1 r1 => asD (.int .i64) a1 fun s1 => asCons r1 fun a2 r2 => asP (.ptr 0 0 []) a2 <| asCons r2 fun a3 r3 => asP (.ptr 1 0 []) a3 <| asCons r3 fun a4 r4 => asP (.ptr 2 0 []) a4 <| asCons r4 fun a5 r5 => asD (.int .i64) a5 fun s2 => asCons r5 fun a6 r6 => asD (.int .i64) a6 fun s3 => asNil r6 <| asCons σ fun a7 r7 => asOne (.pair (.int .i64) (.pair (.int .i64) (.pair (.int .i64) (.pair (.arr 16 (.int .i64)) (.pair (.sl (.int .i64)) .unit))))) a7 fun a8 => asD (.pair (.int .i64) (.pair (.int .i64) (.pair (.int .i64) (.pair (.arr 16 (.int .i64)) (.pair (.sl (.int .i64)) .unit))))) a8 fun s4 => asCons r7 fun a9 r9 => asOne opT a9 fun a10 => asD opT a10 fun s5 => asCons r9 fun a11 r11 => asOne (.pair (.int .i64) (.pair (.int .i64) (.pair (.int .i64) (.pair (.arr 16 (.int .i64)) (.pair (.sl (.int .i64)) .unit))))) a11 fun a12 => asAgL a12 fun l13 => asCons l13 fun a14 r14 => asD (.int .i64) a14 fun s6 => asCons r14 fun a15 r15 => asD (.int .i64) a15 fun s7 => asCons r15 fun a16 r16 => asD (.int .i64) a16 fun s8 => asCons r16 fun a17 r17 => asD (.arr 16 (.int .i64)) a17 fun s9 => asCons r17 fun a18 r18 => asP (.vec 3) a18 <| asNil r18 <| asCons r11 fun a19 r19 => asRw (.int .i64) false a19 fun s10 => asNil r19 <| j38r10 (fun z1 z2 z3 z4 z5 z6 => K .ret [(6, .ptr 0 0 []), (7, I z1)] [.one (.pair (.int .i64) (.pair (.int .i64) (.pair (.int .i64) (.pair (.arr 16 (.int .i64)) (.pair (.sl (.int .i64)) .unit))))) (.agg [I z2, I z3, I z4, .d (.arr 16 (.int .i64)) z5, .vec 1]), .row (.int .i64) z6 false]) s1 s2 s3 s4 s5 s6 s7 s8 s9 s10
theorem j38r10v : JoinV E (inlF (PA (ACall E)) E 8) (E.info 38).keep 0 Try.f38.ntmps 39400010 4000010 (jbody Try.f38 4000010) ([2, 3, 4, 6, 8, 9], lsj38r10) := by
  intro vs σ K (h0 : lsj38r10 vs σ K)
  unfold lsj38r10 at h0
  obtain ⟨a1, r1, rfl, h1⟩ := asCons_inv h0; clear h0
  obtain ⟨s1, rfl, h2⟩ := asD_inv h1; clear h1
  obtain ⟨a2, r2, rfl, h3⟩ := asCons_inv h2; clear h2
  obtain ⟨rfl, h4⟩ := asP_inv h3; clear h3
  obtain ⟨a3, r3, rfl, h5⟩ := asCons_inv h4; clear h4
  obtain ⟨rfl, h6⟩ := asP_inv h5; clear h5
  obtain ⟨a4, r4, rfl, h7⟩ := asCons_inv h6; clear h6
  obtain ⟨rfl, h8⟩ := asP_inv h7; clear h7
  obtain ⟨a5, r5, rfl, h9⟩ := asCons_inv h8; clear h8
  obtain ⟨s2, rfl, h10⟩ := asD_inv h9; clear h9
  obtain ⟨a6, r6, rfl, h11⟩ := asCons_inv h10; clear h10
  obtain ⟨s3, rfl, h12⟩ := asD_inv h11; clear h11
  obtain ⟨rfl, h13⟩ := asNil_inv h12; clear h12
  obtain ⟨a7, r7, rfl, h14⟩ := asCons_inv h13; clear h13
  obtain ⟨a8, rfl, h15⟩ := asOne_inv h14; clear h14
  obtain ⟨s4, rfl, h16⟩ := asD_inv h15; clear h15
  obtain ⟨a9, r9, rfl, h17⟩ := asCons_inv h16; clear h16
  obtain ⟨a10, rfl, h18⟩ := asOne_inv h17; clear h17
  obtain ⟨s5, rfl, h19⟩ := asD_inv h18; clear h18
  obtain ⟨a11, r11, rfl, h20⟩ := asCons_inv h19; clear h19
  obtain ⟨a12, rfl, h21⟩ := asOne_inv h20; clear h20
  obtain ⟨l13, rfl, h22⟩ := asAgL_inv h21; clear h21
  obtain ⟨a14, r14, rfl, h23⟩ := asCons_inv h22; clear h22
  obtain ⟨s6, rfl, h24⟩ := asD_inv h23; clear h23
  obtain ⟨a15, r15, rfl, h25⟩ := asCons_inv h24; clear h24
  obtain ⟨s7, rfl, h26⟩ := asD_inv h25; clear h25
  obtain ⟨a16, r16, rfl, h27⟩ := asCons_inv h26; clear h26
  obtain ⟨s8, rfl, h28⟩ := asD_inv h27; clear h27
  obtain ⟨a17, r17, rfl, h29⟩ := asCons_inv h28; clear h28
  obtain ⟨s9, rfl, h30⟩ := asD_inv h29; clear h29
  obtain ⟨a18, r18, rfl, h31⟩ := asCons_inv h30; clear h30
  obtain ⟨rfl, h32⟩ := asP_inv h31; clear h31
  obtain ⟨rfl, h33⟩ := asNil_inv h32; clear h32
  obtain ⟨a19, r19, rfl, h34⟩ := asCons_inv h33; clear h33
  obtain ⟨s10, rfl, h35⟩ := asRw_inv h34; clear h34
  obtain ⟨rfl, h36⟩ := asNil_inv h35; clear h35
  exact join_round2 (S := ofL Sj38r10) (L := lofL Lj38r10) hSj38r10 (inlOK _) (all_eq (by kernel_rfl : subsOf (E.info 38).keep (jbody Try.f38 4000010) = [.join 4000013 (jbody Try.f38 4000013)]) (all_cons (joinOK_of (mk := 39400013) (sl := [2, 3, 4, 6, 8, 9]) (ss := [([2, 3, 4, 6, 8, 9], lsj38r13)]) (by kernel_rfl) (by kernel_rfl) (all_cons j38r13v (all_nil))) (all_nil))) (by kernel_rfl) h36.of

abbrev S38 : List (Nat × Pat × Sp) := [(105, none, sp105), (106, none, sp106)]
theorem hS38 : SpecOK E (ofL S38) := specOK_cons h105 (specOK_cons h106 (specOK_nil))
abbrev L38 : List (Nat × List Nat × Pat × LSp) := [(39000004, [2, 3, 4, 6, 8, 9, 27, 28, 29], none, lsl38r4), (39400010, [2, 3, 4, 6, 8, 9], none, lsj38r10)]
def sp38 : Sp := fun args τ K => asCons args fun a1 r1 => asD (.pair (.int .i64) (.pair (.int .i64) (.pair (.int .i64) (.pair (.arr 16 (.int .i64)) (.pair (.sl (.int .i64)) .unit))))) a1 fun x1 => asCons r1 fun a2 r2 => asD opT a2 fun x2 => asCons r2 fun a3 r3 => asD (.int .i64) a3 fun x3 => asNil r3 <| asNil τ <| c38 x1 x2 x3 (fun z1 z2 z3 z4 z5 z6 => K (.tup [.agg [I z1, I z2, I z3, .d (.arr 16 (.int .i64)) z4, .vec 0], I z5]) [.row (.int .i64) z6 false])
theorem h38 : ∀ args τ K, sp38 args τ K → ACall E 38 args τ K := by
  intro args τ K h0
  unfold sp38 at h0
  obtain ⟨a1, r1, rfl, h1⟩ := asCons_inv h0; clear h0
  obtain ⟨x1, rfl, h2⟩ := asD_inv h1; clear h1
  obtain ⟨a2, r2, rfl, h3⟩ := asCons_inv h2; clear h2
  obtain ⟨x2, rfl, h4⟩ := asD_inv h3; clear h3
  obtain ⟨a3, r3, rfl, h5⟩ := asCons_inv h4; clear h4
  obtain ⟨x3, rfl, h6⟩ := asD_inv h5; clear h5
  obtain ⟨rfl, h7⟩ := asNil_inv h6; clear h6
  obtain ⟨rfl, h8⟩ := asNil_inv h7; clear h7
  exact ACall.spec2 (fn := Try.f38) (c := codeOf Try.f38) (S := ofL S38) (L := lofL L38) hS38 (by kernel_rfl) (by kernel_rfl) (inlOK _) (all_eq (by kernel_rfl : subsOf (E.info 38).keep (codeOf Try.f38) = [.loop (body Try.f38 4), .join 4000010 (jbody Try.f38 4000010)]) (all_cons (loopOK_of (mk := 39000004) (sl := [2, 3, 4, 6, 8, 9, 27, 28, 29]) (ss := [([2, 3, 4, 6, 8, 9, 27, 28, 29], lsl38r4)]) (by kernel_rfl) (by kernel_rfl) (all_cons l38r4v (all_nil))) (all_cons (joinOK_of (mk := 39400010) (sl := [2, 3, 4, 6, 8, 9]) (ss := [([2, 3, 4, 6, 8, 9], lsj38r10)]) (by kernel_rfl) (by kernel_rfl) (all_cons j38r10v (all_nil))) (all_nil)))) (by kernel_rfl) h8.of

abbrev Sl39r7 : List (Nat × Pat × Sp) := []
theorem hSl39r7 : SpecOK E (ofL Sl39r7) := specOK_nil
abbrev Ll39r7 : List (Nat × List Nat × Pat × LSp) := []
def lsl39r7 : LSp := fun vs σ K => asCons vs fun a1 r1 => asP (.ptr 0 0 []) a1 <| asCons r1 fun a2 r2 => asP (.vec 2) a2 <| asCons r2 fun a3 r3 => asP (.vec 1) a3 <| asCons r3 fun a4 r4 => asD (.int .i64) a4 fun s1 => asCons r4 fun a5 r5 => asD (.int .i64) a5 fun s2 => asNil r5 <| asCons σ fun a6 r6 => asOne (.pair (.pair (.int .i64) (.pair (.int .i64) (.pair (.int .i64) (.pair (.arr 16 (.int .i64)) (.pair (.sl (.int .i64)) .unit))))) (.pair (.int .i64) .unit)) a6 fun a7 => asAgL a7 fun l8 => asCons l8 fun a9 r9 => asAgL a9 fun l10 => asCons l10 fun a11 r11 => asD (.int .i64) a11 fun s3 => asCons r11 fun a12 r12 => asD (.int .i64) a12 fun s4 => asCons r12 fun a13 r13 => asD (.int .i64) a13 fun s5 => asCons r13 fun a14 r14 => asD (.arr 16 (.int .i64)) a14 fun s6 => asCons r14 fun a15 r15 => asP (.vec 1) a15 <| asNil r15 <| asCons r9 fun a16 r16 => asD (.int .i64) a16 fun s7 => asNil r16 <| asCons r6 fun a17 r17 => asRw (.int .i64) false a17 fun s8 => asCons r17 fun a18 r18 => asRw (.int .i64) false a18 fun s9 => asNil r18 <| l39r7 (fun z1 z2 z3 z4 z5 z6 z7 => K (.exit 0) [(0, .ptr 0 0 []), (5, .vec 2)] [.one (.pair (.pair (.int .i64) (.pair (.int .i64) (.pair (.int .i64) (.pair (.arr 16 (.int .i64)) (.pair (.sl (.int .i64)) .unit))))) (.pair (.int .i64) .unit)) (.agg [.agg [I z1, I z2, I z3, .d (.arr 16 (.int .i64)) z4, .vec 1], I z5]), .row (.int .i64) z6 false, .row (.int .i64) z7 false]) s1 s2 s3 s4 s5 s6 s7 s8 s9
theorem l39r7v : LoopV E (inlF (PA (ACall E)) E 8) (E.info 39).keep 2 Try.f39.ntmps 40000007 (body Try.f39 7) ([0, 5, 43, 44, 45], lsl39r7) := by
  intro vs σ K (h0 : lsl39r7 vs σ K)
  unfold lsl39r7 at h0
  obtain ⟨a1, r1, rfl, h1⟩ := asCons_inv h0; clear h0
  obtain ⟨rfl, h2⟩ := asP_inv h1; clear h1
  obtain ⟨a2, r2, rfl, h3⟩ := asCons_inv h2; clear h2
  obtain ⟨rfl, h4⟩ := asP_inv h3; clear h3
  obtain ⟨a3, r3, rfl, h5⟩ := asCons_inv h4; clear h4
  obtain ⟨rfl, h6⟩ := asP_inv h5; clear h5
  obtain ⟨a4, r4, rfl, h7⟩ := asCons_inv h6; clear h6
  obtain ⟨s1, rfl, h8⟩ := asD_inv h7; clear h7
  obtain ⟨a5, r5, rfl, h9⟩ := asCons_inv h8; clear h8
  obtain ⟨s2, rfl, h10⟩ := asD_inv h9; clear h9
  obtain ⟨rfl, h11⟩ := asNil_inv h10; clear h10
  obtain ⟨a6, r6, rfl, h12⟩ := asCons_inv h11; clear h11
  obtain ⟨a7, rfl, h13⟩ := asOne_inv h12; clear h12
  obtain ⟨l8, rfl, h14⟩ := asAgL_inv h13; clear h13
  obtain ⟨a9, r9, rfl, h15⟩ := asCons_inv h14; clear h14
  obtain ⟨l10, rfl, h16⟩ := asAgL_inv h15; clear h15
  obtain ⟨a11, r11, rfl, h17⟩ := asCons_inv h16; clear h16
  obtain ⟨s3, rfl, h18⟩ := asD_inv h17; clear h17
  obtain ⟨a12, r12, rfl, h19⟩ := asCons_inv h18; clear h18
  obtain ⟨s4, rfl, h20⟩ := asD_inv h19; clear h19
  obtain ⟨a13, r13, rfl, h21⟩ := asCons_inv h20; clear h20
  obtain ⟨s5, rfl, h22⟩ := asD_inv h21; clear h21
  obtain ⟨a14, r14, rfl, h23⟩ := asCons_inv h22; clear h22
  obtain ⟨s6, rfl, h24⟩ := asD_inv h23; clear h23
  obtain ⟨a15, r15, rfl, h25⟩ := asCons_inv h24; clear h24
  obtain ⟨rfl, h26⟩ := asP_inv h25; clear h25
  obtain ⟨rfl, h27⟩ := asNil_inv h26; clear h26
  obtain ⟨a16, r16, rfl, h28⟩ := asCons_inv h27; clear h27
  obtain ⟨s7, rfl, h29⟩ := asD_inv h28; clear h28
  obtain ⟨rfl, h30⟩ := asNil_inv h29; clear h29
  obtain ⟨a17, r17, rfl, h31⟩ := asCons_inv h30; clear h30
  obtain ⟨s8, rfl, h32⟩ := asRw_inv h31; clear h31
  obtain ⟨a18, r18, rfl, h33⟩ := asCons_inv h32; clear h32
  obtain ⟨s9, rfl, h34⟩ := asRw_inv h33; clear h33
  obtain ⟨rfl, h35⟩ := asNil_inv h34; clear h34
  intro J hJ
  have hp : ∀ c' ∈ subsOf (E.info 39).keep (body Try.f39 7), SubOK E (inlF (PA (ACall E)) E 8) (E.info 39).keep 2 Try.f39.ntmps (lofL Ll39r7) c' := all_eq (by kernel_rfl : subsOf (E.info 39).keep (body Try.f39 7) = []) (all_nil)
  exact h35.of (fun s1 s2 s3 s4 s5 s6 s7 s8 s9 => J [(40000007, .undef), (0, .ptr 0 0 []), (5, .vec 2), (43, .vec 1), (44, I s1), (45, I s2)] [.one (.pair (.pair (.int .i64) (.pair (.int .i64) (.pair (.int .i64) (.pair (.arr 16 (.int .i64)) (.pair (.sl (.int .i64)) .unit))))) (.pair (.int .i64) .unit)) (.agg [.agg [I s3, I s4, I s5, .d (.arr 16 (.int .i64)) s6, .vec 1], I s7]), .row (.int .i64) s8 false, .row (.int .i64) s9 false]) (fun s1 s2 s3 s4 s5 s6 s7 s8 s9 hb => loop_round2 (S := ofL Sl39r7) (L := lofL Ll39r7) hSl39r7 (inlOK _) hp hJ (by kernel_rfl) hb)

abbrev S39 : List (Nat × Pat × Sp) := []
theorem hS39 : SpecOK E (ofL S39) := specOK_nil
abbrev L39 : List (Nat × List Nat × Pat × LSp) := [(40000007, [0, 5, 43, 44, 45], none, lsl39r7)]
def sp39 : Sp := fun args τ K => asCons args fun a1 r1 => asP (.ptr 0 0 []) a1 <| asCons r1 fun a2 r2 => asD (.int .i64) a2 fun x1 => asNil r2 <| asCons τ fun a3 r3 => asOne (.pair (.pair (.int .i64) (.pair (.int .i64) (.pair (.int .i64) (.pair (.arr 16 (.int .i64)) (.pair (.sl (.int .i64)) .unit))))) (.pair (.int .i64) .unit)) a3 fun a4 => asAgL a4 fun l5 => asCons l5 fun a6 r6 => asAgL a6 fun l7 => asCons l7 fun a8 r8 => asD (.int .i64) a8 fun x2 => asCons r8 fun a9 r9 => asD (.int .i64) a9 fun x3 => asCons r9 fun a10 r10 => asD (.int .i64) a10 fun x4 => asCons r10 fun a11 r11 => asD (.arr 16 (.int .i64)) a11 fun x5 => asCons r11 fun a12 r12 => asP (.vec 1) a12 <| asNil r12 <| asCons r6 fun a13 r13 => asD (.int .i64) a13 fun x6 => asNil r13 <| asCons r3 fun a14 r14 => asRw (.int .i64) false a14 fun x7 => asNil r14 <| c39 x1 x2 x3 x4 x5 x6 x7 (fun z1 z2 z3 z4 z5 z6 z7 => K (I z1) [.one (.pair (.pair (.int .i64) (.pair (.int .i64) (.pair (.int .i64) (.pair (.arr 16 (.int .i64)) (.pair (.sl (.int .i64)) .unit))))) (.pair (.int .i64) .unit)) (.agg [.agg [I z2, I z3, I z4, .d (.arr 16 (.int .i64)) z5, .vec 1], I z6]), .row (.int .i64) z7 false]) (fun z1 z2 z3 z4 z5 z6 z7 z8 => K (I z1) [.one (.pair (.pair (.int .i64) (.pair (.int .i64) (.pair (.int .i64) (.pair (.arr 16 (.int .i64)) (.pair (.sl (.int .i64)) .unit))))) (.pair (.int .i64) .unit)) (.agg [.agg [I z2, I z3, I z4, .d (.arr 16 (.int .i64)) z5, .vec 2], I z6]), .row (.int .i64) z7 false, .row (.int .i64) z8 false])
theorem h39 : ∀ args τ K, sp39 args τ K → ACall E 39 args τ K := by
  intro args τ K h0
  unfold sp39 at h0
  obtain ⟨a1, r1, rfl, h1⟩ := asCons_inv h0; clear h0
  obtain ⟨rfl, h2⟩ := asP_inv h1; clear h1
  obtain ⟨a2, r2, rfl, h3⟩ := asCons_inv h2; clear h2
  obtain ⟨x1, rfl, h4⟩ := asD_inv h3; clear h3
  obtain ⟨rfl, h5⟩ := asNil_inv h4; clear h4
  obtain ⟨a3, r3, rfl, h6⟩ := asCons_inv h5; clear h5
  obtain ⟨a4, rfl, h7⟩ := asOne_inv h6; clear h6
  obtain ⟨l5, rfl, h8⟩ := asAgL_inv h7; clear h7
  obtain ⟨a6, r6, rfl, h9⟩ := asCons_inv h8; clear h8
  obtain ⟨l7, rfl, h10⟩ := asAgL_inv h9; clear h9
  obtain ⟨a8, r8, rfl, h11⟩ := asCons_inv h10; clear h10
  obtain ⟨x2, rfl, h12⟩ := asD_inv h11; clear h11
  obtain ⟨a9, r9, rfl, h13⟩ := asCons_inv h12; clear h12
  obtain ⟨x3, rfl, h14⟩ := asD_inv h13; clear h13
  obtain ⟨a10, r10, rfl, h15⟩ := asCons_inv h14; clear h14
  obtain ⟨x4, rfl, h16⟩ := asD_inv h15; clear h15
  obtain ⟨a11, r11, rfl, h17⟩ := asCons_inv h16; clear h16
  obtain ⟨x5, rfl, h18⟩ := asD_inv h17; clear h17
  obtain ⟨a12, r12, rfl, h19⟩ := asCons_inv h18; clear h18
  obtain ⟨rfl, h20⟩ := asP_inv h19; clear h19
  obtain ⟨rfl, h21⟩ := asNil_inv h20; clear h20
  obtain ⟨a13, r13, rfl, h22⟩ := asCons_inv h21; clear h21
  obtain ⟨x6, rfl, h23⟩ := asD_inv h22; clear h22
  obtain ⟨rfl, h24⟩ := asNil_inv h23; clear h23
  obtain ⟨a14, r14, rfl, h25⟩ := asCons_inv h24; clear h24
  obtain ⟨x7, rfl, h26⟩ := asRw_inv h25; clear h25
  obtain ⟨rfl, h27⟩ := asNil_inv h26; clear h26
  exact ACall.spec2 (fn := Try.f39) (c := codeOf Try.f39) (S := ofL S39) (L := lofL L39) hS39 (by kernel_rfl) (by kernel_rfl) (inlOK _) (all_eq (by kernel_rfl : subsOf (E.info 39).keep (codeOf Try.f39) = [.loop (body Try.f39 7)]) (all_cons (loopOK_of (mk := 40000007) (sl := [0, 5, 43, 44, 45]) (ss := [([0, 5, 43, 44, 45], lsl39r7)]) (by kernel_rfl) (by kernel_rfl) (all_cons l39r7v (all_nil))) (all_nil))) (by kernel_rfl) h27.of

abbrev S41 : List (Nat × Pat × Sp) := []
theorem hS41 : SpecOK E (ofL S41) := specOK_nil
abbrev L41 : List (Nat × List Nat × Pat × LSp) := []
def sp41 : Sp := fun args τ K => asCons args fun a1 r1 => asP (.ptr 0 0 []) a1 <| asNil r1 <| asCons τ fun a2 r2 => asOne (.pair (.pair (.int .i64) (.pair (.int .i64) (.pair (.int .i64) (.pair (.arr 16 (.int .i64)) (.pair (.sl (.int .i64)) .unit))))) (.pair (.int .i64) .unit)) a2 fun a3 => asAgL a3 fun l4 => asCons l4 fun a5 r5 => asAgL a5 fun l6 => asCons l6 fun a7 r7 => asD (.int .i64) a7 fun x1 => asCons r7 fun a8 r8 => asD (.int .i64) a8 fun x2 => asCons r8 fun a9 r9 => asD (.int .i64) a9 fun x3 => asCons r9 fun a10 r10 => asD (.arr 16 (.int .i64)) a10 fun x4 => asCons r10 fun a11 r11 => asP (.vec 1) a11 <| asNil r11 <| asCons r5 fun a12 r12 => asD (.int .i64) a12 fun x5 => asNil r12 <| asCons r2 fun a13 r13 => asRw (.int .i64) false a13 fun x6 => asNil r13 <| c41 x1 x2 x3 x4 x5 x6 (fun z1 z2 z3 z4 z5 z6 z7 => K (I z1) [.one (.pair (.pair (.int .i64) (.pair (.int .i64) (.pair (.int .i64) (.pair (.arr 16 (.int .i64)) (.pair (.sl (.int .i64)) .unit))))) (.pair (.int .i64) .unit)) (.agg [.agg [I z2, I z3, I z4, .d (.arr 16 (.int .i64)) z5, .vec 1], I z6]), .row (.int .i64) z7 false])
theorem h41 : ∀ args τ K, sp41 args τ K → ACall E 41 args τ K := by
  intro args τ K h0
  unfold sp41 at h0
  obtain ⟨a1, r1, rfl, h1⟩ := asCons_inv h0; clear h0
  obtain ⟨rfl, h2⟩ := asP_inv h1; clear h1
  obtain ⟨rfl, h3⟩ := asNil_inv h2; clear h2
  obtain ⟨a2, r2, rfl, h4⟩ := asCons_inv h3; clear h3
  obtain ⟨a3, rfl, h5⟩ := asOne_inv h4; clear h4
  obtain ⟨l4, rfl, h6⟩ := asAgL_inv h5; clear h5
  obtain ⟨a5, r5, rfl, h7⟩ := asCons_inv h6; clear h6
  obtain ⟨l6, rfl, h8⟩ := asAgL_inv h7; clear h7
  obtain ⟨a7, r7, rfl, h9⟩ := asCons_inv h8; clear h8
  obtain ⟨x1, rfl, h10⟩ := asD_inv h9; clear h9
  obtain ⟨a8, r8, rfl, h11⟩ := asCons_inv h10; clear h10
  obtain ⟨x2, rfl, h12⟩ := asD_inv h11; clear h11
  obtain ⟨a9, r9, rfl, h13⟩ := asCons_inv h12; clear h12
  obtain ⟨x3, rfl, h14⟩ := asD_inv h13; clear h13
  obtain ⟨a10, r10, rfl, h15⟩ := asCons_inv h14; clear h14
  obtain ⟨x4, rfl, h16⟩ := asD_inv h15; clear h15
  obtain ⟨a11, r11, rfl, h17⟩ := asCons_inv h16; clear h16
  obtain ⟨rfl, h18⟩ := asP_inv h17; clear h17
  obtain ⟨rfl, h19⟩ := asNil_inv h18; clear h18
  obtain ⟨a12, r12, rfl, h20⟩ := asCons_inv h19; clear h19
  obtain ⟨x5, rfl, h21⟩ := asD_inv h20; clear h20
  obtain ⟨rfl, h22⟩ := asNil_inv h21; clear h21
  obtain ⟨a13, r13, rfl, h23⟩ := asCons_inv h22; clear h22
  obtain ⟨x6, rfl, h24⟩ := asRw_inv h23; clear h23
  obtain ⟨rfl, h25⟩ := asNil_inv h24; clear h24
  exact ACall.spec2 (fn := Try.f41) (c := codeOf Try.f41) (S := ofL S41) (L := lofL L41) hS41 (by kernel_rfl) (by kernel_rfl) (inlOK _) (all_eq (by kernel_rfl : subsOf (E.info 41).keep (codeOf Try.f41) = []) (all_nil)) (by kernel_rfl) h25.of

abbrev S42 : List (Nat × Pat × Sp) := []
theorem hS42 : SpecOK E (ofL S42) := specOK_nil
abbrev L42 : List (Nat × List Nat × Pat × LSp) := []
def sp42 : Sp := fun args τ K => asCons args fun a1 r1 => asP (.ptr 0 0 []) a1 <| asNil r1 <| asCons τ fun a2 r2 => asOne (.pair (.pair (.int .i64) (.pair (.int .i64) (.pair (.int .i64) (.pair (.arr 16 (.int .i64)) (.pair (.sl (.int .i64)) .unit))))) (.pair (.int .i64) .unit)) a2 fun a3 => asAgL a3 fun l4 => asCons l4 fun a5 r5 => asAgL a5 fun l6 => asCons l6 fun a7 r7 => asD (.int .i64) a7 fun x1 => asCons r7 fun a8 r8 => asD (.int .i64) a8 fun x2 => asCons r8 fun a9 r9 => asD (.int .i64) a9 fun x3 => asCons r9 fun a10 r10 => asD (.arr 16 (.int .i64)) a10 fun x4 => asCons r10 fun a11 r11 => asP (.vec 1) a11 <| asNil r11 <| asCons r5 fun a12 r12 => asD (.int .i64) a12 fun x5 => asNil r12 <| asCons r2 fun a13 r13 => asRw (.int .i64) false a13 fun x6 => asNil r13 <| c42 x1 x2 x3 x4 x5 x6 (fun z1 z2 z3 z4 z5 z6 z7 => K (I z1) [.one (.pair (.pair (.int .i64) (.pair (.int .i64) (.pair (.int .i64) (.pair (.arr 16 (.int .i64)) (.pair (.sl (.int .i64)) .unit))))) (.pair (.int .i64) .unit)) (.agg [.agg [I z2, I z3, I z4, .d (.arr 16 (.int .i64)) z5, .vec 1], I z6]), .row (.int .i64) z7 false])
theorem h42 : ∀ args τ K, sp42 args τ K → ACall E 42 args τ K := by
  intro args τ K h0
  unfold sp42 at h0
  obtain ⟨a1, r1, rfl, h1⟩ := asCons_inv h0; clear h0
  obtain ⟨rfl, h2⟩ := asP_inv h1; clear h1
  obtain ⟨rfl, h3⟩ := asNil_inv h2; clear h2
  obtain ⟨a2, r2, rfl, h4⟩ := asCons_inv h3; clear h3
  obtain ⟨a3, rfl, h5⟩ := asOne_inv h4; clear h4
  obtain ⟨l4, rfl, h6⟩ := asAgL_inv h5; clear h5
  obtain ⟨a5, r5, rfl, h7⟩ := asCons_inv h6; clear h6
  obtain ⟨l6, rfl, h8⟩ := asAgL_inv h7; clear h7
  obtain ⟨a7, r7, rfl, h9⟩ := asCons_inv h8; clear h8
  obtain ⟨x1, rfl, h10⟩ := asD_inv h9; clear h9
  obtain ⟨a8, r8, rfl, h11⟩ := asCons_inv h10; clear h10
  obtain ⟨x2, rfl, h12⟩ := asD_inv h11; clear h11
  obtain ⟨a9, r9, rfl, h13⟩ := asCons_inv h12; clear h12
  obtain ⟨x3, rfl, h14⟩ := asD_inv h13; clear h13
  obtain ⟨a10, r10, rfl, h15⟩ := asCons_inv h14; clear h14
  obtain ⟨x4, rfl, h16⟩ := asD_inv h15; clear h15
  obtain ⟨a11, r11, rfl, h17⟩ := asCons_inv h16; clear h16
  obtain ⟨rfl, h18⟩ := asP_inv h17; clear h17
  obtain ⟨rfl, h19⟩ := asNil_inv h18; clear h18
  obtain ⟨a12, r12, rfl, h20⟩ := asCons_inv h19; clear h19
  obtain ⟨x5, rfl, h21⟩ := asD_inv h20; clear h20
  obtain ⟨rfl, h22⟩ := asNil_inv h21; clear h21
  obtain ⟨a13, r13, rfl, h23⟩ := asCons_inv h22; clear h22
  obtain ⟨x6, rfl, h24⟩ := asRw_inv h23; clear h23
  obtain ⟨rfl, h25⟩ := asNil_inv h24; clear h24
  exact ACall.spec2 (fn := Try.f42) (c := codeOf Try.f42) (S := ofL S42) (L := lofL L42) hS42 (by kernel_rfl) (by kernel_rfl) (inlOK _) (all_eq (by kernel_rfl : subsOf (E.info 42).keep (codeOf Try.f42) = []) (all_nil)) (by kernel_rfl) h25.of

abbrev Sj6r33 : List (Nat × Pat × Sp) := [(41, none, sp41), (42, none, sp42)]
theorem hSj6r33 : SpecOK E (ofL Sj6r33) := specOK_cons h41 (specOK_cons h42 (specOK_nil))
abbrev Lj6r33 : List (Nat × List Nat × Pat × LSp) := []
def lsj6r33 : LSp := fun vs σ K => asCons vs fun a1 r1 => asD (.sl (.int .i64)) a1 fun s1 => asCons r1 fun a2 r2 => asD (.sl (.int .i64)) a2 fun s2 => asCons r2 fun a3 r3 => asP (.ptr 0 0 []) a3 <| asCons r3 fun a4 r4 => asP (.ptr 2 0 []) a4 <| asCons r4 fun a5 r5 => asD (.int .i64) a5 fun s3 => asCons r5 fun a6 r6 => asD (.sl (.pair (.int .i64) (.pair (.int .i64) (.pair (.int .i64) (.pair (.int .i64) (.pair (.int .i64) .unit)))))) a6 fun s4 => asCons r6 fun a7 r7 => asD (.int .i64) a7 fun s5 => asCons r7 fun a8 r8 => asD (.int .i64) a8 fun s6 => asNil r8 <| asCons σ fun a9 r9 => asOne (.pair (.pair (.int .i64) (.pair (.int .i64) (.pair (.int .i64) (.pair (.arr 16 (.int .i64)) (.pair (.sl (.int .i64)) .unit))))) (.pair (.int .i64) .unit)) a9 fun a10 => asAgL a10 fun l11 => asCons l11 fun a12 r12 => asAgL a12 fun l13 => asCons l13 fun a14 r14 => asD (.int .i64) a14 fun s7 => asCons r14 fun a15 r15 => asD (.int .i64) a15 fun s8 => asCons r15 fun a16 r16 => asD (.int .i64) a16 fun s9 => asCons r16 fun a17 r17 => asD (.arr 16 (.int .i64)) a17 fun s10 => asCons r17 fun a18 r18 => asP (.vec 1) a18 <| asNil r18 <| asCons r12 fun a19 r19 => asD (.int .i64) a19 fun s11 => asNil r19 <| asCons r9 fun a20 r20 => asRw (.int .i64) false a20 fun s12 => asCons r20 fun a21 r21 => asOne (.pair (.int .i64) (.pair (.int .i64) (.pair (.int .i64) (.pair (.arr 16 (.int .i64)) (.pair (.sl (.int .i64)) .unit))))) a21 fun a22 => asAgL a22 fun l23 => asCons l23 fun a24 r24 => asD (.int .i64) a24 fun s13 => asCons r24 fun a25 r25 => asD (.int .i64) a25 fun s14 => asCons r25 fun a26 r26 => asD (.int .i64) a26 fun s15 => asCons r26 fun a27 r27 => asD (.arr 16 (.int .i64)) a27 fun s16 => asCons r27 fun a28 r28 => asP (.vec 3) a28 <| asNil r28 <| asCons r21 fun a29 r29 => asRw (.int .i64) false a29 fun s17 => asNil r29 <| j6r33 (fun z1 => K .ret [(1, .undef), (2, .undef), (6, B z1), (7, .undef), (10, .undef), (11, .undef), (40, .undef), (41, .undef), (42, .undef)] []) (fun z1 z2 z3 z4 z5 z6 z7 z8 z9 z10 z11 z12 z13 z14 z15 z16 z17 => K .normal [(1, .d (.sl (.int .i64)) z1), (2, .d (.sl (.int .i64)) z2), (6, .undef), (7, .ptr 0 0 []), (10, .ptr 2 0 []), (11, I z3), (40, .d (.sl (.pair (.int .i64) (.pair (.int .i64) (.pair (.int .i64) (.pair (.int .i64) (.pair (.int .i64) .unit)))))) z4), (41, I z5), (42, I z6)] [.one (.pair (.pair (.int .i64) (.pair (.int .i64) (.pair (.int .i64) (.pair (.arr 16 (.int .i64)) (.pair (.sl (.int .i64)) .unit))))) (.pair (.int .i64) .unit)) (.agg [.agg [I z7, I z8, I z9, .d (.arr 16 (.int .i64)) z10, .vec 1], I z11]), .row (.int .i64) z12 false, .one (.pair (.int .i64) (.pair (.int .i64) (.pair (.int .i64) (.pair (.arr 16 (.int .i64)) (.pair (.sl (.int .i64)) .unit))))) (.agg [I z13, I z14, I z15, .d (.arr 16 (.int .i64)) z16, .vec 3]), .row (.int .i64) z17 false]) s1 s2 s3 s4 s5 s6 s7 s8 s9 s10 s11 s12 s13 s14 s15 s16 s17
theorem j6r33v : JoinV E (inlF (PA (ACall E)) E 8) (E.info 6).keep 0 Try.f6.ntmps 7400033 4000033 (jbody Try.f6 4000033) ([1, 2, 7, 10, 11, 40, 41, 42], lsj6r33) := by
  intro vs σ K (h0 : lsj6r33 vs σ K)
  unfold lsj6r33 at h0
  obtain ⟨a1, r1, rfl, h1⟩ := asCons_inv h0; clear h0
  obtain ⟨s1, rfl, h2⟩ := asD_inv h1; clear h1
  obtain ⟨a2, r2, rfl, h3⟩ := asCons_inv h2; clear h2
  obtain ⟨s2, rfl, h4⟩ := asD_inv h3; clear h3
  obtain ⟨a3, r3, rfl, h5⟩ := asCons_inv h4; clear h4
  obtain ⟨rfl, h6⟩ := asP_inv h5; clear h5
  obtain ⟨a4, r4, rfl, h7⟩ := asCons_inv h6; clear h6
  obtain ⟨rfl, h8⟩ := asP_inv h7; clear h7
  obtain ⟨a5, r5, rfl, h9⟩ := asCons_inv h8; clear h8
  obtain ⟨s3, rfl, h10⟩ := asD_inv h9; clear h9
  obtain ⟨a6, r6, rfl, h11⟩ := asCons_inv h10; clear h10
  obtain ⟨s4, rfl, h12⟩ := asD_inv h11; clear h11
  obtain ⟨a7, r7, rfl, h13⟩ := asCons_inv h12; clear h12
  obtain ⟨s5, rfl, h14⟩ := asD_inv h13; clear h13
  obtain ⟨a8, r8, rfl, h15⟩ := asCons_inv h14; clear h14
  obtain ⟨s6, rfl, h16⟩ := asD_inv h15; clear h15
  obtain ⟨rfl, h17⟩ := asNil_inv h16; clear h16
  obtain ⟨a9, r9, rfl, h18⟩ := asCons_inv h17; clear h17
  obtain ⟨a10, rfl, h19⟩ := asOne_inv h18; clear h18
  obtain ⟨l11, rfl, h20⟩ := asAgL_inv h19; clear h19
  obtain ⟨a12, r12, rfl, h21⟩ := asCons_inv h20; clear h20
  obtain ⟨l13, rfl, h22⟩ := asAgL_inv h21; clear h21
  obtain ⟨a14, r14, rfl, h23⟩ := asCons_inv h22; clear h22
  obtain ⟨s7, rfl, h24⟩ := asD_inv h23; clear h23
  obtain ⟨a15, r15, rfl, h25⟩ := asCons_inv h24; clear h24
  obtain ⟨s8, rfl, h26⟩ := asD_inv h25; clear h25
  obtain ⟨a16, r16, rfl, h27⟩ := asCons_inv h26; clear h26
  obtain ⟨s9, rfl, h28⟩ := asD_inv h27; clear h27
  obtain ⟨a17, r17, rfl, h29⟩ := asCons_inv h28; clear h28
  obtain ⟨s10, rfl, h30⟩ := asD_inv h29; clear h29
  obtain ⟨a18, r18, rfl, h31⟩ := asCons_inv h30; clear h30
  obtain ⟨rfl, h32⟩ := asP_inv h31; clear h31
  obtain ⟨rfl, h33⟩ := asNil_inv h32; clear h32
  obtain ⟨a19, r19, rfl, h34⟩ := asCons_inv h33; clear h33
  obtain ⟨s11, rfl, h35⟩ := asD_inv h34; clear h34
  obtain ⟨rfl, h36⟩ := asNil_inv h35; clear h35
  obtain ⟨a20, r20, rfl, h37⟩ := asCons_inv h36; clear h36
  obtain ⟨s12, rfl, h38⟩ := asRw_inv h37; clear h37
  obtain ⟨a21, r21, rfl, h39⟩ := asCons_inv h38; clear h38
  obtain ⟨a22, rfl, h40⟩ := asOne_inv h39; clear h39
  obtain ⟨l23, rfl, h41⟩ := asAgL_inv h40; clear h40
  obtain ⟨a24, r24, rfl, h42⟩ := asCons_inv h41; clear h41
  obtain ⟨s13, rfl, h43⟩ := asD_inv h42; clear h42
  obtain ⟨a25, r25, rfl, h44⟩ := asCons_inv h43; clear h43
  obtain ⟨s14, rfl, h45⟩ := asD_inv h44; clear h44
  obtain ⟨a26, r26, rfl, h46⟩ := asCons_inv h45; clear h45
  obtain ⟨s15, rfl, h47⟩ := asD_inv h46; clear h46
  obtain ⟨a27, r27, rfl, h48⟩ := asCons_inv h47; clear h47
  obtain ⟨s16, rfl, h49⟩ := asD_inv h48; clear h48
  obtain ⟨a28, r28, rfl, h50⟩ := asCons_inv h49; clear h49
  obtain ⟨rfl, h51⟩ := asP_inv h50; clear h50
  obtain ⟨rfl, h52⟩ := asNil_inv h51; clear h51
  obtain ⟨a29, r29, rfl, h53⟩ := asCons_inv h52; clear h52
  obtain ⟨s17, rfl, h54⟩ := asRw_inv h53; clear h53
  obtain ⟨rfl, h55⟩ := asNil_inv h54; clear h54
  exact join_round2 (S := ofL Sj6r33) (L := lofL Lj6r33) hSj6r33 (inlOK _) (all_eq (by kernel_rfl : subsOf (E.info 6).keep (jbody Try.f6 4000033) = []) (all_nil)) (by kernel_rfl) h55.of

abbrev Sl40r5 : List (Nat × Pat × Sp) := []
theorem hSl40r5 : SpecOK E (ofL Sl40r5) := specOK_nil
abbrev Ll40r5 : List (Nat × List Nat × Pat × LSp) := []
def lsl40r5 : LSp := fun vs σ K => asCons vs fun a1 r1 => asP (.ptr 1 0 []) a1 <| asCons r1 fun a2 r2 => asP (.ptr 2 0 []) a2 <| asCons r2 fun a3 r3 => asP (.vec 4) a3 <| asCons r3 fun a4 r4 => asP (.vec 0) a4 <| asCons r4 fun a5 r5 => asD (.int .i64) a5 fun s1 => asCons r5 fun a6 r6 => asD (.int .i64) a6 fun s2 => asNil r6 <| asCons σ fun a7 r7 => asRw (.int .i64) false a7 fun s3 => asCons r7 fun a8 r8 => asOne (.pair (.int .i64) (.pair (.int .i64) (.pair (.int .i64) (.pair (.arr 16 (.int .i64)) (.pair (.sl (.int .i64)) .unit))))) a8 fun a9 => asAgL a9 fun l10 => asCons l10 fun a11 r11 => asD (.int .i64) a11 fun s4 => asCons r11 fun a12 r12 => asD (.int .i64) a12 fun s5 => asCons r12 fun a13 r13 => asD (.int .i64) a13 fun s6 => asCons r13 fun a14 r14 => asD (.arr 16 (.int .i64)) a14 fun s7 => asCons r14 fun a15 r15 => asP (.vec 0) a15 <| asNil r15 <| asCons r8 fun a16 r16 => asOne (.pair (.int .i64) (.pair (.int .i64) (.pair (.int .i64) (.pair (.arr 16 (.int .i64)) (.pair (.sl (.int .i64)) .unit))))) a16 fun a17 => asAgL a17 fun l18 => asCons l18 fun a19 r19 => asD (.int .i64) a19 fun s8 => asCons r19 fun a20 r20 => asD (.int .i64) a20 fun s9 => asCons r20 fun a21 r21 => asD (.int .i64) a21 fun s10 => asCons r21 fun a22 r22 => asD (.arr 16 (.int .i64)) a22 fun s11 => asCons r22 fun a23 r23 => asP (.vec 3) a23 <| asNil r23 <| asCons r16 fun a24 r24 => asRw (.int .i64) false a24 fun s12 => asCons r24 fun a25 r25 => asRw (.int .i64) false a25 fun s13 => asNil r25 <| l40r5 (fun z1 z2 z3 z4 z5 z6 z7 z8 z9 z10 z11 => K (.exit 0) [(2, .ptr 1 0 []), (4, .ptr 2 0 []), (5, .vec 4)] [.row (.int .i64) z1 false, .one (.pair (.int .i64) (.pair (.int .i64) (.pair (.int .i64) (.pair (.arr 16 (.int .i64)) (.pair (.sl (.int .i64)) .unit))))) (.agg [I z2, I z3, I z4, .d (.arr 16 (.int .i64)) z5, .vec 0]), .one (.pair (.int .i64) (.pair (.int .i64) (.pair (.int .i64) (.pair (.arr 16 (.int .i64)) (.pair (.sl (.int .i64)) .unit))))) (.agg [I z6, I z7, I z8, .d (.arr 16 (.int .i64)) z9, .vec 3]), .row (.int .i64) z10 false, .row (.int .i64) z11 false]) s1 s2 s3 s4 s5 s6 s7 s8 s9 s10 s11 s12 s13
theorem l40r5v : LoopV E (inlF (PA (ACall E)) E 8) (E.info 40).keep 1 Try.f40.ntmps 41000005 (body Try.f40 5) ([2, 4, 5, 20, 21, 22], lsl40r5) := by
  intro vs σ K (h0 : lsl40r5 vs σ K)
  unfold lsl40r5 at h0
  obtain ⟨a1, r1, rfl, h1⟩ := asCons_inv h0; clear h0
  obtain ⟨rfl, h2⟩ := asP_inv h1; clear h1
  obtain ⟨a2, r2, rfl, h3⟩ := asCons_inv h2; clear h2
  obtain ⟨rfl, h4⟩ := asP_inv h3; clear h3
  obtain ⟨a3, r3, rfl, h5⟩ := asCons_inv h4; clear h4
  obtain ⟨rfl, h6⟩ := asP_inv h5; clear h5
  obtain ⟨a4, r4, rfl, h7⟩ := asCons_inv h6; clear h6
  obtain ⟨rfl, h8⟩ := asP_inv h7; clear h7
  obtain ⟨a5, r5, rfl, h9⟩ := asCons_inv h8; clear h8
  obtain ⟨s1, rfl, h10⟩ := asD_inv h9; clear h9
  obtain ⟨a6, r6, rfl, h11⟩ := asCons_inv h10; clear h10
  obtain ⟨s2, rfl, h12⟩ := asD_inv h11; clear h11
  obtain ⟨rfl, h13⟩ := asNil_inv h12; clear h12
  obtain ⟨a7, r7, rfl, h14⟩ := asCons_inv h13; clear h13
  obtain ⟨s3, rfl, h15⟩ := asRw_inv h14; clear h14
  obtain ⟨a8, r8, rfl, h16⟩ := asCons_inv h15; clear h15
  obtain ⟨a9, rfl, h17⟩ := asOne_inv h16; clear h16
  obtain ⟨l10, rfl, h18⟩ := asAgL_inv h17; clear h17
  obtain ⟨a11, r11, rfl, h19⟩ := asCons_inv h18; clear h18
  obtain ⟨s4, rfl, h20⟩ := asD_inv h19; clear h19
  obtain ⟨a12, r12, rfl, h21⟩ := asCons_inv h20; clear h20
  obtain ⟨s5, rfl, h22⟩ := asD_inv h21; clear h21
  obtain ⟨a13, r13, rfl, h23⟩ := asCons_inv h22; clear h22
  obtain ⟨s6, rfl, h24⟩ := asD_inv h23; clear h23
  obtain ⟨a14, r14, rfl, h25⟩ := asCons_inv h24; clear h24
  obtain ⟨s7, rfl, h26⟩ := asD_inv h25; clear h25
  obtain ⟨a15, r15, rfl, h27⟩ := asCons_inv h26; clear h26
  obtain ⟨rfl, h28⟩ := asP_inv h27; clear h27
  obtain ⟨rfl, h29⟩ := asNil_inv h28; clear h28
  obtain ⟨a16, r16, rfl, h30⟩ := asCons_inv h29; clear h29
  obtain ⟨a17, rfl, h31⟩ := asOne_inv h30; clear h30
  obtain ⟨l18, rfl, h32⟩ := asAgL_inv h31; clear h31
  obtain ⟨a19, r19, rfl, h33⟩ := asCons_inv h32; clear h32
  obtain ⟨s8, rfl, h34⟩ := asD_inv h33; clear h33
  obtain ⟨a20, r20, rfl, h35⟩ := asCons_inv h34; clear h34
  obtain ⟨s9, rfl, h36⟩ := asD_inv h35; clear h35
  obtain ⟨a21, r21, rfl, h37⟩ := asCons_inv h36; clear h36
  obtain ⟨s10, rfl, h38⟩ := asD_inv h37; clear h37
  obtain ⟨a22, r22, rfl, h39⟩ := asCons_inv h38; clear h38
  obtain ⟨s11, rfl, h40⟩ := asD_inv h39; clear h39
  obtain ⟨a23, r23, rfl, h41⟩ := asCons_inv h40; clear h40
  obtain ⟨rfl, h42⟩ := asP_inv h41; clear h41
  obtain ⟨rfl, h43⟩ := asNil_inv h42; clear h42
  obtain ⟨a24, r24, rfl, h44⟩ := asCons_inv h43; clear h43
  obtain ⟨s12, rfl, h45⟩ := asRw_inv h44; clear h44
  obtain ⟨a25, r25, rfl, h46⟩ := asCons_inv h45; clear h45
  obtain ⟨s13, rfl, h47⟩ := asRw_inv h46; clear h46
  obtain ⟨rfl, h48⟩ := asNil_inv h47; clear h47
  intro J hJ
  have hp : ∀ c' ∈ subsOf (E.info 40).keep (body Try.f40 5), SubOK E (inlF (PA (ACall E)) E 8) (E.info 40).keep 1 Try.f40.ntmps (lofL Ll40r5) c' := all_eq (by kernel_rfl : subsOf (E.info 40).keep (body Try.f40 5) = []) (all_nil)
  exact h48.of (fun s1 s2 s3 s4 s5 s6 s7 s8 s9 s10 s11 s12 s13 => J [(41000005, .undef), (2, .ptr 1 0 []), (4, .ptr 2 0 []), (5, .vec 4), (20, .vec 0), (21, I s1), (22, I s2)] [.row (.int .i64) s3 false, .one (.pair (.int .i64) (.pair (.int .i64) (.pair (.int .i64) (.pair (.arr 16 (.int .i64)) (.pair (.sl (.int .i64)) .unit))))) (.agg [I s4, I s5, I s6, .d (.arr 16 (.int .i64)) s7, .vec 0]), .one (.pair (.int .i64) (.pair (.int .i64) (.pair (.int .i64) (.pair (.arr 16 (.int .i64)) (.pair (.sl (.int .i64)) .unit))))) (.agg [I s8, I s9, I s10, .d (.arr 16 (.int .i64)) s11, .vec 3]), .row (.int .i64) s12 false, .row (.int .i64) s13 false]) (fun s1 s2 s3 s4 s5 s6 s7 s8 s9 s10 s11 s12 s13 hb => loop_round2 (S := ofL Sl40r5) (L := lofL Ll40r5) hSl40r5 (inlOK _) hp hJ (by kernel_rfl) hb)

abbrev S40 : List (Nat × Pat × Sp) := []
theorem hS40 : SpecOK E (ofL S40) := specOK_nil
abbrev L40 : List (Nat × List Nat × Pat × LSp) := [(41000005, [2, 4, 5, 20, 21, 22], none, lsl40r5)]
def sp40 : Sp := fun args τ K => asCons args fun a1 r1 => asAgL a1 fun l2 => asCons l2 fun a3 r3 => asD (.int .i64) a3 fun x1 => asCons r3 fun a4 r4 => asD (.int .i64) a4 fun x2 => asCons r4 fun a5 r5 => asD (.int .i64) a5 fun x3 => asCons r5 fun a6 r6 => asD (.arr 16 (.int .i64)) a6 fun x4 => asCons r6 fun a7 r7 => asP (.vec 0) a7 <| asNil r7 <| asCons r1 fun a8 r8 => asD (.int .i64) a8 fun x5 => asNil r8 <| asCons τ fun a9 r9 => asRw (.int .i64) false a9 fun x6 => asNil r9 <| c40 x1 x2 x3 x4 x5 x6 (fun z1 z2 z3 z4 z5 z6 => K (.agg [I z1, I z2, I z3, .d (.arr 16 (.int .i64)) z4, .vec 1]) [.row (.int .i64) z5 false, .row (.int .i64) z6 false])
theorem h40 : ∀ args τ K, sp40 args τ K → ACall E 40 args τ K := by
  intro args τ K h0
  unfold sp40 at h0
  obtain ⟨a1, r1, rfl, h1⟩ := asCons_inv h0; clear h0
  obtain ⟨l2, rfl, h2⟩ := asAgL_inv h1; clear h1
  obtain ⟨a3, r3, rfl, h3⟩ := asCons_inv h2; clear h2
  obtain ⟨x1, rfl, h4⟩ := asD_inv h3; clear h3
  obtain ⟨a4, r4, rfl, h5⟩ := asCons_inv h4; clear h4
  obtain ⟨x2, rfl, h6⟩ := asD_inv h5; clear h5
  obtain ⟨a5, r5, rfl, h7⟩ := asCons_inv h6; clear h6
  obtain ⟨x3, rfl, h8⟩ := asD_inv h7; clear h7
  obtain ⟨a6, r6, rfl, h9⟩ := asCons_inv h8; clear h8
  obtain ⟨x4, rfl, h10⟩ := asD_inv h9; clear h9
  obtain ⟨a7, r7, rfl, h11⟩ := asCons_inv h10; clear h10
  obtain ⟨rfl, h12⟩ := asP_inv h11; clear h11
  obtain ⟨rfl, h13⟩ := asNil_inv h12; clear h12
  obtain ⟨a8, r8, rfl, h14⟩ := asCons_inv h13; clear h13
  obtain ⟨x5, rfl, h15⟩ := asD_inv h14; clear h14
  obtain ⟨rfl, h16⟩ := asNil_inv h15; clear h15
  obtain ⟨a9, r9, rfl, h17⟩ := asCons_inv h16; clear h16
  obtain ⟨x6, rfl, h18⟩ := asRw_inv h17; clear h17
  obtain ⟨rfl, h19⟩ := asNil_inv h18; clear h18
  exact ACall.spec2 (fn := Try.f40) (c := codeOf Try.f40) (S := ofL S40) (L := lofL L40) hS40 (by kernel_rfl) (by kernel_rfl) (inlOK _) (all_eq (by kernel_rfl : subsOf (E.info 40).keep (codeOf Try.f40) = [.loop (body Try.f40 5)]) (all_cons (loopOK_of (mk := 41000005) (sl := [2, 4, 5, 20, 21, 22]) (ss := [([2, 4, 5, 20, 21, 22], lsl40r5)]) (by kernel_rfl) (by kernel_rfl) (all_cons l40r5v (all_nil))) (all_nil))) (by kernel_rfl) h19.of

abbrev Sj6r25 : List (Nat × Pat × Sp) := [(39, none, sp39), (40, none, sp40)]
theorem hSj6r25 : SpecOK E (ofL Sj6r25) := specOK_cons h39 (specOK_cons h40 (specOK_nil))
abbrev Lj6r25 : List (Nat × List Nat × Pat × LSp) := [(7400033, [1, 2, 7, 10, 11, 40, 41, 42], none, lsj6r33)]
def lsj6r25 : LSp := fun vs σ K => asCons vs fun a1 r1 => asD (.sl (.int .i64)) a1 fun s1 => asCons r1 fun a2 r2 => asD (.sl (.int .i64)) a2 fun s2 => asCons r2 fun a3 r3 => asP (.ptr 0 0 []) a3 <| asCons r3 fun a4 r4 => asP (.ptr 2 0 []) a4 <| asCons r4 fun a5 r5 => asD (.int .i64) a5 fun s3 => asCons r5 fun a6 r6 => asD (.int .i64) a6 fun s4 => asCons r6 fun a7 r7 => asD (.sl (.pair (.int .i64) (.pair (.int .i64) (.pair (.int .i64) (.pair (.int .i64) (.pair (.int .i64) .unit)))))) a7 fun s5 => asCons r7 fun a8 r8 => asD (.int .i64) a8 fun s6 => asCons r8 fun a9 r9 => asD (.int .i64) a9 fun s7 => asNil r9 <| asCons σ fun a10 r10 => asOne (.pair (.pair (.int .i64) (.pair (.int .i64) (.pair (.int .i64) (.pair (.arr 16 (.int .i64)) (.pair (.sl (.int .i64)) .unit))))) (.pair (.int .i64) .unit)) a10 fun a11 => asAgL a11 fun l12 => asCons l12 fun a13 r13 => asAgL a13 fun l14 => asCons l14 fun a15 r15 => asD (.int .i64) a15 fun s8 => asCons r15 fun a16 r16 => asD (.int .i64) a16 fun s9 => asCons r16 fun a17 r17 => asD (.int .i64) a17 fun s10 => asCons r17 fun a18 r18 => asD (.arr 16 (.int .i64)) a18 fun s11 => asCons r18 fun a19 r19 => asP (.vec 1) a19 <| asNil r19 <| asCons r13 fun a20 r20 => asD (.int .i64) a20 fun s12 => asNil r20 <| asCons r10 fun a21 r21 => asRw (.int .i64) false a21 fun s13 => asCons r21 fun a22 r22 => asOne (.pair (.int .i64) (.pair (.int .i64) (.pair (.int .i64) (.pair (.arr 16 (.int .i64)) (.pair (.sl (.int .i64)) .unit))))) a22 fun a23 => asAgL a23 fun l24 => asCons l24 fun a25 r25 => asD (.int .i64) a25 fun s14 => asCons r25 fun a26 r26 => asD (.int .i64) a26 fun s15 => asCons r26 fun a27 r27 => asD (.int .i64) a27 fun s16 => asCons r27 fun a28 r28 => asD (.arr 16 (.int .i64)) a28 fun s17 => asCons r28 fun a29 r29 => asP (.vec 3) a29 <| asNil r29 <| asCons r22 fun a30 r30 => asRw (.int .i64) false a30 fun s18 => asNil r30 <| j6r25 (fun z1 => K .ret [(1, .undef), (2, .undef), (6, B z1), (7, .undef), (10, .undef), (11, .undef), (40, .undef), (41, .undef), (42, .undef)] []) (fun z1 z2 z3 z4 z5 z6 z7 z8 z9 z10 z11 z12 z13 z14 z15 z16 z17 => K .normal [(1, .d (.sl (.int .i64)) z1), (2, .d (.sl (.int .i64)) z2), (6, .undef), (7, .ptr 0 0 []), (10, .ptr 2 0 []), (11, I z3), (40, .d (.sl (.pair (.int .i64) (.pair (.int .i64) (.pair (.int .i64) (.pair (.int .i64) (.pair (.int .i64) .unit)))))) z4), (41, I z5), (42, I z6)] [.one (.pair (.pair (.int .i64) (.pair (.int .i64) (.pair (.int .i64) (.pair (.arr 16 (.int .i64)) (.pair (.sl (.int .i64)) .unit))))) (.pair (.int .i64) .unit)) (.agg [.agg [I z7, I z8, I z9, .d (.arr 16 (.int .i64)) z10, .vec 1], I z11]), .row (.int .i64) z12 false, .one (.pair (.int .i64) (.pair (.int .i64) (.pair (.int .i64) (.pair (.arr 16 (.int .i64)) (.pair (.sl (.int .i64)) .unit))))) (.agg [I z13, I z14, I z15, .d (.arr 16 (.int .i64)) z16, .vec 3]), .row (.int .i64) z17 false]) s1 s2 s3 s4 s5 s6 s7 s8 s9 s10 s11 s12 s13 s14 s15 s16 s17 s18
theorem j6r25v : JoinV E (inlF (PA (ACall E)) E 8) (E.info 6).keep 0 Try.f6.ntmps 7400025 4000025 (jbody Try.f6 4000025) ([1, 2, 7, 10, 11, 12, 40, 41, 42], lsj6r25) := by
  intro vs σ K (h0 : lsj6r25 vs σ K)
  unfold lsj6r25 at h0
  obtain ⟨a1, r1, rfl, h1⟩ := asCons_inv h0; clear h0
  obtain ⟨s1, rfl, h2⟩ := asD_inv h1; clear h1
  obtain ⟨a2, r2, rfl, h3⟩ := asCons_inv h2; clear h2
  obtain ⟨s2, rfl, h4⟩ := asD_inv h3; clear h3
  obtain ⟨a3, r3, rfl, h5⟩ := asCons_inv h4; clear h4
  obtain ⟨rfl, h6⟩ := asP_inv h5; clear h5
  obtain ⟨a4, r4, rfl, h7⟩ := asCons_inv h6; clear h6
  obtain ⟨rfl, h8⟩ := asP_inv h7; clear h7
  obtain ⟨a5, r5, rfl, h9⟩ := asCons_inv h8; clear h8
  obtain ⟨s3, rfl, h10⟩ := asD_inv h9; clear h9
  obtain ⟨a6, r6, rfl, h11⟩ := asCons_inv h10; clear h10
  obtain ⟨s4, rfl, h12⟩ := asD_inv h11; clear h11
  obtain ⟨a7, r7, rfl, h13⟩ := asCons_inv h12; clear h12
  obtain ⟨s5, rfl, h14⟩ := asD_inv h13; clear h13
  obtain ⟨a8, r8, rfl, h15⟩ := asCons_inv h14; clear h14
  obtain ⟨s6, rfl, h16⟩ := asD_inv h15; clear h15
  obtain ⟨a9, r9, rfl, h17⟩ := asCons_inv h16; clear h16
  obtain ⟨s7, rfl, h18⟩ := asD_inv h17; clear h17
  obtain ⟨rfl, h19⟩ := asNil_inv h18; clear h18
  obtain ⟨a10, r10, rfl, h20⟩ := asCons_inv h19; clear h19
  obtain ⟨a11, rfl, h21⟩ := asOne_inv h20; clear h20
  obtain ⟨l12, rfl, h22⟩ := asAgL_inv h21; clear h21
  obtain ⟨a13, r13, rfl, h23⟩ := asCons_inv h22; clear h22
  obtain ⟨l14, rfl, h24⟩ := asAgL_inv h23; clear h23
  obtain ⟨a15, r15, rfl, h25⟩ := asCons_inv h24; clear h24
  obtain ⟨s8, rfl, h26⟩ := asD_inv h25; clear h25
  obtain ⟨a16, r16, rfl, h27⟩ := asCons_inv h26; clear h26
  obtain ⟨s9, rfl, h28⟩ := asD_inv h27; clear h27
  obtain ⟨a17, r17, rfl, h29⟩ := asCons_inv h28; clear h28
  obtain ⟨s10, rfl, h30⟩ := asD_inv h29; clear h29
  obtain ⟨a18, r18, rfl, h31⟩ := asCons_inv h30; clear h30
  obtain ⟨s11, rfl, h32⟩ := asD_inv h31; clear h31
  obtain ⟨a19, r19, rfl, h33⟩ := asCons_inv h32; clear h32
  obtain ⟨rfl, h34⟩ := asP_inv h33; clear h33
  obtain ⟨rfl, h35⟩ := asNil_inv h34; clear h34
  obtain ⟨a20, r20, rfl, h36⟩ := asCons_inv h35; clear h35
  obtain ⟨s12, rfl, h37⟩ := asD_inv h36; clear h36
  obtain ⟨rfl, h38⟩ := asNil_inv h37; clear h37
  obtain ⟨a21, r21, rfl, h39⟩ := asCons_inv h38; clear h38
  obtain ⟨s13, rfl, h40⟩ := asRw_inv h39; clear h39
  obtain ⟨a22, r22, rfl, h41⟩ := asCons_inv h40; clear h40
  obtain ⟨a23, rfl, h42⟩ := asOne_inv h41; clear h41
  obtain ⟨l24, rfl, h43⟩ := asAgL_inv h42; clear h42
  obtain ⟨a25, r25, rfl, h44⟩ := asCons_inv h43; clear h43
  obtain ⟨s14, rfl, h45⟩ := asD_inv h44; clear h44
  obtain ⟨a26, r26, rfl, h46⟩ := asCons_inv h45; clear h45
  obtain ⟨s15, rfl, h47⟩ := asD_inv h46; clear h46
  obtain ⟨a27, r27, rfl, h48⟩ := asCons_inv h47; clear h47
  obtain ⟨s16, rfl, h49⟩ := asD_inv h48; clear h48
  obtain ⟨a28, r28, rfl, h50⟩ := asCons_inv h49; clear h49
  obtain ⟨s17, rfl, h51⟩ := asD_inv h50; clear h50
  obtain ⟨a29, r29, rfl, h52⟩ := asCons_inv h51; clear h51
  obtain ⟨rfl, h53⟩ := asP_inv h52; clear h52
  obtain ⟨rfl, h54⟩ := asNil_inv h53; clear h53
  obtain ⟨a30, r30, rfl, h55⟩ := asCons_inv h54; clear h54
  obtain ⟨s18, rfl, h56⟩ := asRw_inv h55; clear h55
  obtain ⟨rfl, h57⟩ := asNil_inv h56; clear h56
  exact join_round2 (S := ofL Sj6r25) (L := lofL Lj6r25) hSj6r25 (inlOK _) (all_eq (by kernel_rfl : subsOf (E.info 6).keep (jbody Try.f6 4000025) = [.join 4000033 (jbody Try.f6 4000033)]) (all_cons (joinOK_of (mk := 7400033) (sl := [1, 2, 7, 10, 11, 40, 41, 42]) (ss := [([1, 2, 7, 10, 11, 40, 41, 42], lsj6r33)]) (by kernel_rfl) (by kernel_rfl) (all_cons j6r33v (all_nil))) (all_nil))) (by kernel_rfl) h57.of

abbrev Sj6r19 : List (Nat × Pat × Sp) := [(38, none, sp38)]
theorem hSj6r19 : SpecOK E (ofL Sj6r19) := specOK_cons h38 (specOK_nil)
abbrev Lj6r19 : List (Nat × List Nat × Pat × LSp) := [(7400025, [1, 2, 7, 10, 11, 12, 40, 41, 42], none, lsj6r25)]
def lsj6r19 : LSp := fun vs σ K => asCons vs fun a1 r1 => asD (.sl (.int .i64)) a1 fun s1 => asCons r1 fun a2 r2 => asD (.sl (.int .i64)) a2 fun s2 => asCons r2 fun a3 r3 => asP (.ptr 0 0 []) a3 <| asCons r3 fun a4 r4 => asP (.ptr 2 0 []) a4 <| asCons r4 fun a5 r5 => asD (.int .i64) a5 fun s3 => asCons r5 fun a6 r6 => asD (.int .i64) a6 fun s4 => asCons r6 fun a7 r7 => asP (.ptr 4 0 []) a7 <| asCons r7 fun a8 r8 => asD (.int .i64) a8 fun s5 => asCons r8 fun a9 r9 => asD (.int .i64) a9 fun s6 => asCons r9 fun a10 r10 => asD (.int .i64) a10 fun s7 => asCons r10 fun a11 r11 => asD (.sl (.pair (.int .i64) (.pair (.int .i64) (.pair (.int .i64) (.pair (.int .i64) (.pair (.int .i64) .unit)))))) a11 fun s8 => asCons r11 fun a12 r12 => asD (.int .i64) a12 fun s9 => asCons r12 fun a13 r13 => asD (.int .i64) a13 fun s10 => asNil r13 <| asCons σ fun a14 r14 => asOne (.pair (.pair (.int .i64) (.pair (.int .i64) (.pair (.int .i64) (.pair (.arr 16 (.int .i64)) (.pair (.sl (.int .i64)) .unit))))) (.pair (.int .i64) .unit)) a14 fun a15 => asAgL a15 fun l16 => asCons l16 fun a17 r17 => asAgL a17 fun l18 => asCons l18 fun a19 r19 => asD (.int .i64) a19 fun s11 => asCons r19 fun a20 r20 => asD (.int .i64) a20 fun s12 => asCons r20 fun a21 r21 => asD (.int .i64) a21 fun s13 => asCons r21 fun a22 r22 => asD (.arr 16 (.int .i64)) a22 fun s14 => asCons r22 fun a23 r23 => asP (.vec 1) a23 <| asNil r23 <| asCons r17 fun a24 r24 => asD (.int .i64) a24 fun s15 => asNil r24 <| asCons r14 fun a25 r25 => asRw (.int .i64) false a25 fun s16 => asCons r25 fun a26 r26 => asOne (.pair (.int .i64) (.pair (.int .i64) (.pair (.int .i64) (.pair (.arr 16 (.int .i64)) (.pair (.sl (.int .i64)) .unit))))) a26 fun a27 => asAgL a27 fun l28 => asCons l28 fun a29 r29 => asD (.int .i64) a29 fun s17 => asCons r29 fun a30 r30 => asD (.int .i64) a30 fun s18 => asCons r30 fun a31 r31 => asD (.int .i64) a31 fun s19 => asCons r31 fun a32 r32 => asD (.arr 16 (.int .i64)) a32 fun s20 => asCons r32 fun a33 r33 => asP (.vec 3) a33 <| asNil r33 <| asCons r26 fun a34 r34 => asRw (.int .i64) false a34 fun s21 => asCons r34 fun a35 r35 => asOne opT a35 fun a36 => asD opT a36 fun s22 => asNil r35 <| j6r19 (fun z1 => K .ret [(1, .undef), (2, .undef), (6, B z1), (7, .undef), (10, .undef), (11, .undef), (40, .undef), (41, .undef), (42, .undef)] []) (fun z1 z2 z3 z4 z5 z6 z7 z8 z9 z10 z11 z12 z13 z14 z15 z16 z17 => K .normal [(1, .d (.sl (.int .i64)) z1), (2, .d (.sl (.int .i64)) z2), (6, .undef), (7, .ptr 0 0 []), (10, .ptr 2 0 []), (11, I z3), (40, .d (.sl (.pair (.int .i64) (.pair (.int .i64) (.pair (.int .i64) (.pair (.int .i64) (.pair (.int .i64) .unit)))))) z4), (41, I z5), (42, I z6)] [.one (.pair (.pair (.int .i64) (.pair (.int .i64) (.pair (.int .i64) (.pair (.arr 16 (.int .i64)) (.pair (.sl (.int .i64)) .unit))))) (.pair (.int .i64) .unit)) (.agg [.agg [I z7, I z8, I z9, .d (.arr 16 (.int .i64)) z10, .vec 1], I z11]), .row (.int .i64) z12 false, .one (.pair (.int .i64) (.pair (.int .i64) (.pair (.int .i64) (.pair (.arr 16 (.int .i64)) (.pair (.sl (.int .i64)) .unit))))) (.agg [I z13, I z14, I z15, .d (.arr 16 (.int .i64)) z16, .vec 3]), .row (.int .i64) z17 false]) s1 s2 s3 s4 s5 s6 s7 s8 s9 s10 s11 s12 s13 s14 s15 s16 s17 s18 s19 s20 s21 s22
theorem j6r19v : JoinV E (inlF (PA (ACall E)) E 8) (E.info 6).keep 0 Try.f6.ntmps 7400019 4000019 (jbody Try.f6 4000019) ([1, 2, 7, 10, 11, 12, 13, 14, 15, 16, 40, 41, 42], lsj6r19) := by
  intro vs σ K (h0 : lsj6r19 vs σ K)
  unfold lsj6r19 at h0
  obtain ⟨a1, r1, rfl, h1⟩ := asCons_inv h0; clear h0
  obtain ⟨s1, rfl, h2⟩ := asD_inv h1; clear h1
  obtain ⟨a2, r2, rfl, h3⟩ := asCons_inv h2; clear h2
  obtain ⟨s2, rfl, h4⟩ := asD_inv h3; clear h3
  obtain ⟨a3, r3, rfl, h5⟩ := asCons_inv h4; clear h4
  obtain ⟨rfl, h6⟩ := asP_inv h5; clear h5
  obtain ⟨a4, r4, rfl, h7⟩ := asCons_inv h6; clear h6
  obtain ⟨rfl, h8⟩ := asP_inv h7; clear h7
  obtain ⟨a5, r5, rfl, h9⟩ := asCons_inv h8; clear h8
  obtain ⟨s3, rfl, h10⟩ := asD_inv h9; clear h9
  obtain ⟨a6, r6, rfl, h11⟩ := asCons_inv h10; clear h10
  obtain ⟨s4, rfl, h12⟩ := asD_inv h11; clear h11
  obtain ⟨a7, r7, rfl, h13⟩ := asCons_inv h12; clear h12
  obtain ⟨rfl, h14⟩ := asP_inv h13; clear h13
  obtain ⟨a8, r8, rfl, h15⟩ := asCons_inv h14; clear h14
  obtain ⟨s5, rfl, h16⟩ := asD_inv h15; clear h15
  obtain ⟨a9, r9, rfl, h17⟩ := asCons_inv h16; clear h16
  obtain ⟨s6, rfl, h18⟩ := asD_inv h17; clear h17
  obtain ⟨a10, r10, rfl, h19⟩ := asCons_inv h18; clear h18
  obtain ⟨s7, rfl, h20⟩ := asD_inv h19; clear h19
  obtain ⟨a11, r11, rfl, h21⟩ := asCons_inv h20; clear h20
  obtain ⟨s8, rfl, h22⟩ := asD_inv h21; clear h21
  obtain ⟨a12, r12, rfl, h23⟩ := asCons_inv h22; clear h22
  obtain ⟨s9, rfl, h24⟩ := asD_inv h23; clear h23
  obtain ⟨a13, r13, rfl, h25⟩ := asCons_inv h24; clear h24
  obtain ⟨s10, rfl, h26⟩ := asD_inv h25; clear h25
  obtain ⟨rfl, h27⟩ := asNil_inv h26; clear h26
  obtain ⟨a14, r14, rfl, h28⟩ := asCons_inv h27; clear h27
  obtain ⟨a15, rfl, h29⟩ := asOne_inv h28; clear h28
  obtain ⟨l16, rfl, h30⟩ := asAgL_inv h29; clear h29
  obtain ⟨a17, r17, rfl, h31⟩ := asCons_inv h30; clear h30
  obtain ⟨l18, rfl, h32⟩ := asAgL_inv h31; clear h31
  obtain ⟨a19, r19, rfl, h33⟩ := asCons_inv h32; clear h32
  obtain ⟨s11, rfl, h34⟩ := asD_inv h33; clear h33
  obtain ⟨a20, r20, rfl, h35⟩ := asCons_inv h34; clear h34
  obtain ⟨s12, rfl, h36⟩ := asD_inv h35; clear h35
  obtain ⟨a21, r21, rfl, h37⟩ := asCons_inv h36; clear h36
  obtain ⟨s13, rfl, h38⟩ := asD_inv h37; clear h37
  obtain ⟨a22, r22, rfl, h39⟩ := asCons_inv h38; clear h38
  obtain ⟨s14, rfl, h40⟩ := asD_inv h39; clear h39
  obtain ⟨a23, r23, rfl, h41⟩ := asCons_inv h40; clear h40
  obtain ⟨rfl, h42⟩ := asP_inv h41; clear h41
  obtain ⟨rfl, h43⟩ := asNil_inv h42; clear h42
  obtain ⟨a24, r24, rfl, h44⟩ := asCons_inv h43; clear h43
  obtain ⟨s15, rfl, h45⟩ := asD_inv h44; clear h44
  obtain ⟨rfl, h46⟩ := asNil_inv h45; clear h45
  obtain ⟨a25, r25, rfl, h47⟩ := asCons_inv h46; clear h46
  obtain ⟨s16, rfl, h48⟩ := asRw_inv h47; clear h47
  obtain ⟨a26, r26, rfl, h49⟩ := asCons_inv h48; clear h48
  obtain ⟨a27, rfl, h50⟩ := asOne_inv h49; clear h49
  obtain ⟨l28, rfl, h51⟩ := asAgL_inv h50; clear h50
  obtain ⟨a29, r29, rfl, h52⟩ := asCons_inv h51; clear h51
  obtain ⟨s17, rfl, h53⟩ := asD_inv h52; clear h52
  obtain ⟨a30, r30, rfl, h54⟩ := asCons_inv h53; clear h53
  obtain ⟨s18, rfl, h55⟩ := asD_inv h54; clear h54
  obtain ⟨a31, r31, rfl, h56⟩ := asCons_inv h55; clear h55
  obtain ⟨s19, rfl, h57⟩ := asD_inv h56; clear h56
  obtain ⟨a32, r32, rfl, h58⟩ := asCons_inv h57; clear h57
  obtain ⟨s20, rfl, h59⟩ := asD_inv h58; clear h58
  obtain ⟨a33, r33, rfl, h60⟩ := asCons_inv h59; clear h59
  obtain ⟨rfl, h61⟩ := asP_inv h60; clear h60
  obtain ⟨rfl, h62⟩ := asNil_inv h61; clear h61
  obtain ⟨a34, r34, rfl, h63⟩ := asCons_inv h62; clear h62
  obtain ⟨s21, rfl, h64⟩ := asRw_inv h63; clear h63
  obtain ⟨a35, r35, rfl, h65⟩ := asCons_inv h64; clear h64
  obtain ⟨a36, rfl, h66⟩ := asOne_inv h65; clear h65
  obtain ⟨s22, rfl, h67⟩ := asD_inv h66; clear h66
  obtain ⟨rfl, h68⟩ := asNil_inv h67; clear h67
  exact join_round2 (S := ofL Sj6r19) (L := lofL Lj6r19) hSj6r19 (inlOK _) (all_eq (by kernel_rfl : subsOf (E.info 6).keep (jbody Try.f6 4000019) = [.join 4000025 (jbody Try.f6 4000025)]) (all_cons (joinOK_of (mk := 7400025) (sl := [1, 2, 7, 10, 11, 12, 40, 41, 42]) (ss := [([1, 2, 7, 10, 11, 12, 40, 41, 42], lsj6r25)]) (by kernel_rfl) (by kernel_rfl) (all_cons j6r25v (all_nil))) (all_nil))) (by kernel_rfl) h68.of

abbrev Sj6r16 : List (Nat × Pat × Sp) := [(36, none, sp36v2)]
theorem hSj6r16 : SpecOK E (ofL Sj6r16) := specOK_cons h36v2 (specOK_nil)
abbrev Lj6r16 : List (Nat × List Nat × Pat × LSp) := [(7400019, [1, 2, 7, 10, 11, 12, 13, 14, 15, 16, 40, 41, 42], none, lsj6r19)]
def lsj6r16 : LSp := fun vs σ K => asCons vs fun a1 r1 => asD (.sl (.int .i64)) a1 fun s1 => asCons r1 fun a2 r2 => asD (.sl (.int .i64)) a2 fun s2 => asCons r2 fun a3 r3 => asP (.ptr 0 0 []) a3 <| asCons r3 fun a4 r4 => asP (.ptr 2 0 []) a4 <| asCons r4 fun a5 r5 => asD (.int .i64) a5 fun s3 => asCons r5 fun a6 r6 => asD (.int .i64) a6 fun s4 => asCons r6 fun a7 r7 => asP (.ptr 4 0 []) a7 <| asCons r7 fun a8 r8 => asD (.int .i64) a8 fun s5 => asCons r8 fun a9 r9 => asD (.int .i64) a9 fun s6 => asCons r9 fun a10 r10 => asD (.sl (.pair (.int .i64) (.pair (.int .i64) (.pair (.int .i64) (.pair (.int .i64) (.pair (.int .i64) .unit)))))) a10 fun s7 => asCons r10 fun a11 r11 => asD (.int .i64) a11 fun s8 => asCons r11 fun a12 r12 => asD (.int .i64) a12 fun s9 => asNil r12 <| asCons σ fun a13 r13 => asOne (.pair (.pair (.int .i64) (.pair (.int .i64) (.pair (.int .i64) (.pair (.arr 16 (.int .i64)) (.pair (.sl (.int .i64)) .unit))))) (.pair (.int .i64) .unit)) a13 fun a14 => asAgL a14 fun l15 => asCons l15 fun a16 r16 => asAgL a16 fun l17 => asCons l17 fun a18 r18 => asD (.int .i64) a18 fun s10 => asCons r18 fun a19 r19 => asD (.int .i64) a19 fun s11 => asCons r19 fun a20 r20 => asD (.int .i64) a20 fun s12 => asCons r20 fun a21 r21 => asD (.arr 16 (.int .i64)) a21 fun s13 => asCons r21 fun a22 r22 => asP (.vec 1) a22 <| asNil r22 <| asCons r16 fun a23 r23 => asD (.int .i64) a23 fun s14 => asNil r23 <| asCons r13 fun a24 r24 => asRw (.int .i64) false a24 fun s15 => asCons r24 fun a25 r25 => asOne (.pair (.int .i64) (.pair (.int .i64) (.pair (.int .i64) (.pair (.arr 16 (.int .i64)) (.pair (.sl (.int .i64)) .unit))))) a25 fun a26 => asAgL a26 fun l27 => asCons l27 fun a28 r28 => asD (.int .i64) a28 fun s16 => asCons r28 fun a29 r29 => asD (.int .i64) a29 fun s17 => asCons r29 fun a30 r30 => asD (.int .i64) a30 fun s18 => asCons r30 fun a31 r31 => asD (.arr 16 (.int .i64)) a31 fun s19 => asCons r31 fun a32 r32 => asP (.vec 3) a32 <| asNil r32 <| asCons r25 fun a33 r33 => asRw (.int .i64) false a33 fun s20 => asCons r33 fun a34 r34 => asOne opT a34 fun a35 => asD opT a35 fun s21 => asNil r34 <| j6r16 (fun z1 => K .ret [(1, .undef), (2, .undef), (6, B z1), (7, .undef), (10, .undef), (11, .undef), (40, .undef), (41, .undef), (42, .undef)] []) (fun z1 z2 z3 z4 z5 z6 z7 z8 z9 z10 z11 z12 z13 z14 z15 z16 z17 => K .normal [(1, .d (.sl (.int .i64)) z1), (2, .d (.sl (.int .i64)) z2), (6, .undef), (7, .ptr 0 0 []), (10, .ptr 2 0 []), (11, I z3), (40, .d (.sl (.pair (.int .i64) (.pair (.int .i64) (.pair (.int .i64) (.pair (.int .i64) (.pair (.int .i64) .unit)))))) z4), (41, I z5), (42, I z6)] [.one (.pair (.pair (.int .i64) (.pair (.int .i64) (.pair (.int .i64) (.pair (.arr 16 (.int .i64)) (.pair (.sl (.int .i64)) .unit))))) (.pair (.int .i64) .unit)) (.agg [.agg [I z7, I z8, I z9, .d (.arr 16 (.int .i64)) z10, .vec 1], I z11]), .row (.int .i64) z12 false, .one (.pair (.int .i64) (.pair (.int .i64) (.pair (.int .i64) (.pair (.arr 16 (.int .i64)) (.pair (.sl (.int .i64)) .unit))))) (.agg [I z13, I z14, I z15, .d (.arr 16 (.int .i64)) z16, .vec 3]), .row (.int .i64) z17 false]) s1 s2 s3 s4 s5 s6 s7 s8 s9 s10 s11 s12 s13 s14 s15 s16 s17 s18 s19 s20 s21
theorem j6r16v : JoinV E (inlF (PA (ACall E)) E 8) (E.info 6).keep 0 Try.f6.ntmps 7400016 4000016 (jbody Try.f6 4000016) ([1, 2, 7, 10, 11, 12, 13, 14, 15, 40, 41, 42], lsj6r16) := by
  intro vs σ K (h0 : lsj6r16 vs σ K)
  unfold lsj6r16 at h0
  obtain ⟨a1, r1, rfl, h1⟩ := asCons_inv h0; clear h0
  obtain ⟨s1, rfl, h2⟩ := asD_inv h1; clear h1
  obtain ⟨a2, r2, rfl, h3⟩ := asCons_inv h2; clear h2
  obtain ⟨s2, rfl, h4⟩ := asD_inv h3; clear h3
  obtain ⟨a3, r3, rfl, h5⟩ := asCons_inv h4; clear h4
  obtain ⟨rfl, h6⟩ := asP_inv h5; clear h5
  obtain ⟨a4, r4, rfl, h7⟩ := asCons_inv h6; clear h6
  obtain ⟨rfl, h8⟩ := asP_inv h7; clear h7
  obtain ⟨a5, r5, rfl, h9⟩ := asCons_inv h8; clear h8
  obtain ⟨s3, rfl, h10⟩ := asD_inv h9; clear h9
  obtain ⟨a6, r6, rfl, h11⟩ := asCons_inv h10; clear h10
  obtain ⟨s4, rfl, h12⟩ := asD_inv h11; clear h11
  obtain ⟨a7, r7, rfl, h13⟩ := asCons_inv h12; clear h12
  obtain ⟨rfl, h14⟩ := asP_inv h13; clear h13
  obtain ⟨a8, r8, rfl, h15⟩ := asCons_inv h14; clear h14
  obtain ⟨s5, rfl, h16⟩ := asD_inv h15; clear h15
  obtain ⟨a9, r9, rfl, h17⟩ := asCons_inv h16; clear h16
  obtain ⟨s6, rfl, h18⟩ := asD_inv h17; clear h17
  obtain ⟨a10, r10, rfl, h19⟩ := asCons_inv h18; clear h18
  obtain ⟨s7, rfl, h20⟩ := asD_inv h19; clear h19
  obtain ⟨a11, r11, rfl, h21⟩ := asCons_inv h20; clear h20
  obtain ⟨s8, rfl, h22⟩ := asD_inv h21; clear h21
  obtain ⟨a12, r12, rfl, h23⟩ := asCons_inv h22; clear h22
  obtain ⟨s9, rfl, h24⟩ := asD_inv h23; clear h23
  obtain ⟨rfl, h25⟩ := asNil_inv h24; clear h24
  obtain ⟨a13, r13, rfl, h26⟩ := asCons_inv h25; clear h25
  obtain ⟨a14, rfl, h27⟩ := asOne_inv h26; clear h26
  obtain ⟨l15, rfl, h28⟩ := asAgL_inv h27; clear h27
  obtain ⟨a16, r16, rfl, h29⟩ := asCons_inv h28; clear h28
  obtain ⟨l17, rfl, h30⟩ := asAgL_inv h29; clear h29
  obtain ⟨a18, r18, rfl, h31⟩ := asCons_inv h30; clear h30
  obtain ⟨s10, rfl, h32⟩ := asD_inv h31; clear h31
  obtain ⟨a19, r19, rfl, h33⟩ := asCons_inv h32; clear h32
  obtain ⟨s11, rfl, h34⟩ := asD_inv h33; clear h33
  obtain ⟨a20, r20, rfl, h35⟩ := asCons_inv h34; clear h34
  obtain ⟨s12, rfl, h36⟩ := asD_inv h35; clear h35
  obtain ⟨a21, r21, rfl, h37⟩ := asCons_inv h36; clear h36
  obtain ⟨s13, rfl, h38⟩ := asD_inv h37; clear h37
  obtain ⟨a22, r22, rfl, h39⟩ := asCons_inv h38; clear h38
  obtain ⟨rfl, h40⟩ := asP_inv h39; clear h39
  obtain ⟨rfl, h41⟩ := asNil_inv h40; clear h40
  obtain ⟨a23, r23, rfl, h42⟩ := asCons_inv h41; clear h41
  obtain ⟨s14, rfl, h43⟩ := asD_inv h42; clear h42
  obtain ⟨rfl, h44⟩ := asNil_inv h43; clear h43
  obtain ⟨a24, r24, rfl, h45⟩ := asCons_inv h44; clear h44
  obtain ⟨s15, rfl, h46⟩ := asRw_inv h45; clear h45
  obtain ⟨a25, r25, rfl, h47⟩ := asCons_inv h46; clear h46
  obtain ⟨a26, rfl, h48⟩ := asOne_inv h47; clear h47
  obtain ⟨l27, rfl, h49⟩ := asAgL_inv h48; clear h48
  obtain ⟨a28, r28, rfl, h50⟩ := asCons_inv h49; clear h49
  obtain ⟨s16, rfl, h51⟩ := asD_inv h50; clear h50
  obtain ⟨a29, r29, rfl, h52⟩ := asCons_inv h51; clear h51
  obtain ⟨s17, rfl, h53⟩ := asD_inv h52; clear h52
  obtain ⟨a30, r30, rfl, h54⟩ := asCons_inv h53; clear h53
  obtain ⟨s18, rfl, h55⟩ := asD_inv h54; clear h54
  obtain ⟨a31, r31, rfl, h56⟩ := asCons_inv h55; clear h55
  obtain ⟨s19, rfl, h57⟩ := asD_inv h56; clear h56
  obtain ⟨a32, r32, rfl, h58⟩ := asCons_inv h57; clear h57
  obtain ⟨rfl, h59⟩ := asP_inv h58; clear h58
  obtain ⟨rfl, h60⟩ := asNil_inv h59; clear h59
  obtain ⟨a33, r33, rfl, h61⟩ := asCons_inv h60; clear h60
  obtain ⟨s20, rfl, h62⟩ := asRw_inv h61; clear h61
  obtain ⟨a34, r34, rfl, h63⟩ := asCons_inv h62; clear h62
  obtain ⟨a35, rfl, h64⟩ := asOne_inv h63; clear h63
  obtain ⟨s21, rfl, h65⟩ := asD_inv h64; clear h64
  obtain ⟨rfl, h66⟩ := asNil_inv h65; clear h65
  exact join_round2 (S := ofL Sj6r16) (L := lofL Lj6r16) hSj6r16 (inlOK _) (all_eq (by kernel_rfl : subsOf (E.info 6).keep (jbody Try.f6 4000016) = [.join 4000019 (jbody Try.f6 4000019)]) (all_cons (joinOK_of (mk := 7400019) (sl := [1, 2, 7, 10, 11, 12, 13, 14, 15, 16, 40, 41, 42]) (ss := [([1, 2, 7, 10, 11, 12, 13, 14, 15, 16, 40, 41, 42], lsj6r19)]) (by kernel_rfl) (by kernel_rfl) (all_cons j6r19v (all_nil))) (all_nil))) (by kernel_rfl) h66.of

abbrev Sj6r13 : List (Nat × Pat × Sp) := [(37, none, sp37)]
theorem hSj6r13 : SpecOK E (ofL Sj6r13) := specOK_cons h37 (specOK_nil)
abbrev Lj6r13 : List (Nat × List Nat × Pat × LSp) := [(7400016, [1, 2, 7, 10, 11, 12, 13, 14, 15, 40, 41, 42], none, lsj6r16)]
def lsj6r13 : LSp := fun vs σ K => asCons vs fun a1 r1 => asD (.sl (.int .i64)) a1 fun s1 => asCons r1 fun a2 r2 => asD (.sl (.int .i64)) a2 fun s2 => asCons r2 fun a3 r3 => asP (.ptr 0 0 []) a3 <| asCons r3 fun a4 r4 => asP (.ptr 2 0 []) a4 <| asCons r4 fun a5 r5 => asD (.int .i64) a5 fun s3 => asCons r5 fun a6 r6 => asD (.int .i64) a6 fun s4 => asCons r6 fun a7 r7 => asP (.ptr 4 0 []) a7 <| asCons r7 fun a8 r8 => asD (.int .i64) a8 fun s5 => asCons r8 fun a9 r9 => asD (.sl (.pair (.int .i64) (.pair (.int .i64) (.pair (.int .i64) (.pair (.int .i64) (.pair (.int .i64) .unit)))))) a9 fun s6 => asCons r9 fun a10 r10 => asD (.int .i64) a10 fun s7 => asCons r10 fun a11 r11 => asD (.int .i64) a11 fun s8 => asNil r11 <| asCons σ fun a12 r12 => asOne (.pair (.pair (.int .i64) (.pair (.int .i64) (.pair (.int .i64) (.pair (.arr 16 (.int .i64)) (.pair (.sl (.int .i64)) .unit))))) (.pair (.int .i64) .unit)) a12 fun a13 => asAgL a13 fun l14 => asCons l14 fun a15 r15 => asAgL a15 fun l16 => asCons l16 fun a17 r17 => asD (.int .i64) a17 fun s9 => asCons r17 fun a18 r18 => asD (.int .i64) a18 fun s10 => asCons r18 fun a19 r19 => asD (.int .i64) a19 fun s11 => asCons r19 fun a20 r20 => asD (.arr 16 (.int .i64)) a20 fun s12 => asCons r20 fun a21 r21 => asP (.vec 1) a21 <| asNil r21 <| asCons r15 fun a22 r22 => asD (.int .i64) a22 fun s13 => asNil r22 <| asCons r12 fun a23 r23 => asRw (.int .i64) false a23 fun s14 => asCons r23 fun a24 r24 => asOne (.pair (.int .i64) (.pair (.int .i64) (.pair (.int .i64) (.pair (.arr 16 (.int .i64)) (.pair (.sl (.int .i64)) .unit))))) a24 fun a25 => asAgL a25 fun l26 => asCons l26 fun a27 r27 => asD (.int .i64) a27 fun s15 => asCons r27 fun a28 r28 => asD (.int .i64) a28 fun s16 => asCons r28 fun a29 r29 => asD (.int .i64) a29 fun s17 => asCons r29 fun a30 r30 => asD (.arr 16 (.int .i64)) a30 fun s18 => asCons r30 fun a31 r31 => asP (.vec 3) a31 <| asNil r31 <| asCons r24 fun a32 r32 => asRw (.int .i64) false a32 fun s19 => asCons r32 fun a33 r33 => asOne opT a33 fun a34 => asD opT a34 fun s20 => asNil r33 <| j6r13 (fun z1 => K .ret [(1, .undef), (2, .undef), (6, B z1), (7, .undef), (10, .undef), (11, .undef), (40, .undef), (41, .undef), (42, .undef)] []) (fun z1 z2 z3 z4 z5 z6 z7 z8 z9 z10 z11 z12 z13 z14 z15 z16 z17 => K .normal [(1, .d (.sl (.int .i64)) z1), (2, .d (.sl (.int .i64)) z2), (6, .undef), (7, .ptr 0 0 []), (10, .ptr 2 0 []), (11, I z3), (40, .d (.sl (.pair (.int .i64) (.pair (.int .i64) (.pair (.int .i64) (.pair (.int .i64) (.pair (.int .i64) .unit)))))) z4), (41, I z5), (42, I z6)] [.one (.pair (.pair (.int .i64) (.pair (.int .i64) (.pair (.int .i64) (.pair (.arr 16 (.int .i64)) (.pair (.sl (.int .i64)) .unit))))) (.pair (.int .i64) .unit)) (.agg [.agg [I z7, I z8, I z9, .d (.arr 16 (.int .i64)) z10, .vec 1], I z11]), .row (.int .i64) z12 false, .one (.pair (.int .i64) (.pair (.int .i64) (.pair (.int .i64) (.pair (.arr 16 (.int .i64)) (.pair (.sl (.int .i64)) .unit))))) (.agg [I z13, I z14, I z15, .d (.arr 16 (.int .i64)) z16, .vec 3]), .row (.int .i64) z17 false]) s1 s2 s3 s4 s5 s6 s7 s8 s9 s10 s11 s12 s13 s14 s15 s16 s17 s18 s19 s20
theorem j6r13v : JoinV E (inlF (PA (ACall E)) E 8) (E.info 6).keep 0 Try.f6.ntmps 7400013 4000013 (jbody Try.f6 4000013) ([1, 2, 7, 10, 11, 12, 13, 14, 40, 41, 42], lsj6r13) := by
  intro vs σ K (h0 : lsj6r13 vs σ K)
  unfold lsj6r13 at h0
  obtain ⟨a1, r1, rfl, h1⟩ := asCons_inv h0; clear h0
  obtain ⟨s1, rfl, h2⟩ := asD_inv h1; clear h1
  obtain ⟨a2, r2, rfl, h3⟩ := asCons_inv h2; clear h2
  obtain ⟨s2, rfl, h4⟩ := asD_inv h3; clear h3
  obtain ⟨a3, r3, rfl, h5⟩ := asCons_inv h4; clear h4
  obtain ⟨rfl, h6⟩ := asP_inv h5; clear h5
  obtain ⟨a4, r4, rfl, h7⟩ := asCons_inv h6; clear h6
  obtain ⟨rfl, h8⟩ := asP_inv h7; clear h7
  obtain ⟨a5, r5, rfl, h9⟩ := asCons_inv h8; clear h8
  obtain ⟨s3, rfl, h10⟩ := asD_inv h9; clear h9
  obtain ⟨a6, r6, rfl, h11⟩ := asCons_inv h10; clear h10
  obtain ⟨s4, rfl, h12⟩ := asD_inv h11; clear h11
  obtain ⟨a7, r7, rfl, h13⟩ := asCons_inv h12; clear h12
  obtain ⟨rfl, h14⟩ := asP_inv h13; clear h13
  obtain ⟨a8, r8, rfl, h15⟩ := asCons_inv h14; clear h14
  obtain ⟨s5, rfl, h16⟩ := asD_inv h15; clear h15
  obtain ⟨a9, r9, rfl, h17⟩ := asCons_inv h16; clear h16
  obtain ⟨s6, rfl, h18⟩ := asD_inv h17; clear h17
  obtain ⟨a10, r10, rfl, h19⟩ := asCons_inv h18; clear h18
  obtain ⟨s7, rfl, h20⟩ := asD_inv h19; clear h19
  obtain ⟨a11, r11, rfl, h21⟩ := asCons_inv h20; clear h20
  obtain ⟨s8, rfl, h22⟩ := asD_inv h21; clear h21
  obtain ⟨rfl, h23⟩ := asNil_inv h22; clear h22
  obtain ⟨a12, r12, rfl, h24⟩ := asCons_inv h23; clear h23
  obtain ⟨a13, rfl, h25⟩ := asOne_inv h24; clear h24
  obtain ⟨l14, rfl, h26⟩ := asAgL_inv h25; clear h25
  obtain ⟨a15, r15, rfl, h27⟩ := asCons_inv h26; clear h26
  obtain ⟨l16, rfl, h28⟩ := asAgL_inv h27; clear h27
  obtain ⟨a17, r17, rfl, h29⟩ := asCons_inv h28; clear h28
  obtain ⟨s9, rfl, h30⟩ := asD_inv h29; clear h29
  obtain ⟨a18, r18, rfl, h31⟩ := asCons_inv h30; clear h30
  obtain ⟨s10, rfl, h32⟩ := asD_inv h31; clear h31
  obtain ⟨a19, r19, rfl, h33⟩ := asCons_inv h32; clear h32
  obtain ⟨s11, rfl, h34⟩ := asD_inv h33; clear h33
  obtain ⟨a20, r20, rfl, h35⟩ := asCons_inv h34; clear h34
  obtain ⟨s12, rfl, h36⟩ := asD_inv h35; clear h35
  obtain ⟨a21, r21, rfl, h37⟩ := asCons_inv h36; clear h36
  obtain ⟨rfl, h38⟩ := asP_inv h37; clear h37
  obtain ⟨rfl, h39⟩ := asNil_inv h38; clear h38
  obtain ⟨a22, r22, rfl, h40⟩ := asCons_inv h39; clear h39
  obtain ⟨s13, rfl, h41⟩ := asD_inv h40; clear h40
  obtain ⟨rfl, h42⟩ := asNil_inv h41; clear h41
  obtain ⟨a23, r23, rfl, h43⟩ := asCons_inv h42; clear h42
  obtain ⟨s14, rfl, h44⟩ := asRw_inv h43; clear h43
  obtain ⟨a24, r24, rfl, h45⟩ := asCons_inv h44; clear h44
  obtain ⟨a25, rfl, h46⟩ := asOne_inv h45; clear h45
  obtain ⟨l26, rfl, h47⟩ := asAgL_inv h46; clear h46
  obtain ⟨a27, r27, rfl, h48⟩ := asCons_inv h47; clear h47
  obtain ⟨s15, rfl, h49⟩ := asD_inv h48; clear h48
  obtain ⟨a28, r28, rfl, h50⟩ := asCons_inv h49; clear h49
  obtain ⟨s16, rfl, h51⟩ := asD_inv h50; clear h50
  obtain ⟨a29, r29, rfl, h52⟩ := asCons_inv h51; clear h51
  obtain ⟨s17, rfl, h53⟩ := asD_inv h52; clear h52
  obtain ⟨a30, r30, rfl, h54⟩ := asCons_inv h53; clear h53
  obtain ⟨s18, rfl, h55⟩ := asD_inv h54; clear h54
  obtain ⟨a31, r31, rfl, h56⟩ := asCons_inv h55; clear h55
  obtain ⟨rfl, h57⟩ := asP_inv h56; clear h56
  obtain ⟨rfl, h58⟩ := asNil_inv h57; clear h57
  obtain ⟨a32, r32, rfl, h59⟩ := asCons_inv h58; clear h58
  obtain ⟨s19, rfl, h60⟩ := asRw_inv h59; clear h59
  obtain ⟨a33, r33, rfl, h61⟩ := asCons_inv h60; clear h60
  obtain ⟨a34, rfl, h62⟩ := asOne_inv h61; clear h61
  obtain ⟨s20, rfl, h63⟩ := asD_inv h62; clear h62
  obtain ⟨rfl, h64⟩ := asNil_inv h63; clear h63
  exact join_round2 (S := ofL Sj6r13) (L := lofL Lj6r13) hSj6r13 (inlOK _) (all_eq (by kernel_rfl : subsOf (E.info 6).keep (jbody Try.f6 4000013) = [.join 4000016 (jbody Try.f6 4000016)]) (all_cons (joinOK_of (mk := 7400016) (sl := [1, 2, 7, 10, 11, 12, 13, 14, 15, 40, 41, 42]) (ss := [([1, 2, 7, 10, 11, 12, 13, 14, 15, 40, 41, 42], lsj6r16)]) (by kernel_rfl) (by kernel_rfl) (all_cons j6r16v (all_nil))) (all_nil))) (by kernel_rfl) h64.of

abbrev Sl6r8 : List (Nat × Pat × Sp) := []
theorem hSl6r8 : SpecOK E (ofL Sl6r8) := specOK_nil
abbrev Ll6r8 : List (Nat × List Nat × Pat × LSp) := [(7400013, [1, 2, 7, 10, 11, 12, 13, 14, 40, 41, 42], none, lsj6r13)]
def lsl6r8 : LSp := fun vs σ K => asCons vs fun a1 r1 => asD (.sl (.int .i64)) a1 fun s1 => asCons r1 fun a2 r2 => asD (.sl (.int .i64)) a2 fun s2 => asCons r2 fun a3 r3 => asP (.ptr 0 0 []) a3 <| asCons r3 fun a4 r4 => asP (.ptr 2 0 []) a4 <| asCons r4 fun a5 r5 => asD (.int .i64) a5 fun s3 => asCons r5 fun a6 r6 => asD (.sl (.pair (.int .i64) (.pair (.int .i64) (.pair (.int .i64) (.pair (.int .i64) (.pair (.int .i64) .unit)))))) a6 fun s4 => asCons r6 fun a7 r7 => asD (.int .i64) a7 fun s5 => asCons r7 fun a8 r8 => asD (.int .i64) a8 fun s6 => asNil r8 <| asCons σ fun a9 r9 => asOne (.pair (.pair (.int .i64) (.pair (.int .i64) (.pair (.int .i64) (.pair (.arr 16 (.int .i64)) (.pair (.sl (.int .i64)) .unit))))) (.pair (.int .i64) .unit)) a9 fun a10 => asAgL a10 fun l11 => asCons l11 fun a12 r12 => asAgL a12 fun l13 => asCons l13 fun a14 r14 => asD (.int .i64) a14 fun s7 => asCons r14 fun a15 r15 => asD (.int .i64) a15 fun s8 => asCons r15 fun a16 r16 => asD (.int .i64) a16 fun s9 => asCons r16 fun a17 r17 => asD (.arr 16 (.int .i64)) a17 fun s10 => asCons r17 fun a18 r18 => asP (.vec 1) a18 <| asNil r18 <| asCons r12 fun a19 r19 => asD (.int .i64) a19 fun s11 => asNil r19 <| asCons r9 fun a20 r20 => asRw (.int .i64) false a20 fun s12 => asCons r20 fun a21 r21 => asOne (.pair (.int .i64) (.pair (.int .i64) (.pair (.int .i64) (.pair (.arr 16 (.int .i64)) (.pair (.sl (.int .i64)) .unit))))) a21 fun a22 => asAgL a22 fun l23 => asCons l23 fun a24 r24 => asD (.int .i64) a24 fun s13 => asCons r24 fun a25 r25 => asD (.int .i64) a25 fun s14 => asCons r25 fun a26 r26 => asD (.int .i64) a26 fun s15 => asCons r26 fun a27 r27 => asD (.arr 16 (.int .i64)) a27 fun s16 => asCons r27 fun a28 r28 => asP (.vec 3) a28 <| asNil r28 <| asCons r21 fun a29 r29 => asRw (.int .i64) false a29 fun s17 => asNil r29 <| l6r8 (fun z1 => K .ret [(6, B z1)] []) (K (.exit 0) [(6, .undef)] []) s1 s2 s3 s4 s5 s6 s7 s8 s9 s10 s11 s12 s13 s14 s15 s16 s17
theorem l6r8v : LoopV E (inlF (PA (ACall E)) E 8) (E.info 6).keep 0 Try.f6.ntmps 7000008 (body Try.f6 8) ([1, 2, 7, 10, 11, 40, 41, 42], lsl6r8) := by
  intro vs σ K (h0 : lsl6r8 vs σ K)
  unfold lsl6r8 at h0
  obtain ⟨a1, r1, rfl, h1⟩ := asCons_inv h0; clear h0
  obtain ⟨s1, rfl, h2⟩ := asD_inv h1; clear h1
  obtain ⟨a2, r2, rfl, h3⟩ := asCons_inv h2; clear h2
  obtain ⟨s2, rfl, h4⟩ := asD_inv h3; clear h3
  obtain ⟨a3, r3, rfl, h5⟩ := asCons_inv h4; clear h4
  obtain ⟨rfl, h6⟩ := asP_inv h5; clear h5
  obtain ⟨a4, r4, rfl, h7⟩ := asCons_inv h6; clear h6
  obtain ⟨rfl, h8⟩ := asP_inv h7; clear h7
  obtain ⟨a5, r5, rfl, h9⟩ := asCons_inv h8; clear h8
  obtain ⟨s3, rfl, h10⟩ := asD_inv h9; clear h9
  obtain ⟨a6, r6, rfl, h11⟩ := asCons_inv h10; clear h10
  obtain ⟨s4, rfl, h12⟩ := asD_inv h11; clear h11
  obtain ⟨a7, r7, rfl, h13⟩ := asCons_inv h12; clear h12
  obtain ⟨s5, rfl, h14⟩ := asD_inv h13; clear h13
  obtain ⟨a8, r8, rfl, h15⟩ := asCons_inv h14; clear h14
  obtain ⟨s6, rfl, h16⟩ := asD_inv h15; clear h15
  obtain ⟨rfl, h17⟩ := asNil_inv h16; clear h16
  obtain ⟨a9, r9, rfl, h18⟩ := asCons_inv h17; clear h17
  obtain ⟨a10, rfl, h19⟩ := asOne_inv h18; clear h18
  obtain ⟨l11, rfl, h20⟩ := asAgL_inv h19; clear h19
  obtain ⟨a12, r12, rfl, h21⟩ := asCons_inv h20; clear h20
  obtain ⟨l13, rfl, h22⟩ := asAgL_inv h21; clear h21
  obtain ⟨a14, r14, rfl, h23⟩ := asCons_inv h22; clear h22
  obtain ⟨s7, rfl, h24⟩ := asD_inv h23; clear h23
  obtain ⟨a15, r15, rfl, h25⟩ := asCons_inv h24; clear h24
  obtain ⟨s8, rfl, h26⟩ := asD_inv h25; clear h25
  obtain ⟨a16, r16, rfl, h27⟩ := asCons_inv h26; clear h26
  obtain ⟨s9, rfl, h28⟩ := asD_inv h27; clear h27
  obtain ⟨a17, r17, rfl, h29⟩ := asCons_inv h28; clear h28
  obtain ⟨s10, rfl, h30⟩ := asD_inv h29; clear h29
  obtain ⟨a18, r18, rfl, h31⟩ := asCons_inv h30; clear h30
  obtain ⟨rfl, h32⟩ := asP_inv h31; clear h31
  obtain ⟨rfl, h33⟩ := asNil_inv h32; clear h32
  obtain ⟨a19, r19, rfl, h34⟩ := asCons_inv h33; clear h33
  obtain ⟨s11, rfl, h35⟩ := asD_inv h34; clear h34
  obtain ⟨rfl, h36⟩ := asNil_inv h35; clear h35
  obtain ⟨a20, r20, rfl, h37⟩ := asCons_inv h36; clear h36
  obtain ⟨s12, rfl, h38⟩ := asRw_inv h37; clear h37
  obtain ⟨a21, r21, rfl, h39⟩ := asCons_inv h38; clear h38
  obtain ⟨a22, rfl, h40⟩ := asOne_inv h39; clear h39
  obtain ⟨l23, rfl, h41⟩ := asAgL_inv h40; clear h40
  obtain ⟨a24, r24, rfl, h42⟩ := asCons_inv h41; clear h41
  obtain ⟨s13, rfl, h43⟩ := asD_inv h42; clear h42
  obtain ⟨a25, r25, rfl, h44⟩ := asCons_inv h43; clear h43
  obtain ⟨s14, rfl, h45⟩ := asD_inv h44; clear h44
  obtain ⟨a26, r26, rfl, h46⟩ := asCons_inv h45; clear h45
  obtain ⟨s15, rfl, h47⟩ := asD_inv h46; clear h46
  obtain ⟨a27, r27, rfl, h48⟩ := asCons_inv h47; clear h47
  obtain ⟨s16, rfl, h49⟩ := asD_inv h48; clear h48
  obtain ⟨a28, r28, rfl, h50⟩ := asCons_inv h49; clear h49
  obtain ⟨rfl, h51⟩ := asP_inv h50; clear h50
  obtain ⟨rfl, h52⟩ := asNil_inv h51; clear h51
  obtain ⟨a29, r29, rfl, h53⟩ := asCons_inv h52; clear h52
  obtain ⟨s17, rfl, h54⟩ := asRw_inv h53; clear h53
  obtain ⟨rfl, h55⟩ := asNil_inv h54; clear h54
  intro J hJ
  have hp : ∀ c' ∈ subsOf (E.info 6).keep (body Try.f6 8), SubOK E (inlF (PA (ACall E)) E 8) (E.info 6).keep 0 Try.f6.ntmps (lofL Ll6r8) c' := all_eq (by kernel_rfl : subsOf (E.info 6).keep (body Try.f6 8) = [.join 4000013 (jbody Try.f6 4000013)]) (all_cons (joinOK_of (mk := 7400013) (sl := [1, 2, 7, 10, 11, 12, 13, 14, 40, 41, 42]) (ss := [([1, 2, 7, 10, 11, 12, 13, 14, 40, 41, 42], lsj6r13)]) (by kernel_rfl) (by kernel_rfl) (all_cons j6r13v (all_nil))) (all_nil))
  exact h55.of (fun s1 s2 s3 s4 s5 s6 s7 s8 s9 s10 s11 s12 s13 s14 s15 s16 s17 => J [(7000008, .undef), (1, .d (.sl (.int .i64)) s1), (2, .d (.sl (.int .i64)) s2), (7, .ptr 0 0 []), (10, .ptr 2 0 []), (11, I s3), (40, .d (.sl (.pair (.int .i64) (.pair (.int .i64) (.pair (.int .i64) (.pair (.int .i64) (.pair (.int .i64) .unit)))))) s4), (41, I s5), (42, I s6)] [.one (.pair (.pair (.int .i64) (.pair (.int .i64) (.pair (.int .i64) (.pair (.arr 16 (.int .i64)) (.pair (.sl (.int .i64)) .unit))))) (.pair (.int .i64) .unit)) (.agg [.agg [I s7, I s8, I s9, .d (.arr 16 (.int .i64)) s10, .vec 1], I s11]), .row (.int .i64) s12 false, .one (.pair (.int .i64) (.pair (.int .i64) (.pair (.int .i64) (.pair (.arr 16 (.int .i64)) (.pair (.sl (.int .i64)) .unit))))) (.agg [I s13, I s14, I s15, .d (.arr 16 (.int .i64)) s16, .vec 3]), .row (.int .i64) s17 false]) (fun s1 s2 s3 s4 s5 s6 s7 s8 s9 s10 s11 s12 s13 s14 s15 s16 s17 hb => loop_round2 (S := ofL Sl6r8) (L := lofL Ll6r8) hSl6r8 (inlOK _) hp hJ (by kernel_rfl) hb)

abbrev Sj6r2 : List (Nat × Pat × Sp) := [(35, none, sp35), (36, none, sp36)]
theorem hSj6r2 : SpecOK E (ofL Sj6r2) := specOK_cons h35 (specOK_cons h36 (specOK_nil))
abbrev Lj6r2 : List (Nat × List Nat × Pat × LSp) := [(7000008, [1, 2, 7, 10, 11, 40, 41, 42], none, lsl6r8)]
def lsj6r2 : LSp := fun vs σ K => asCons vs fun a1 r1 => asD (.sl (.pair (.int .i64) (.pair (.int .i64) (.pair (.int .i64) (.pair (.int .i64) (.pair (.int .i64) .unit)))))) a1 fun s1 => asCons r1 fun a2 r2 => asD (.sl (.int .i64)) a2 fun s2 => asCons r2 fun a3 r3 => asD (.sl (.int .i64)) a3 fun s3 => asCons r3 fun a4 r4 => asP (.ptr 0 0 []) a4 <| asNil r4 <| asCons σ fun a5 r5 => asOne (.pair (.pair (.int .i64) (.pair (.int .i64) (.pair (.int .i64) (.pair (.arr 16 (.int .i64)) (.pair (.sl (.int .i64)) .unit))))) (.pair (.int .i64) .unit)) a5 fun a6 => asAgL a6 fun l7 => asCons l7 fun a8 r8 => asAgL a8 fun l9 => asCons l9 fun a10 r10 => asD (.int .i64) a10 fun s4 => asCons r10 fun a11 r11 => asD (.int .i64) a11 fun s5 => asCons r11 fun a12 r12 => asD (.int .i64) a12 fun s6 => asCons r12 fun a13 r13 => asD (.arr 16 (.int .i64)) a13 fun s7 => asCons r13 fun a14 r14 => asP (.vec 1) a14 <| asNil r14 <| asCons r8 fun a15 r15 => asD (.int .i64) a15 fun s8 => asNil r15 <| asCons r5 fun a16 r16 => asRw (.int .i64) false a16 fun s9 => asNil r16 <| j6r2 (fun z1 => K .ret [(6, B z1)] []) s1 s2 s3 s4 s5 s6 s7 s8 s9
theorem j6r2v : JoinV E (inlF (PA (ACall E)) E 8) (E.info 6).keep 0 Try.f6.ntmps 7400002 4000002 (jbody Try.f6 4000002) ([0, 1, 2, 7], lsj6r2) := by
  intro vs σ K (h0 : lsj6r2 vs σ K)
  unfold lsj6r2 at h0
  obtain ⟨a1, r1, rfl, h1⟩ := asCons_inv h0; clear h0
  obtain ⟨s1, rfl, h2⟩ := asD_inv h1; clear h1
  obtain ⟨a2, r2, rfl, h3⟩ := asCons_inv h2; clear h2
  obtain ⟨s2, rfl, h4⟩ := asD_inv h3; clear h3
  obtain ⟨a3, r3, rfl, h5⟩ := asCons_inv h4; clear h4
  obtain ⟨s3, rfl, h6⟩ := asD_inv h5; clear h5
  obtain ⟨a4, r4, rfl, h7⟩ := asCons_inv h6; clear h6
  obtain ⟨rfl, h8⟩ := asP_inv h7; clear h7
  obtain ⟨rfl, h9⟩ := asNil_inv h8; clear h8
  obtain ⟨a5, r5, rfl, h10⟩ := asCons_inv h9; clear h9
  obtain ⟨a6, rfl, h11⟩ := asOne_inv h10; clear h10
  obtain ⟨l7, rfl, h12⟩ := asAgL_inv h11; clear h11
  obtain ⟨a8, r8, rfl, h13⟩ := asCons_inv h12; clear h12
  obtain ⟨l9, rfl, h14⟩ := asAgL_inv h13; clear h13
  obtain ⟨a10, r10, rfl, h15⟩ := asCons_inv h14; clear h14
  obtain ⟨s4, rfl, h16⟩ := asD_inv h15; clear h15
  obtain ⟨a11, r11, rfl, h17⟩ := asCons_inv h16; clear h16
  obtain ⟨s5, rfl, h18⟩ := asD_inv h17; clear h17
  obtain ⟨a12, r12, rfl, h19⟩ := asCons_inv h18; clear h18
  obtain ⟨s6, rfl, h20⟩ := asD_inv h19; clear h19
  obtain ⟨a13, r13, rfl, h21⟩ := asCons_inv h20; clear h20
  obtain ⟨s7, rfl, h22⟩ := asD_inv h21; clear h21
  obtain ⟨a14, r14, rfl, h23⟩ := asCons_inv h22; clear h22
  obtain ⟨rfl, h24⟩ := asP_inv h23; clear h23
  obtain ⟨rfl, h25⟩ := asNil_inv h24; clear h24
  obtain ⟨a15, r15, rfl, h26⟩ := asCons_inv h25; clear h25
  obtain ⟨s8, rfl, h27⟩ := asD_inv h26; clear h26
  obtain ⟨rfl, h28⟩ := asNil_inv h27; clear h27
  obtain ⟨a16, r16, rfl, h29⟩ := asCons_inv h28; clear h28
  obtain ⟨s9, rfl, h30⟩ := asRw_inv h29; clear h29
  obtain ⟨rfl, h31⟩ := asNil_inv h30; clear h30
  exact join_round2 (S := ofL Sj6r2) (L := lofL Lj6r2) hSj6r2 (inlOK _) (all_eq (by kernel_rfl : subsOf (E.info 6).keep (jbody Try.f6 4000002) = [.loop (body Try.f6 8)]) (all_cons (loopOK_of (mk := 7000008) (sl := [1, 2, 7, 10, 11, 40, 41, 42]) (ss := [([1, 2, 7, 10, 11, 40, 41, 42], lsl6r8)]) (by kernel_rfl) (by kernel_rfl) (all_cons l6r8v (all_nil))) (all_nil))) (by kernel_rfl) h31.of

abbrev S6 : List (Nat × Pat × Sp) := [(35, none, sp35)]
theorem hS6 : SpecOK E (ofL S6) := specOK_cons h35 (specOK_nil)
abbrev L6 : List (Nat × List Nat × Pat × LSp) := [(7400002, [0, 1, 2, 7], none, lsj6r2)]
def sp6 : Sp := fun args τ K => asCons args fun a1 r1 => asD (.sl (.pair (.int .i64) (.pair (.int .i64) (.pair (.int .i64) (.pair (.int .i64) (.pair (.int .i64) .unit)))))) a1 fun x1 => asCons r1 fun a2 r2 => asD (.sl (.int .i64)) a2 fun x2 => asCons r2 fun a3 r3 => asD (.sl (.int .i64)) a3 fun x3 => asNil r3 <| asNil τ <| c6 x1 x2 x3 (fun z1 => K (B z1) [])
theorem h6 : ∀ args τ K, sp6 args τ K → ACall E 6 args τ K := by
  intro args τ K h0
  unfold sp6 at h0
  obtain ⟨a1, r1, rfl, h1⟩ := asCons_inv h0; clear h0
  obtain ⟨x1, rfl, h2⟩ := asD_inv h1; clear h1
  obtain ⟨a2, r2, rfl, h3⟩ := asCons_inv h2; clear h2
  obtain ⟨x2, rfl, h4⟩ := asD_inv h3; clear h3
  obtain ⟨a3, r3, rfl, h5⟩ := asCons_inv h4; clear h4
  obtain ⟨x3, rfl, h6⟩ := asD_inv h5; clear h5
  obtain ⟨rfl, h7⟩ := asNil_inv h6; clear h6
  obtain ⟨rfl, h8⟩ := asNil_inv h7; clear h7
  exact ACall.spec2 (fn := Try.f6) (c := codeOf Try.f6) (S := ofL S6) (L := lofL L6) hS6 (by kernel_rfl) (by kernel_rfl) (inlOK _) (all_eq (by kernel_rfl : subsOf (E.info 6).keep (codeOf Try.f6) = [.join 4000002 (jbody Try.f6 4000002)]) (all_cons (joinOK_of (mk := 7400002) (sl := [0, 1, 2, 7]) (ss := [([0, 1, 2, 7], lsj6r2)]) (by kernel_rfl) (by kernel_rfl) (all_cons j6r2v (all_nil))) (all_nil))) (by kernel_rfl) h8.of

end Go.Proofs.Ytfheeikjlehikaa
