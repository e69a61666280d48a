/- The functions compute that (printed by a program). -/
import Derived.Test.YtfdoaacapkopmaaAD7
import Derived.Test.YtfdoaacapkopmaaAEnvC
import Derived.KernelRfl
namespace Go.Proofs.Ytfdoaacapkopmaa
open Go.Abs
set_option maxRecDepth 100000
set_option maxHeartbeats 4000000
set_option linter.unusedVariables false
abbrev Sl39r5 : List (Nat × Pat × Sp) := []
theorem hSl39r5 : SpecOK E (ofL Sl39r5) := specOK_nil
abbrev Ll39r5 : List (Nat × List Nat × Pat × LSp) := []
def lsl39r5 : LSp := fun vs σ K => asCons vs fun a1 r1 => asP (.ptr 0 0 []) a1 <| asCons r1 fun a2 r2 => asD (.int .i64) a2 fun s1 => asCons r2 fun a3 r3 => asD (.sl (.pair (.int .i64) (.pair (.int .i64) (.pair (.int .i64) (.pair (.sl (.pair .str (.pair (.int .i64) (.pair (.int .i64) .unit)))) .unit))))) a3 fun s2 => asCons r3 fun a4 r4 => asD (.int .i64) a4 fun s3 => asCons r4 fun a5 r5 => asD (.int .i64) a5 fun s4 => asNil r5 <| asCons σ fun a6 r6 => asOne (.pair (.sl (.int .i64)) (.pair (.int .i64) (.pair (.sl (.int .i64)) (.pair (.sl (.pair (.int .i64) (.pair (.int .i64) (.pair (.sl (.int .i64)) (.pair (.int .i64) .unit))))) (.pair (.sl (.pair (.int .i64) (.pair (.int .i64) (.pair (.int .i64) (.pair (.sl (.pair .str (.pair (.int .i64) (.pair (.int .i64) .unit)))) .unit))))) .unit))))) a6 fun a7 => asD (.pair (.sl (.int .i64)) (.pair (.int .i64) (.pair (.sl (.int .i64)) (.pair (.sl (.pair (.int .i64) (.pair (.int .i64) (.pair (.sl (.int .i64)) (.pair (.int .i64) .unit))))) (.pair (.sl (.pair (.int .i64) (.pair (.int .i64) (.pair (.int .i64) (.pair (.sl (.pair .str (.pair (.int .i64) (.pair (.int .i64) .unit)))) .unit))))) .unit))))) a7 fun s5 => asNil r6 <| l39r5 (fun z1 => K .ret [(2, I z1)] []) (K (.exit 0) [(2, .undef)] []) s1 s2 s3 s4 s5
theorem l39r5v : LoopV E (inlF (PA (ACall E)) E 8) (E.info 39).keep 0 Try.f39.ntmps 40000005 (body Try.f39 5) ([1, 3, 11, 12, 13], lsl39r5) := by
  intro vs σ K (h0 : lsl39r5 vs σ K)
  unfold lsl39r5 at h0
  obtain ⟨a1, r1, rfl, h1⟩ := asCons_inv h0
  obtain ⟨rfl, h2⟩ := asP_inv h1
  obtain ⟨a2, r2, rfl, h3⟩ := asCons_inv h2
  obtain ⟨s1, rfl, h4⟩ := asD_inv h3
  obtain ⟨a3, r3, rfl, h5⟩ := asCons_inv h4
  obtain ⟨s2, rfl, h6⟩ := asD_inv h5
  obtain ⟨a4, r4, rfl, h7⟩ := asCons_inv h6
  obtain ⟨s3, rfl, h8⟩ := asD_inv h7
  obtain ⟨a5, r5, rfl, h9⟩ := asCons_inv h8
  obtain ⟨s4, rfl, h10⟩ := asD_inv h9
  obtain ⟨rfl, h11⟩ := asNil_inv h10
  obtain ⟨a6, r6, rfl, h12⟩ := asCons_inv h11
  obtain ⟨a7, rfl, h13⟩ := asOne_inv h12
  obtain ⟨s5, rfl, h14⟩ := asD_inv h13
  obtain ⟨rfl, h15⟩ := asNil_inv h14
  intro J hJ
  have hp : ∀ c' ∈ subsOf (E.info 39).keep (body Try.f39 5), SubOK E (inlF (PA (ACall E)) E 8) (E.info 39).keep 0 Try.f39.ntmps (lofL Ll39r5) c' := all_eq (by kernel_rfl : subsOf (E.info 39).keep (body Try.f39 5) = []) (all_nil)
  exact h15.of (fun s1 s2 s3 s4 s5 => J [(40000005, .undef), (1, .ptr 0 0 []), (3, I s1), (11, .d (.sl (.pair (.int .i64) (.pair (.int .i64) (.pair (.int .i64) (.pair (.sl (.pair .str (.pair (.int .i64) (.pair (.int .i64) .unit)))) .unit))))) s2), (12, I s3), (13, I s4)] [.one (.pair (.sl (.int .i64)) (.pair (.int .i64) (.pair (.sl (.int .i64)) (.pair (.sl (.pair (.int .i64) (.pair (.int .i64) (.pair (.sl (.int .i64)) (.pair (.int .i64) .unit))))) (.pair (.sl (.pair (.int .i64) (.pair (.int .i64) (.pair (.int .i64) (.pair (.sl (.pair .str (.pair (.int .i64) (.pair (.int .i64) .unit)))) .unit))))) .unit))))) (.d (.pair (.sl (.int .i64)) (.pair (.int .i64) (.pair (.sl (.int .i64)) (.pair (.sl (.pair (.int .i64) (.pair (.int .i64) (.pair (.sl (.int .i64)) (.pair (.int .i64) .unit))))) (.pair (.sl (.pair (.int .i64) (.pair (.int .i64) (.pair (.int .i64) (.pair (.sl (.pair .str (.pair (.int .i64) (.pair (.int .i64) .unit)))) .unit))))) .unit))))) s5)]) (fun s1 s2 s3 s4 s5 hb => loop_round2 (S := ofL Sl39r5) (L := lofL Ll39r5) hSl39r5 (inlOK _) hp hJ (by kernel_rfl) hb)

abbrev S39 : List (Nat × Pat × Sp) := []
theorem hS39 : SpecOK E (ofL S39) := specOK_nil
abbrev L39 : List (Nat × List Nat × Pat × LSp) := [(40000005, [1, 3, 11, 12, 13], none, lsl39r5)]
def sp39 : Sp := fun args τ K => asCons args fun a1 r1 => asD (.pair (.sl (.int .i64)) (.pair (.int .i64) (.pair (.sl (.int .i64)) (.pair (.sl (.pair (.int .i64) (.pair (.int .i64) (.pair (.sl (.int .i64)) (.pair (.int .i64) .unit))))) (.pair (.sl (.pair (.int .i64) (.pair (.int .i64) (.pair (.int .i64) (.pair (.sl (.pair .str (.pair (.int .i64) (.pair (.int .i64) .unit)))) .unit))))) .unit))))) a1 fun x1 => asNil r1 <| asNil τ <| c39 x1 (fun z1 => K (I z1) [])
theorem h39 : ∀ args τ K, sp39 args τ K → ACall E 39 args τ K := by
  intro args τ K h0
  unfold sp39 at h0
  obtain ⟨a1, r1, rfl, h1⟩ := asCons_inv h0
  obtain ⟨x1, rfl, h2⟩ := asD_inv h1
  obtain ⟨rfl, h3⟩ := asNil_inv h2
  obtain ⟨rfl, h4⟩ := asNil_inv h3
  exact ACall.spec2 (fn := Try.f39) (c := codeOf Try.f39) (S := ofL S39) (L := lofL L39) hS39 (by kernel_rfl) (by kernel_rfl) (inlOK _) (all_eq (by kernel_rfl : subsOf (E.info 39).keep (codeOf Try.f39) = [.loop (body Try.f39 5)]) (all_cons (loopOK_of (mk := 40000005) (sl := [1, 3, 11, 12, 13]) (ss := [([1, 3, 11, 12, 13], lsl39r5)]) (by kernel_rfl) (by kernel_rfl) (all_cons l39r5v (all_nil))) (all_nil))) (by kernel_rfl) h4.of

abbrev S165 : List (Nat × Pat × Sp) := []
theorem hS165 : SpecOK E (ofL S165) := specOK_nil
abbrev L165 : List (Nat × List Nat × Pat × LSp) := []
def sp165 : Sp := fun args τ K => asCons args fun a1 r1 => asD (.int .i64) a1 fun x1 => asNil r1 <| asNil τ <| c165 x1 (fun z1 => K (B z1) [])
theorem h165 : ∀ args τ K, sp165 args τ K → ACall E 165 args τ K := by
  intro args τ K h0
  unfold sp165 at h0
  obtain ⟨a1, r1, rfl, h1⟩ := asCons_inv h0
  obtain ⟨x1, rfl, h2⟩ := asD_inv h1
  obtain ⟨rfl, h3⟩ := asNil_inv h2
  obtain ⟨rfl, h4⟩ := asNil_inv h3
  exact ACall.spec2 (fn := Try.f165) (c := codeOf Try.f165) (S := ofL S165) (L := lofL L165) hS165 (by kernel_rfl) (by kernel_rfl) (inlOK _) (all_eq (by kernel_rfl : subsOf (E.info 165).keep (codeOf Try.f165) = []) (all_nil)) (by kernel_rfl) h4.of

abbrev S158 : List (Nat × Pat × Sp) := [(165, none, sp165)]
theorem hS158 : SpecOK E (ofL S158) := specOK_cons h165 (specOK_nil)
abbrev L158 : List (Nat × List Nat × Pat × LSp) := []
def sp158 : Sp := fun args τ K => asCons args fun a1 r1 => asD (.int .i64) a1 fun x1 => asCons r1 fun a2 r2 => asD (.int .i64) a2 fun x2 => asNil r2 <| asNil τ <| c158 x1 x2 (fun z1 => K (B z1) [])
theorem h158 : ∀ args τ K, sp158 args τ K → ACall E 158 args τ K := by
  intro args τ K h0
  unfold sp158 at h0
  obtain ⟨a1, r1, rfl, h1⟩ := asCons_inv h0
  obtain ⟨x1, rfl, h2⟩ := asD_inv h1
  obtain ⟨a2, r2, rfl, h3⟩ := asCons_inv h2
  obtain ⟨x2, rfl, h4⟩ := asD_inv h3
  obtain ⟨rfl, h5⟩ := asNil_inv h4
  obtain ⟨rfl, h6⟩ := asNil_inv h5
  exact ACall.spec2 (fn := Try.f158) (c := codeOf Try.f158) (S := ofL S158) (L := lofL L158) hS158 (by kernel_rfl) (by kernel_rfl) (inlOK _) (all_eq (by kernel_rfl : subsOf (E.info 158).keep (codeOf Try.f158) = []) (all_nil)) (by kernel_rfl) h6.of

abbrev Sl135r3 : List (Nat × Pat × Sp) := [(158, none, sp158)]
theorem hSl135r3 : SpecOK E (ofL Sl135r3) := specOK_cons h158 (specOK_nil)
abbrev Ll135r3 : List (Nat × List Nat × Pat × LSp) := []
def lsl135r3 : LSp := fun vs σ K => asCons vs fun a1 r1 => asD (.sl (.int .i64)) a1 fun s1 => asCons r1 fun a2 r2 => asD (.int .i64) a2 fun s2 => asCons r2 fun a3 r3 => asD (.int .i64) a3 fun s3 => asCons r3 fun a4 r4 => asD (.int .i64) a4 fun s4 => asCons r4 fun a5 r5 => asD (.int .i64) a5 fun s5 => asNil r5 <| asNil σ <| l135r3 (fun z1 z2 z3 z4 => K (.exit 0) [(0, .d (.sl (.int .i64)) z1), (1, I z2), (6, I z3), (7, I z4)] []) s1 s2 s3 s4 s5
theorem l135r3v : LoopV E (inlF (PA (ACall E)) E 8) (E.info 135).keep 0 Try.f135.ntmps 136000003 (body Try.f135 3) ([0, 1, 6, 7, 8], lsl135r3) := by
  intro vs σ K (h0 : lsl135r3 vs σ K)
  unfold lsl135r3 at h0
  obtain ⟨a1, r1, rfl, h1⟩ := asCons_inv h0
  obtain ⟨s1, rfl, h2⟩ := asD_inv h1
  obtain ⟨a2, r2, rfl, h3⟩ := asCons_inv h2
  obtain ⟨s2, rfl, h4⟩ := asD_inv h3
  obtain ⟨a3, r3, rfl, h5⟩ := asCons_inv h4
  obtain ⟨s3, rfl, h6⟩ := asD_inv h5
  obtain ⟨a4, r4, rfl, h7⟩ := asCons_inv h6
  obtain ⟨s4, rfl, h8⟩ := asD_inv h7
  obtain ⟨a5, r5, rfl, h9⟩ := asCons_inv h8
  obtain ⟨s5, rfl, h10⟩ := asD_inv h9
  obtain ⟨rfl, h11⟩ := asNil_inv h10
  obtain ⟨rfl, h12⟩ := asNil_inv h11
  intro J hJ
  have hp : ∀ c' ∈ subsOf (E.info 135).keep (body Try.f135 3), SubOK E (inlF (PA (ACall E)) E 8) (E.info 135).keep 0 Try.f135.ntmps (lofL Ll135r3) c' := all_eq (by kernel_rfl : subsOf (E.info 135).keep (body Try.f135 3) = []) (all_nil)
  exact h12.of (fun s1 s2 s3 s4 s5 => J [(136000003, .undef), (0, .d (.sl (.int .i64)) s1), (1, I s2), (6, I s3), (7, I s4), (8, I s5)] []) (fun s1 s2 s3 s4 s5 hb => loop_round2 (S := ofL Sl135r3) (L := lofL Ll135r3) hSl135r3 (inlOK _) hp hJ (by kernel_rfl) hb)

abbrev S159 : List (Nat × Pat × Sp) := []
theorem hS159 : SpecOK E (ofL S159) := specOK_nil
abbrev L159 : List (Nat × List Nat × Pat × LSp) := []
def sp159 : Sp := fun args τ K => asCons args fun a1 r1 => asD (.int .i64) a1 fun x1 => asNil r1 <| asNil τ <| c159 x1 (fun z1 => K (B z1) [])
theorem h159 : ∀ args τ K, sp159 args τ K → ACall E 159 args τ K := by
  intro args τ K h0
  unfold sp159 at h0
  obtain ⟨a1, r1, rfl, h1⟩ := asCons_inv h0
  obtain ⟨x1, rfl, h2⟩ := asD_inv h1
  obtain ⟨rfl, h3⟩ := asNil_inv h2
  obtain ⟨rfl, h4⟩ := asNil_inv h3
  exact ACall.spec2 (fn := Try.f159) (c := codeOf Try.f159) (S := ofL S159) (L := lofL L159) hS159 (by kernel_rfl) (by kernel_rfl) (inlOK _) (all_eq (by kernel_rfl : subsOf (E.info 159).keep (codeOf Try.f159) = []) (all_nil)) (by kernel_rfl) h4.of

abbrev S135 : List (Nat × Pat × Sp) := [(159, none, sp159)]
theorem hS135 : SpecOK E (ofL S135) := specOK_cons h159 (specOK_nil)
abbrev L135 : List (Nat × List Nat × Pat × LSp) := [(136000003, [0, 1, 6, 7, 8], none, lsl135r3)]
def sp135 : Sp := fun args τ K => asCons args fun a1 r1 => asD (.sl (.int .i64)) a1 fun x1 => asCons r1 fun a2 r2 => asD (.int .i64) a2 fun x2 => asNil r2 <| asNil τ <| c135 x1 x2 (fun z1 z2 => K (.tup [I z1, B z2]) [])
theorem h135 : ∀ args τ K, sp135 args τ K → ACall E 135 args τ K := by
  intro args τ K h0
  unfold sp135 at h0
  obtain ⟨a1, r1, rfl, h1⟩ := asCons_inv h0
  obtain ⟨x1, rfl, h2⟩ := asD_inv h1
  obtain ⟨a2, r2, rfl, h3⟩ := asCons_inv h2
  obtain ⟨x2, rfl, h4⟩ := asD_inv h3
  obtain ⟨rfl, h5⟩ := asNil_inv h4
  obtain ⟨rfl, h6⟩ := asNil_inv h5
  exact ACall.spec2 (fn := Try.f135) (c := codeOf Try.f135) (S := ofL S135) (L := lofL L135) hS135 (by kernel_rfl) (by kernel_rfl) (inlOK _) (all_eq (by kernel_rfl : subsOf (E.info 135).keep (codeOf Try.f135) = [.loop (body Try.f135 3)]) (all_cons (loopOK_of (mk := 136000003) (sl := [0, 1, 6, 7, 8]) (ss := [([0, 1, 6, 7, 8], lsl135r3)]) (by kernel_rfl) (by kernel_rfl) (all_cons l135r3v (all_nil))) (all_nil))) (by kernel_rfl) h6.of

abbrev S110 : List (Nat × Pat × Sp) := [(135, none, sp135)]
theorem hS110 : SpecOK E (ofL S110) := specOK_cons h135 (specOK_nil)
abbrev L110 : List (Nat × List Nat × Pat × LSp) := []
def sp110 : Sp := fun args τ K => asCons args fun a1 r1 => asD (.pair (.sl (.int .i64)) (.pair (.int .i64) (.pair (.sl (.int .i64)) (.pair (.sl (.pair (.int .i64) (.pair (.int .i64) (.pair (.sl (.int .i64)) (.pair (.int .i64) .unit))))) (.pair (.sl (.pair (.int .i64) (.pair (.int .i64) (.pair (.int .i64) (.pair (.sl (.pair .str (.pair (.int .i64) (.pair (.int .i64) .unit)))) .unit))))) .unit))))) a1 fun x1 => asCons r1 fun a2 r2 => asD (.int .i64) a2 fun x2 => asNil r2 <| asNil τ <| c110 x1 x2 (fun z1 => K (I z1) [])
theorem h110 : ∀ args τ K, sp110 args τ K → ACall E 110 args τ K := by
  intro args τ K h0
  unfold sp110 at h0
  obtain ⟨a1, r1, rfl, h1⟩ := asCons_inv h0
  obtain ⟨x1, rfl, h2⟩ := asD_inv h1
  obtain ⟨a2, r2, rfl, h3⟩ := asCons_inv h2
  obtain ⟨x2, rfl, h4⟩ := asD_inv h3
  obtain ⟨rfl, h5⟩ := asNil_inv h4
  obtain ⟨rfl, h6⟩ := asNil_inv h5
  exact ACall.spec2 (fn := Try.f110) (c := codeOf Try.f110) (S := ofL S110) (L := lofL L110) hS110 (by kernel_rfl) (by kernel_rfl) (inlOK _) (all_eq (by kernel_rfl : subsOf (E.info 110).keep (codeOf Try.f110) = []) (all_nil)) (by kernel_rfl) h6.of

abbrev S111 : List (Nat × Pat × Sp) := []
theorem hS111 : SpecOK E (ofL S111) := specOK_nil
abbrev L111 : List (Nat × List Nat × Pat × LSp) := []
def sp111 : Sp := fun args τ K => asCons args fun a1 r1 => asD (.sl (.pair .str (.pair (.int .i64) (.pair (.int .i64) .unit)))) a1 fun x1 => asNil r1 <| asNil τ <| c111 x1 (fun z1 => K (.vec 0) [.row (.pair .str (.pair (.int .i64) (.pair (.int .i64) .unit))) z1 false])
theorem h111 : ∀ args τ K, sp111 args τ K → ACall E 111 args τ K := by
  intro args τ K h0
  unfold sp111 at h0
  obtain ⟨a1, r1, rfl, h1⟩ := asCons_inv h0
  obtain ⟨x1, rfl, h2⟩ := asD_inv h1
  obtain ⟨rfl, h3⟩ := asNil_inv h2
  obtain ⟨rfl, h4⟩ := asNil_inv h3
  exact ACall.spec2 (fn := Try.f111) (c := codeOf Try.f111) (S := ofL S111) (L := lofL L111) hS111 (by kernel_rfl) (by kernel_rfl) (inlOK _) (all_eq (by kernel_rfl : subsOf (E.info 111).keep (codeOf Try.f111) = []) (all_nil)) (by kernel_rfl) h4.of

abbrev Sl38r9 : List (Nat × Pat × Sp) := [(111, none, sp111)]
theorem hSl38r9 : SpecOK E (ofL Sl38r9) := specOK_cons h111 (specOK_nil)
abbrev Ll38r9 : List (Nat × List Nat × Pat × LSp) := []
def lsl38r9 : LSp := fun vs σ K => asCons vs fun a1 r1 => asD (.int .i64) a1 fun s1 => asCons r1 fun a2 r2 => asP (.ptr 0 0 []) a2 <| asCons r2 fun a3 r3 => asP (.ptr 1 0 []) a3 <| asCons r3 fun a4 r4 => asD (.int .i64) a4 fun s2 => asCons r4 fun a5 r5 => asP (.ptr 3 0 []) a5 <| asCons r5 fun a6 r6 => asD (.sl (.pair (.int .i64) (.pair (.int .i64) (.pair (.int .i64) (.pair (.sl (.pair .str (.pair (.int .i64) (.pair (.int .i64) .unit)))) .unit))))) a6 fun s3 => asCons r6 fun a7 r7 => asD (.int .i64) a7 fun s4 => asCons r7 fun a8 r8 => asD (.int .i64) a8 fun s5 => asNil r8 <| asCons σ fun a9 r9 => asOne (.pair (.sl (.int .i64)) (.pair (.int .i64) (.pair (.sl (.int .i64)) (.pair (.sl (.pair (.int .i64) (.pair (.int .i64) (.pair (.sl (.int .i64)) (.pair (.int .i64) .unit))))) (.pair (.sl (.pair (.int .i64) (.pair (.int .i64) (.pair (.int .i64) (.pair (.sl (.pair .str (.pair (.int .i64) (.pair (.int .i64) .unit)))) .unit))))) .unit))))) a9 fun a10 => asD (.pair (.sl (.int .i64)) (.pair (.int .i64) (.pair (.sl (.int .i64)) (.pair (.sl (.pair (.int .i64) (.pair (.int .i64) (.pair (.sl (.int .i64)) (.pair (.int .i64) .unit))))) (.pair (.sl (.pair (.int .i64) (.pair (.int .i64) (.pair (.int .i64) (.pair (.sl (.pair .str (.pair (.int .i64) (.pair (.int .i64) .unit)))) .unit))))) .unit))))) a10 fun s6 => asCons r9 fun a11 r11 => asOne (.pair (.int .i64) (.pair (.int .i64) (.pair (.sl (.pair .str (.pair (.int .i64) (.pair (.int .i64) .unit)))) .unit))) a11 fun a12 => asAgL a12 fun l13 => asCons l13 fun a14 r14 => asD (.int .i64) a14 fun s7 => asCons r14 fun a15 r15 => asD (.int .i64) a15 fun s8 => asCons r15 fun a16 r16 => asP (.vec 2) a16 <| asNil r16 <| asCons r11 fun a17 r17 => asRw (.pair .str (.pair (.int .i64) (.pair (.int .i64) .unit))) false a17 fun s9 => asCons r17 fun a18 r18 => asOne (.pair (.int .i64) (.pair (.int .i64) (.pair (.sl (.pair .str (.pair (.int .i64) (.pair (.int .i64) .unit)))) .unit))) a18 fun a19 => asAgL a19 fun l20 => asCons l20 fun a21 r21 => asD (.int .i64) a21 fun s10 => asCons r21 fun a22 r22 => asD (.int .i64) a22 fun s11 => asCons r22 fun a23 r23 => asP (.vec 4) a23 <| asNil r23 <| asCons r18 fun a24 r24 => asRw (.pair .str (.pair (.int .i64) (.pair (.int .i64) .unit))) false a24 fun s12 => asNil r24 <| l38r9 (fun z1 z2 z3 z4 z5 z6 => K (.exit 0) [(4, .ptr 0 0 []), (8, .ptr 2 0 [])] [.one (.pair (.int .i64) (.pair (.int .i64) (.pair (.sl (.pair .str (.pair (.int .i64) (.pair (.int .i64) .unit)))) .unit))) (.agg [I z1, I z2, .vec 1]), .row (.pair .str (.pair (.int .i64) (.pair (.int .i64) .unit))) z3 false, .one (.pair (.int .i64) (.pair (.int .i64) (.pair (.sl (.pair .str (.pair (.int .i64) (.pair (.int .i64) .unit)))) .unit))) (.agg [I z4, I z5, .vec 3]), .row (.pair .str (.pair (.int .i64) (.pair (.int .i64) .unit))) z6 false]) s1 s2 s3 s4 s5 s6 s7 s8 s9 s10 s11 s12
theorem l38r9v : LoopV E (inlF (PA (ACall E)) E 8) (E.info 38).keep 0 Try.f38.ntmps 39000009 (body Try.f38 9) ([1, 2, 4, 7, 8, 26, 27, 28], lsl38r9) := by
  intro vs σ K (h0 : lsl38r9 vs σ K)
  unfold lsl38r9 at h0
  obtain ⟨a1, r1, rfl, h1⟩ := asCons_inv h0
  obtain ⟨s1, rfl, h2⟩ := asD_inv h1
  obtain ⟨a2, r2, rfl, h3⟩ := asCons_inv h2
  obtain ⟨rfl, h4⟩ := asP_inv h3
  obtain ⟨a3, r3, rfl, h5⟩ := asCons_inv h4
  obtain ⟨rfl, h6⟩ := asP_inv h5
  obtain ⟨a4, r4, rfl, h7⟩ := asCons_inv h6
  obtain ⟨s2, rfl, h8⟩ := asD_inv h7
  obtain ⟨a5, r5, rfl, h9⟩ := asCons_inv h8
  obtain ⟨rfl, h10⟩ := asP_inv h9
  obtain ⟨a6, r6, rfl, h11⟩ := asCons_inv h10
  obtain ⟨s3, rfl, h12⟩ := asD_inv h11
  obtain ⟨a7, r7, rfl, h13⟩ := asCons_inv h12
  obtain ⟨s4, rfl, h14⟩ := asD_inv h13
  obtain ⟨a8, r8, rfl, h15⟩ := asCons_inv h14
  obtain ⟨s5, rfl, h16⟩ := asD_inv h15
  obtain ⟨rfl, h17⟩ := asNil_inv h16
  obtain ⟨a9, r9, rfl, h18⟩ := asCons_inv h17
  obtain ⟨a10, rfl, h19⟩ := asOne_inv h18
  obtain ⟨s6, rfl, h20⟩ := asD_inv h19
  obtain ⟨a11, r11, rfl, h21⟩ := asCons_inv h20
  obtain ⟨a12, rfl, h22⟩ := asOne_inv h21
  obtain ⟨l13, rfl, h23⟩ := asAgL_inv h22
  obtain ⟨a14, r14, rfl, h24⟩ := asCons_inv h23
  obtain ⟨s7, rfl, h25⟩ := asD_inv h24
  obtain ⟨a15, r15, rfl, h26⟩ := asCons_inv h25
  obtain ⟨s8, rfl, h27⟩ := asD_inv h26
  obtain ⟨a16, r16, rfl, h28⟩ := asCons_inv h27
  obtain ⟨rfl, h29⟩ := asP_inv h28
  obtain ⟨rfl, h30⟩ := asNil_inv h29
  obtain ⟨a17, r17, rfl, h31⟩ := asCons_inv h30
  obtain ⟨s9, rfl, h32⟩ := asRw_inv h31
  obtain ⟨a18, r18, rfl, h33⟩ := asCons_inv h32
  obtain ⟨a19, rfl, h34⟩ := asOne_inv h33
  obtain ⟨l20, rfl, h35⟩ := asAgL_inv h34
  obtain ⟨a21, r21, rfl, h36⟩ := asCons_inv h35
  obtain ⟨s10, rfl, h37⟩ := asD_inv h36
  obtain ⟨a22, r22, rfl, h38⟩ := asCons_inv h37
  obtain ⟨s11, rfl, h39⟩ := asD_inv h38
  obtain ⟨a23, r23, rfl, h40⟩ := asCons_inv h39
  obtain ⟨rfl, h41⟩ := asP_inv h40
  obtain ⟨rfl, h42⟩ := asNil_inv h41
  obtain ⟨a24, r24, rfl, h43⟩ := asCons_inv h42
  obtain ⟨s12, rfl, h44⟩ := asRw_inv h43
  obtain ⟨rfl, h45⟩ := asNil_inv h44
  intro J hJ
  have hp : ∀ c' ∈ subsOf (E.info 38).keep (body Try.f38 9), SubOK E (inlF (PA (ACall E)) E 8) (E.info 38).keep 0 Try.f38.ntmps (lofL Ll38r9) c' := all_eq (by kernel_rfl : subsOf (E.info 38).keep (body Try.f38 9) = []) (all_nil)
  exact h45.of (fun s1 s2 s3 s4 s5 s6 s7 s8 s9 s10 s11 s12 => J [(39000009, .undef), (1, I s1), (2, .ptr 0 0 []), (4, .ptr 1 0 []), (7, I s2), (8, .ptr 3 0 []), (26, .d (.sl (.pair (.int .i64) (.pair (.int .i64) (.pair (.int .i64) (.pair (.sl (.pair .str (.pair (.int .i64) (.pair (.int .i64) .unit)))) .unit))))) s3), (27, I s4), (28, I s5)] [.one (.pair (.sl (.int .i64)) (.pair (.int .i64) (.pair (.sl (.int .i64)) (.pair (.sl (.pair (.int .i64) (.pair (.int .i64) (.pair (.sl (.int .i64)) (.pair (.int .i64) .unit))))) (.pair (.sl (.pair (.int .i64) (.pair (.int .i64) (.pair (.int .i64) (.pair (.sl (.pair .str (.pair (.int .i64) (.pair (.int .i64) .unit)))) .unit))))) .unit))))) (.d (.pair (.sl (.int .i64)) (.pair (.int .i64) (.pair (.sl (.int .i64)) (.pair (.sl (.pair (.int .i64) (.pair (.int .i64) (.pair (.sl (.int .i64)) (.pair (.int .i64) .unit))))) (.pair (.sl (.pair (.int .i64) (.pair (.int .i64) (.pair (.int .i64) (.pair (.sl (.pair .str (.pair (.int .i64) (.pair (.int .i64) .unit)))) .unit))))) .unit))))) s6), .one (.pair (.int .i64) (.pair (.int .i64) (.pair (.sl (.pair .str (.pair (.int .i64) (.pair (.int .i64) .unit)))) .unit))) (.agg [I s7, I s8, .vec 2]), .row (.pair .str (.pair (.int .i64) (.pair (.int .i64) .unit))) s9 false, .one (.pair (.int .i64) (.pair (.int .i64) (.pair (.sl (.pair .str (.pair (.int .i64) (.pair (.int .i64) .unit)))) .unit))) (.agg [I s10, I s11, .vec 4]), .row (.pair .str (.pair (.int .i64) (.pair (.int .i64) .unit))) s12 false]) (fun s1 s2 s3 s4 s5 s6 s7 s8 s9 s10 s11 s12 hb => loop_round2 (S := ofL Sl38r9) (L := lofL Ll38r9) hSl38r9 (inlOK _) hp hJ (by kernel_rfl) hb)

abbrev S38 : List (Nat × Pat × Sp) := [(39, none, sp39), (110, none, sp110)]
theorem hS38 : SpecOK E (ofL S38) := specOK_cons h39 (specOK_cons h110 (specOK_nil))
abbrev L38 : List (Nat × List Nat × Pat × LSp) := [(39000009, [1, 2, 4, 7, 8, 26, 27, 28], none, lsl38r9)]
def sp38 : Sp := fun args τ K => asCons args fun a1 r1 => asD (.pair (.sl (.int .i64)) (.pair (.int .i64) (.pair (.sl (.int .i64)) (.pair (.sl (.pair (.int .i64) (.pair (.int .i64) (.pair (.sl (.int .i64)) (.pair (.int .i64) .unit))))) (.pair (.sl (.pair (.int .i64) (.pair (.int .i64) (.pair (.int .i64) (.pair (.sl (.pair .str (.pair (.int .i64) (.pair (.int .i64) .unit)))) .unit))))) .unit))))) a1 fun x1 => asCons r1 fun a2 r2 => asD (.int .i64) a2 fun x2 => asNil r2 <| asNil τ <| c38 x1 x2 (fun z1 z2 z3 z4 => K (.tup [.agg [I z1, I z2, .vec 0], I z3]) [.row (.pair .str (.pair (.int .i64) (.pair (.int .i64) .unit))) z4 false])
theorem h38 : ∀ args τ K, sp38 args τ K → ACall E 38 args τ K := by
  intro args τ K h0
  unfold sp38 at h0
  obtain ⟨a1, r1, rfl, h1⟩ := asCons_inv h0
  obtain ⟨x1, rfl, h2⟩ := asD_inv h1
  obtain ⟨a2, r2, rfl, h3⟩ := asCons_inv h2
  obtain ⟨x2, rfl, h4⟩ := asD_inv h3
  obtain ⟨rfl, h5⟩ := asNil_inv h4
  obtain ⟨rfl, h6⟩ := asNil_inv h5
  exact ACall.spec2 (fn := Try.f38) (c := codeOf Try.f38) (S := ofL S38) (L := lofL L38) hS38 (by kernel_rfl) (by kernel_rfl) (inlOK _) (all_eq (by kernel_rfl : subsOf (E.info 38).keep (codeOf Try.f38) = [.loop (body Try.f38 9)]) (all_cons (loopOK_of (mk := 39000009) (sl := [1, 2, 4, 7, 8, 26, 27, 28]) (ss := [([1, 2, 4, 7, 8, 26, 27, 28], lsl38r9)]) (by kernel_rfl) (by kernel_rfl) (all_cons l38r9v (all_nil))) (all_nil))) (by kernel_rfl) h6.of

abbrev Sl7r8 : List (Nat × Pat × Sp) := []
theorem hSl7r8 : SpecOK E (ofL Sl7r8) := specOK_nil
abbrev Ll7r8 : List (Nat × List Nat × Pat × LSp) := []
def lsl7r8 : LSp := fun vs σ K => asCons vs fun a1 r1 => asD (.int .i64) a1 fun s1 => asCons r1 fun a2 r2 => asD (.int .i64) a2 fun s2 => asCons r2 fun a3 r3 => asP (.ptr 0 0 []) a3 <| asCons r3 fun a4 r4 => asP (.ptr 4 0 []) a4 <| asCons r4 fun a5 r5 => asD (.int .i64) a5 fun s3 => asCons r5 fun a6 r6 => asD (.sl (.pair (.int .i64) (.pair (.int .i64) (.pair (.int .i64) (.pair (.sl (.pair .str (.pair (.int .i64) (.pair (.int .i64) .unit)))) .unit))))) a6 fun s4 => asCons r6 fun a7 r7 => asD (.int .i64) a7 fun s5 => asCons r7 fun a8 r8 => asD (.int .i64) a8 fun s6 => asNil r8 <| asCons σ fun a9 r9 => asOne (.pair (.sl (.int .i64)) (.pair (.int .i64) (.pair (.sl (.int .i64)) (.pair (.sl (.pair (.int .i64) (.pair (.int .i64) (.pair (.sl (.int .i64)) (.pair (.int .i64) .unit))))) (.pair (.sl (.pair (.int .i64) (.pair (.int .i64) (.pair (.int .i64) (.pair (.sl (.pair .str (.pair (.int .i64) (.pair (.int .i64) .unit)))) .unit))))) .unit))))) a9 fun a10 => asAgL a10 fun l11 => asCons l11 fun a12 r12 => asP (.vec 1) a12 <| asCons r12 fun a13 r13 => asD (.int .i64) a13 fun s7 => asCons r13 fun a14 r14 => asP (.vec 2) a14 <| asCons r14 fun a15 r15 => asP (.vec 3) a15 <| asCons r15 fun a16 r16 => asD (.sl (.pair (.int .i64) (.pair (.int .i64) (.pair (.int .i64) (.pair (.sl (.pair .str (.pair (.int .i64) (.pair (.int .i64) .unit)))) .unit))))) a16 fun s8 => asNil r16 <| asCons r9 fun a17 r17 => asRw (.int .i64) false a17 fun s9 => asCons r17 fun a18 r18 => asRw (.int .i64) false a18 fun s10 => asCons r18 fun a19 r19 => asRw (.pair (.int .i64) (.pair (.int .i64) (.pair (.sl (.int .i64)) (.pair (.int .i64) .unit)))) false a19 fun s11 => asCons r19 fun a20 r20 => asOne (.pair (.int .i64) (.pair (.int .i64) (.pair (.sl (.pair .str (.pair (.int .i64) (.pair (.int .i64) .unit)))) .unit))) a20 fun a21 => asAgL a21 fun l22 => asCons l22 fun a23 r23 => asD (.int .i64) a23 fun s12 => asCons r23 fun a24 r24 => asD (.int .i64) a24 fun s13 => asCons r24 fun a25 r25 => asP (.vec 5) a25 <| asNil r25 <| asCons r20 fun a26 r26 => asRw (.pair .str (.pair (.int .i64) (.pair (.int .i64) .unit))) false a26 fun s14 => asNil r26 <| l7r8 (fun z1 z2 z3 z4 z5 z6 z7 z8 z9 z10 z11 => K (.exit 0) [(1, I z1), (2, I z2), (7, .ptr 0 0 []), (8, .ptr 4 0 []), (10, I z3)] [.one (.pair (.sl (.int .i64)) (.pair (.int .i64) (.pair (.sl (.int .i64)) (.pair (.sl (.pair (.int .i64) (.pair (.int .i64) (.pair (.sl (.int .i64)) (.pair (.int .i64) .unit))))) (.pair (.sl (.pair (.int .i64) (.pair (.int .i64) (.pair (.int .i64) (.pair (.sl (.pair .str (.pair (.int .i64) (.pair (.int .i64) .unit)))) .unit))))) .unit))))) (.agg [.vec 1, I z4, .vec 2, .vec 3, .d (.sl (.pair (.int .i64) (.pair (.int .i64) (.pair (.int .i64) (.pair (.sl (.pair .str (.pair (.int .i64) (.pair (.int .i64) .unit)))) .unit))))) z5]), .row (.int .i64) z6 false, .row (.int .i64) z7 false, .row (.pair (.int .i64) (.pair (.int .i64) (.pair (.sl (.int .i64)) (.pair (.int .i64) .unit)))) z8 false, .one (.pair (.int .i64) (.pair (.int .i64) (.pair (.sl (.pair .str (.pair (.int .i64) (.pair (.int .i64) .unit)))) .unit))) (.agg [I z9, I z10, .vec 5]), .row (.pair .str (.pair (.int .i64) (.pair (.int .i64) .unit))) z11 false]) s1 s2 s3 s4 s5 s6 s7 s8 s9 s10 s11 s12 s13 s14
theorem l7r8v : LoopV E (inlF (PA (ACall E)) E 8) (E.info 7).keep 0 Try.f7.ntmps 8000008 (body Try.f7 8) ([1, 2, 7, 8, 10, 54, 55, 56], lsl7r8) := by
  intro vs σ K (h0 : lsl7r8 vs σ K)
  unfold lsl7r8 at h0
  obtain ⟨a1, r1, rfl, h1⟩ := asCons_inv h0
  obtain ⟨s1, rfl, h2⟩ := asD_inv h1
  obtain ⟨a2, r2, rfl, h3⟩ := asCons_inv h2
  obtain ⟨s2, rfl, h4⟩ := asD_inv h3
  obtain ⟨a3, r3, rfl, h5⟩ := asCons_inv h4
  obtain ⟨rfl, h6⟩ := asP_inv h5
  obtain ⟨a4, r4, rfl, h7⟩ := asCons_inv h6
  obtain ⟨rfl, h8⟩ := asP_inv h7
  obtain ⟨a5, r5, rfl, h9⟩ := asCons_inv h8
  obtain ⟨s3, rfl, h10⟩ := asD_inv h9
  obtain ⟨a6, r6, rfl, h11⟩ := asCons_inv h10
  obtain ⟨s4, rfl, h12⟩ := asD_inv h11
  obtain ⟨a7, r7, rfl, h13⟩ := asCons_inv h12
  obtain ⟨s5, rfl, h14⟩ := asD_inv h13
  obtain ⟨a8, r8, rfl, h15⟩ := asCons_inv h14
  obtain ⟨s6, rfl, h16⟩ := asD_inv h15
  obtain ⟨rfl, h17⟩ := asNil_inv h16
  obtain ⟨a9, r9, rfl, h18⟩ := asCons_inv h17
  obtain ⟨a10, rfl, h19⟩ := asOne_inv h18
  obtain ⟨l11, rfl, h20⟩ := asAgL_inv h19
  obtain ⟨a12, r12, rfl, h21⟩ := asCons_inv h20
  obtain ⟨rfl, h22⟩ := asP_inv h21
  obtain ⟨a13, r13, rfl, h23⟩ := asCons_inv h22
  obtain ⟨s7, rfl, h24⟩ := asD_inv h23
  obtain ⟨a14, r14, rfl, h25⟩ := asCons_inv h24
  obtain ⟨rfl, h26⟩ := asP_inv h25
  obtain ⟨a15, r15, rfl, h27⟩ := asCons_inv h26
  obtain ⟨rfl, h28⟩ := asP_inv h27
  obtain ⟨a16, r16, rfl, h29⟩ := asCons_inv h28
  obtain ⟨s8, rfl, h30⟩ := asD_inv h29
  obtain ⟨rfl, h31⟩ := asNil_inv h30
  obtain ⟨a17, r17, rfl, h32⟩ := asCons_inv h31
  obtain ⟨s9, rfl, h33⟩ := asRw_inv h32
  obtain ⟨a18, r18, rfl, h34⟩ := asCons_inv h33
  obtain ⟨s10, rfl, h35⟩ := asRw_inv h34
  obtain ⟨a19, r19, rfl, h36⟩ := asCons_inv h35
  obtain ⟨s11, rfl, h37⟩ := asRw_inv h36
  obtain ⟨a20, r20, rfl, h38⟩ := asCons_inv h37
  obtain ⟨a21, rfl, h39⟩ := asOne_inv h38
  obtain ⟨l22, rfl, h40⟩ := asAgL_inv h39
  obtain ⟨a23, r23, rfl, h41⟩ := asCons_inv h40
  obtain ⟨s12, rfl, h42⟩ := asD_inv h41
  obtain ⟨a24, r24, rfl, h43⟩ := asCons_inv h42
  obtain ⟨s13, rfl, h44⟩ := asD_inv h43
  obtain ⟨a25, r25, rfl, h45⟩ := asCons_inv h44
  obtain ⟨rfl, h46⟩ := asP_inv h45
  obtain ⟨rfl, h47⟩ := asNil_inv h46
  obtain ⟨a26, r26, rfl, h48⟩ := asCons_inv h47
  obtain ⟨s14, rfl, h49⟩ := asRw_inv h48
  obtain ⟨rfl, h50⟩ := asNil_inv h49
  intro J hJ
  have hp : ∀ c' ∈ subsOf (E.info 7).keep (body Try.f7 8), SubOK E (inlF (PA (ACall E)) E 8) (E.info 7).keep 0 Try.f7.ntmps (lofL Ll7r8) c' := all_eq (by kernel_rfl : subsOf (E.info 7).keep (body Try.f7 8) = []) (all_nil)
  exact h50.of (fun s1 s2 s3 s4 s5 s6 s7 s8 s9 s10 s11 s12 s13 s14 => J [(8000008, .undef), (1, I s1), (2, I s2), (7, .ptr 0 0 []), (8, .ptr 4 0 []), (10, I s3), (54, .d (.sl (.pair (.int .i64) (.pair (.int .i64) (.pair (.int .i64) (.pair (.sl (.pair .str (.pair (.int .i64) (.pair (.int .i64) .unit)))) .unit))))) s4), (55, I s5), (56, I s6)] [.one (.pair (.sl (.int .i64)) (.pair (.int .i64) (.pair (.sl (.int .i64)) (.pair (.sl (.pair (.int .i64) (.pair (.int .i64) (.pair (.sl (.int .i64)) (.pair (.int .i64) .unit))))) (.pair (.sl (.pair (.int .i64) (.pair (.int .i64) (.pair (.int .i64) (.pair (.sl (.pair .str (.pair (.int .i64) (.pair (.int .i64) .unit)))) .unit))))) .unit))))) (.agg [.vec 1, I s7, .vec 2, .vec 3, .d (.sl (.pair (.int .i64) (.pair (.int .i64) (.pair (.int .i64) (.pair (.sl (.pair .str (.pair (.int .i64) (.pair (.int .i64) .unit)))) .unit))))) s8]), .row (.int .i64) s9 false, .row (.int .i64) s10 false, .row (.pair (.int .i64) (.pair (.int .i64) (.pair (.sl (.int .i64)) (.pair (.int .i64) .unit)))) s11 false, .one (.pair (.int .i64) (.pair (.int .i64) (.pair (.sl (.pair .str (.pair (.int .i64) (.pair (.int .i64) .unit)))) .unit))) (.agg [I s12, I s13, .vec 5]), .row (.pair .str (.pair (.int .i64) (.pair (.int .i64) .unit))) s14 false]) (fun s1 s2 s3 s4 s5 s6 s7 s8 s9 s10 s11 s12 s13 s14 hb => loop_round2 (S := ofL Sl7r8) (L := lofL Ll7r8) hSl7r8 (inlOK _) hp hJ (by kernel_rfl) hb)

abbrev S106 : List (Nat × Pat × Sp) := []
theorem hS106 : SpecOK E (ofL S106) := specOK_nil
abbrev L106 : List (Nat × List Nat × Pat × LSp) := []
def sp106 : Sp := fun args τ K => asCons args fun a1 r1 => asD (.int .i64) a1 fun x1 => asCons r1 fun a2 r2 => asD (.int .i64) a2 fun x2 => asNil r2 <| asNil τ <| c106 x1 x2 (fun z1 => K (I z1) [])
theorem h106 : ∀ args τ K, sp106 args τ K → ACall E 106 args τ K := by
  intro args τ K h0
  unfold sp106 at h0
  obtain ⟨a1, r1, rfl, h1⟩ := asCons_inv h0
  obtain ⟨x1, rfl, h2⟩ := asD_inv h1
  obtain ⟨a2, r2, rfl, h3⟩ := asCons_inv h2
  obtain ⟨x2, rfl, h4⟩ := asD_inv h3
  obtain ⟨rfl, h5⟩ := asNil_inv h4
  obtain ⟨rfl, h6⟩ := asNil_inv h5
  exact ACall.spec2 (fn := Try.f106) (c := codeOf Try.f106) (S := ofL S106) (L := lofL L106) hS106 (by kernel_rfl) (by kernel_rfl) (inlOK _) (all_eq (by kernel_rfl : subsOf (E.info 106).keep (codeOf Try.f106) = []) (all_nil)) (by kernel_rfl) h6.of

abbrev S40 : List (Nat × Pat × Sp) := [(106, none, sp106)]
theorem hS40 : SpecOK E (ofL S40) := specOK_cons h106 (specOK_nil)
abbrev L40 : List (Nat × List Nat × Pat × LSp) := []
def sp40 : Sp := fun args τ K => asCons args fun a1 r1 => asD (.int .i64) a1 fun x1 => asCons r1 fun a2 r2 => asD (.int .i64) a2 fun x2 => asNil r2 <| asNil τ <| c40 x1 x2 (fun z1 => K (I z1) [])
theorem h40 : ∀ args τ K, sp40 args τ K → ACall E 40 args τ K := by
  intro args τ K h0
  unfold sp40 at h0
  obtain ⟨a1, r1, rfl, h1⟩ := asCons_inv h0
  obtain ⟨x1, rfl, h2⟩ := asD_inv h1
  obtain ⟨a2, r2, rfl, h3⟩ := asCons_inv h2
  obtain ⟨x2, rfl, h4⟩ := asD_inv h3
  obtain ⟨rfl, h5⟩ := asNil_inv h4
  obtain ⟨rfl, h6⟩ := asNil_inv h5
  exact ACall.spec2 (fn := Try.f40) (c := codeOf Try.f40) (S := ofL S40) (L := lofL L40) hS40 (by kernel_rfl) (by kernel_rfl) (inlOK _) (all_eq (by kernel_rfl : subsOf (E.info 40).keep (codeOf Try.f40) = []) (all_nil)) (by kernel_rfl) h6.of

abbrev Sl7r21 : List (Nat × Pat × Sp) := []
theorem hSl7r21 : SpecOK E (ofL Sl7r21) := specOK_nil
abbrev Ll7r21 : List (Nat × List Nat × Pat × LSp) := []
def lsl7r21 : LSp := fun vs σ K => asCons vs fun a1 r1 => asD (.int .i64) a1 fun s1 => asCons r1 fun a2 r2 => asD (.int .i64) a2 fun s2 => asCons r2 fun a3 r3 => asP (.ptr 0 0 []) a3 <| asCons r3 fun a4 r4 => asP (.ptr 4 0 []) a4 <| asCons r4 fun a5 r5 => asD (.int .i64) a5 fun s3 => asCons r5 fun a6 r6 => asD (.int .i64) a6 fun s4 => asCons r6 fun a7 r7 => asP (.vec 2) a7 <| asCons r7 fun a8 r8 => asD (.int .i64) a8 fun s5 => asCons r8 fun a9 r9 => asD (.int .i64) a9 fun s6 => asNil r9 <| asCons σ fun a10 r10 => asOne (.pair (.sl (.int .i64)) (.pair (.int .i64) (.pair (.sl (.int .i64)) (.pair (.sl (.pair (.int .i64) (.pair (.int .i64) (.pair (.sl (.int .i64)) (.pair (.int .i64) .unit))))) (.pair (.sl (.pair (.int .i64) (.pair (.int .i64) (.pair (.int .i64) (.pair (.sl (.pair .str (.pair (.int .i64) (.pair (.int .i64) .unit)))) .unit))))) .unit))))) a10 fun a11 => asAgL a11 fun l12 => asCons l12 fun a13 r13 => asP (.vec 1) a13 <| asCons r13 fun a14 r14 => asD (.int .i64) a14 fun s7 => asCons r14 fun a15 r15 => asP (.vec 2) a15 <| asCons r15 fun a16 r16 => asP (.vec 3) a16 <| asCons r16 fun a17 r17 => asD (.sl (.pair (.int .i64) (.pair (.int .i64) (.pair (.int .i64) (.pair (.sl (.pair .str (.pair (.int .i64) (.pair (.int .i64) .unit)))) .unit))))) a17 fun s8 => asNil r17 <| asCons r10 fun a18 r18 => asRw (.int .i64) false a18 fun s9 => asCons r18 fun a19 r19 => asRw (.int .i64) false a19 fun s10 => asCons r19 fun a20 r20 => asRw (.pair (.int .i64) (.pair (.int .i64) (.pair (.sl (.int .i64)) (.pair (.int .i64) .unit)))) false a20 fun s11 => asCons r20 fun a21 r21 => asOne (.pair (.int .i64) (.pair (.int .i64) (.pair (.sl (.pair .str (.pair (.int .i64) (.pair (.int .i64) .unit)))) .unit))) a21 fun a22 => asAgL a22 fun l23 => asCons l23 fun a24 r24 => asD (.int .i64) a24 fun s12 => asCons r24 fun a25 r25 => asD (.int .i64) a25 fun s13 => asCons r25 fun a26 r26 => asP (.vec 5) a26 <| asNil r26 <| asCons r21 fun a27 r27 => asRw (.pair .str (.pair (.int .i64) (.pair (.int .i64) .unit))) false a27 fun s14 => asNil r27 <| l7r21 (fun z1 z2 z3 z4 z5 z6 z7 z8 z9 z10 z11 z12 => K (.exit 3) [(1, I z1), (2, I z2), (7, .ptr 0 0 []), (8, .ptr 4 0 []), (10, I z3), (13, I z4)] [.one (.pair (.sl (.int .i64)) (.pair (.int .i64) (.pair (.sl (.int .i64)) (.pair (.sl (.pair (.int .i64) (.pair (.int .i64) (.pair (.sl (.int .i64)) (.pair (.int .i64) .unit))))) (.pair (.sl (.pair (.int .i64) (.pair (.int .i64) (.pair (.int .i64) (.pair (.sl (.pair .str (.pair (.int .i64) (.pair (.int .i64) .unit)))) .unit))))) .unit))))) (.agg [.vec 1, I z5, .vec 2, .vec 3, .d (.sl (.pair (.int .i64) (.pair (.int .i64) (.pair (.int .i64) (.pair (.sl (.pair .str (.pair (.int .i64) (.pair (.int .i64) .unit)))) .unit))))) z6]), .row (.int .i64) z7 false, .row (.int .i64) z8 false, .row (.pair (.int .i64) (.pair (.int .i64) (.pair (.sl (.int .i64)) (.pair (.int .i64) .unit)))) z9 false, .one (.pair (.int .i64) (.pair (.int .i64) (.pair (.sl (.pair .str (.pair (.int .i64) (.pair (.int .i64) .unit)))) .unit))) (.agg [I z10, I z11, .vec 5]), .row (.pair .str (.pair (.int .i64) (.pair (.int .i64) .unit))) z12 false]) s1 s2 s3 s4 s5 s6 s7 s8 s9 s10 s11 s12 s13 s14
theorem l7r21v : LoopV E (inlF (PA (ACall E)) E 8) (E.info 7).keep 0 Try.f7.ntmps 8000021 (body Try.f7 21) ([1, 2, 7, 8, 10, 13, 112, 113, 114], lsl7r21) := by
  intro vs σ K (h0 : lsl7r21 vs σ K)
  unfold lsl7r21 at h0
  obtain ⟨a1, r1, rfl, h1⟩ := asCons_inv h0
  obtain ⟨s1, rfl, h2⟩ := asD_inv h1
  obtain ⟨a2, r2, rfl, h3⟩ := asCons_inv h2
  obtain ⟨s2, rfl, h4⟩ := asD_inv h3
  obtain ⟨a3, r3, rfl, h5⟩ := asCons_inv h4
  obtain ⟨rfl, h6⟩ := asP_inv h5
  obtain ⟨a4, r4, rfl, h7⟩ := asCons_inv h6
  obtain ⟨rfl, h8⟩ := asP_inv h7
  obtain ⟨a5, r5, rfl, h9⟩ := asCons_inv h8
  obtain ⟨s3, rfl, h10⟩ := asD_inv h9
  obtain ⟨a6, r6, rfl, h11⟩ := asCons_inv h10
  obtain ⟨s4, rfl, h12⟩ := asD_inv h11
  obtain ⟨a7, r7, rfl, h13⟩ := asCons_inv h12
  obtain ⟨rfl, h14⟩ := asP_inv h13
  obtain ⟨a8, r8, rfl, h15⟩ := asCons_inv h14
  obtain ⟨s5, rfl, h16⟩ := asD_inv h15
  obtain ⟨a9, r9, rfl, h17⟩ := asCons_inv h16
  obtain ⟨s6, rfl, h18⟩ := asD_inv h17
  obtain ⟨rfl, h19⟩ := asNil_inv h18
  obtain ⟨a10, r10, rfl, h20⟩ := asCons_inv h19
  obtain ⟨a11, rfl, h21⟩ := asOne_inv h20
  obtain ⟨l12, rfl, h22⟩ := asAgL_inv h21
  obtain ⟨a13, r13, rfl, h23⟩ := asCons_inv h22
  obtain ⟨rfl, h24⟩ := asP_inv h23
  obtain ⟨a14, r14, rfl, h25⟩ := asCons_inv h24
  obtain ⟨s7, rfl, h26⟩ := asD_inv h25
  obtain ⟨a15, r15, rfl, h27⟩ := asCons_inv h26
  obtain ⟨rfl, h28⟩ := asP_inv h27
  obtain ⟨a16, r16, rfl, h29⟩ := asCons_inv h28
  obtain ⟨rfl, h30⟩ := asP_inv h29
  obtain ⟨a17, r17, rfl, h31⟩ := asCons_inv h30
  obtain ⟨s8, rfl, h32⟩ := asD_inv h31
  obtain ⟨rfl, h33⟩ := asNil_inv h32
  obtain ⟨a18, r18, rfl, h34⟩ := asCons_inv h33
  obtain ⟨s9, rfl, h35⟩ := asRw_inv h34
  obtain ⟨a19, r19, rfl, h36⟩ := asCons_inv h35
  obtain ⟨s10, rfl, h37⟩ := asRw_inv h36
  obtain ⟨a20, r20, rfl, h38⟩ := asCons_inv h37
  obtain ⟨s11, rfl, h39⟩ := asRw_inv h38
  obtain ⟨a21, r21, rfl, h40⟩ := asCons_inv h39
  obtain ⟨a22, rfl, h41⟩ := asOne_inv h40
  obtain ⟨l23, rfl, h42⟩ := asAgL_inv h41
  obtain ⟨a24, r24, rfl, h43⟩ := asCons_inv h42
  obtain ⟨s12, rfl, h44⟩ := asD_inv h43
  obtain ⟨a25, r25, rfl, h45⟩ := asCons_inv h44
  obtain ⟨s13, rfl, h46⟩ := asD_inv h45
  obtain ⟨a26, r26, rfl, h47⟩ := asCons_inv h46
  obtain ⟨rfl, h48⟩ := asP_inv h47
  obtain ⟨rfl, h49⟩ := asNil_inv h48
  obtain ⟨a27, r27, rfl, h50⟩ := asCons_inv h49
  obtain ⟨s14, rfl, h51⟩ := asRw_inv h50
  obtain ⟨rfl, h52⟩ := asNil_inv h51
  intro J hJ
  have hp : ∀ c' ∈ subsOf (E.info 7).keep (body Try.f7 21), SubOK E (inlF (PA (ACall E)) E 8) (E.info 7).keep 0 Try.f7.ntmps (lofL Ll7r21) c' := all_eq (by kernel_rfl : subsOf (E.info 7).keep (body Try.f7 21) = []) (all_nil)
  exact h52.of (fun s1 s2 s3 s4 s5 s6 s7 s8 s9 s10 s11 s12 s13 s14 => J [(8000021, .undef), (1, I s1), (2, I s2), (7, .ptr 0 0 []), (8, .ptr 4 0 []), (10, I s3), (13, I s4), (112, .vec 2), (113, I s5), (114, I s6)] [.one (.pair (.sl (.int .i64)) (.pair (.int .i64) (.pair (.sl (.int .i64)) (.pair (.sl (.pair (.int .i64) (.pair (.int .i64) (.pair (.sl (.int .i64)) (.pair (.int .i64) .unit))))) (.pair (.sl (.pair (.int .i64) (.pair (.int .i64) (.pair (.int .i64) (.pair (.sl (.pair .str (.pair (.int .i64) (.pair (.int .i64) .unit)))) .unit))))) .unit))))) (.agg [.vec 1, I s7, .vec 2, .vec 3, .d (.sl (.pair (.int .i64) (.pair (.int .i64) (.pair (.int .i64) (.pair (.sl (.pair .str (.pair (.int .i64) (.pair (.int .i64) .unit)))) .unit))))) s8]), .row (.int .i64) s9 false, .row (.int .i64) s10 false, .row (.pair (.int .i64) (.pair (.int .i64) (.pair (.sl (.int .i64)) (.pair (.int .i64) .unit)))) s11 false, .one (.pair (.int .i64) (.pair (.int .i64) (.pair (.sl (.pair .str (.pair (.int .i64) (.pair (.int .i64) .unit)))) .unit))) (.agg [I s12, I s13, .vec 5]), .row (.pair .str (.pair (.int .i64) (.pair (.int .i64) .unit))) s14 false]) (fun s1 s2 s3 s4 s5 s6 s7 s8 s9 s10 s11 s12 s13 s14 hb => loop_round2 (S := ofL Sl7r21) (L := lofL Ll7r21) hSl7r21 (inlOK _) hp hJ (by kernel_rfl) hb)

abbrev Sl41r9 : List (Nat × Pat × Sp) := []
theorem hSl41r9 : SpecOK E (ofL Sl41r9) := specOK_nil
abbrev Ll41r9 : List (Nat × List Nat × Pat × LSp) := []
def lsl41r9 : LSp := fun vs σ K => asCons vs fun a1 r1 => asD (.int .i64) a1 fun s1 => asCons r1 fun a2 r2 => asD (.int .i64) a2 fun s2 => asCons r2 fun a3 r3 => asP (.vec 0) a3 <| asCons r3 fun a4 r4 => asD (.int .i64) a4 fun s3 => asCons r4 fun a5 r5 => asD (.sl (.pair (.int .i64) (.pair (.int .i64) (.pair (.int .i64) (.pair (.sl (.pair .str (.pair (.int .i64) (.pair (.int .i64) .unit)))) .unit))))) a5 fun s4 => asCons r5 fun a6 r6 => asD (.int .i64) a6 fun s5 => asCons r6 fun a7 r7 => asD (.int .i64) a7 fun s6 => asNil r7 <| asCons σ fun a8 r8 => asRw (.int .i64) false a8 fun s7 => asNil r8 <| l41r9 (fun z1 => K (.exit 0) [(9, .vec 0)] [.row (.int .i64) z1 false]) s1 s2 s3 s4 s5 s6 s7
theorem l41r9v : LoopV E (inlF (PA (ACall E)) E 8) (E.info 41).keep 0 Try.f41.ntmps 42000009 (body Try.f41 9) ([1, 2, 9, 10, 28, 29, 30], lsl41r9) := by
  intro vs σ K (h0 : lsl41r9 vs σ K)
  unfold lsl41r9 at h0
  obtain ⟨a1, r1, rfl, h1⟩ := asCons_inv h0
  obtain ⟨s1, rfl, h2⟩ := asD_inv h1
  obtain ⟨a2, r2, rfl, h3⟩ := asCons_inv h2
  obtain ⟨s2, rfl, h4⟩ := asD_inv h3
  obtain ⟨a3, r3, rfl, h5⟩ := asCons_inv h4
  obtain ⟨rfl, h6⟩ := asP_inv h5
  obtain ⟨a4, r4, rfl, h7⟩ := asCons_inv h6
  obtain ⟨s3, rfl, h8⟩ := asD_inv h7
  obtain ⟨a5, r5, rfl, h9⟩ := asCons_inv h8
  obtain ⟨s4, rfl, h10⟩ := asD_inv h9
  obtain ⟨a6, r6, rfl, h11⟩ := asCons_inv h10
  obtain ⟨s5, rfl, h12⟩ := asD_inv h11
  obtain ⟨a7, r7, rfl, h13⟩ := asCons_inv h12
  obtain ⟨s6, rfl, h14⟩ := asD_inv h13
  obtain ⟨rfl, h15⟩ := asNil_inv h14
  obtain ⟨a8, r8, rfl, h16⟩ := asCons_inv h15
  obtain ⟨s7, rfl, h17⟩ := asRw_inv h16
  obtain ⟨rfl, h18⟩ := asNil_inv h17
  intro J hJ
  have hp : ∀ c' ∈ subsOf (E.info 41).keep (body Try.f41 9), SubOK E (inlF (PA (ACall E)) E 8) (E.info 41).keep 0 Try.f41.ntmps (lofL Ll41r9) c' := all_eq (by kernel_rfl : subsOf (E.info 41).keep (body Try.f41 9) = []) (all_nil)
  exact h18.of (fun s1 s2 s3 s4 s5 s6 s7 => J [(42000009, .undef), (1, I s1), (2, I s2), (9, .vec 0), (10, I s3), (28, .d (.sl (.pair (.int .i64) (.pair (.int .i64) (.pair (.int .i64) (.pair (.sl (.pair .str (.pair (.int .i64) (.pair (.int .i64) .unit)))) .unit))))) s4), (29, I s5), (30, I s6)] [.row (.int .i64) s7 false]) (fun s1 s2 s3 s4 s5 s6 s7 hb => loop_round2 (S := ofL Sl41r9) (L := lofL Ll41r9) hSl41r9 (inlOK _) hp hJ (by kernel_rfl) hb)

abbrev S41 : List (Nat × Pat × Sp) := [(39, none, sp39)]
theorem hS41 : SpecOK E (ofL S41) := specOK_cons h39 (specOK_nil)
abbrev L41 : List (Nat × List Nat × Pat × LSp) := [(42000009, [1, 2, 9, 10, 28, 29, 30], none, lsl41r9)]
def sp41 : Sp := fun args τ K => asCons args fun a1 r1 => asD (.pair (.sl (.int .i64)) (.pair (.int .i64) (.pair (.sl (.int .i64)) (.pair (.sl (.pair (.int .i64) (.pair (.int .i64) (.pair (.sl (.int .i64)) (.pair (.int .i64) .unit))))) (.pair (.sl (.pair (.int .i64) (.pair (.int .i64) (.pair (.int .i64) (.pair (.sl (.pair .str (.pair (.int .i64) (.pair (.int .i64) .unit)))) .unit))))) .unit))))) a1 fun x1 => asCons r1 fun a2 r2 => asD (.int .i64) a2 fun x2 => asCons r2 fun a3 r3 => asD (.int .i64) a3 fun x3 => asNil r3 <| asNil τ <| c41 x1 x2 x3 (fun z1 z2 => K (.tup [.vec 0, I z1]) [.row (.int .i64) z2 false])
theorem h41 : ∀ args τ K, sp41 args τ K → ACall E 41 args τ K := by
  intro args τ K h0
  unfold sp41 at h0
  obtain ⟨a1, r1, rfl, h1⟩ := asCons_inv h0
  obtain ⟨x1, rfl, h2⟩ := asD_inv h1
  obtain ⟨a2, r2, rfl, h3⟩ := asCons_inv h2
  obtain ⟨x2, rfl, h4⟩ := asD_inv h3
  obtain ⟨a3, r3, rfl, h5⟩ := asCons_inv h4
  obtain ⟨x3, rfl, h6⟩ := asD_inv h5
  obtain ⟨rfl, h7⟩ := asNil_inv h6
  obtain ⟨rfl, h8⟩ := asNil_inv h7
  exact ACall.spec2 (fn := Try.f41) (c := codeOf Try.f41) (S := ofL S41) (L := lofL L41) hS41 (by kernel_rfl) (by kernel_rfl) (inlOK _) (all_eq (by kernel_rfl : subsOf (E.info 41).keep (codeOf Try.f41) = [.loop (body Try.f41 9)]) (all_cons (loopOK_of (mk := 42000009) (sl := [1, 2, 9, 10, 28, 29, 30]) (ss := [([1, 2, 9, 10, 28, 29, 30], lsl41r9)]) (by kernel_rfl) (by kernel_rfl) (all_cons l41r9v (all_nil))) (all_nil))) (by kernel_rfl) h8.of

abbrev Sj7r39 : List (Nat × Pat × Sp) := []
theorem hSj7r39 : SpecOK E (ofL Sj7r39) := specOK_nil
abbrev Lj7r39 : List (Nat × List Nat × Pat × LSp) := []
def lsj7r39 : LSp := fun vs σ K => asCons vs fun a1 r1 => asD (.int .i64) a1 fun s1 => asCons r1 fun a2 r2 => asD (.int .i64) a2 fun s2 => asCons r2 fun a3 r3 => asP (.ptr 0 0 []) a3 <| asCons r3 fun a4 r4 => asP (.ptr 4 0 []) a4 <| asCons r4 fun a5 r5 => asD (.int .i64) a5 fun s3 => asCons r5 fun a6 r6 => asD (.int .i64) a6 fun s4 => asCons r6 fun a7 r7 => asP (.vec 6) a7 <| asCons r7 fun a8 r8 => asD (.int .i64) a8 fun s5 => asCons r8 fun a9 r9 => asP (.vec 7) a9 <| asCons r9 fun a10 r10 => asD (.int .i64) a10 fun s6 => asCons r10 fun a11 r11 => asD (.int .i64) a11 fun s7 => asCons r11 fun a12 r12 => asP (.ptr 8 0 []) a12 <| asCons r12 fun a13 r13 => asD (.sl (.pair (.int .i64) (.pair (.int .i64) (.pair (.int .i64) (.pair (.sl (.pair .str (.pair (.int .i64) (.pair (.int .i64) .unit)))) .unit))))) a13 fun s8 => asCons r13 fun a14 r14 => asD (.int .i64) a14 fun s9 => asCons r14 fun a15 r15 => asD (.int .i64) a15 fun s10 => asNil r15 <| asCons σ fun a16 r16 => asOne (.pair (.sl (.int .i64)) (.pair (.int .i64) (.pair (.sl (.int .i64)) (.pair (.sl (.pair (.int .i64) (.pair (.int .i64) (.pair (.sl (.int .i64)) (.pair (.int .i64) .unit))))) (.pair (.sl (.pair (.int .i64) (.pair (.int .i64) (.pair (.int .i64) (.pair (.sl (.pair .str (.pair (.int .i64) (.pair (.int .i64) .unit)))) .unit))))) .unit))))) a16 fun a17 => asAgL a17 fun l18 => asCons l18 fun a19 r19 => asP (.vec 1) a19 <| asCons r19 fun a20 r20 => asD (.int .i64) a20 fun s11 => asCons r20 fun a21 r21 => asP (.vec 2) a21 <| asCons r21 fun a22 r22 => asP (.vec 3) a22 <| asCons r22 fun a23 r23 => asD (.sl (.pair (.int .i64) (.pair (.int .i64) (.pair (.int .i64) (.pair (.sl (.pair .str (.pair (.int .i64) (.pair (.int .i64) .unit)))) .unit))))) a23 fun s12 => asNil r23 <| asCons r16 fun a24 r24 => asRw (.int .i64) false a24 fun s13 => asCons r24 fun a25 r25 => asRw (.int .i64) false a25 fun s14 => asCons r25 fun a26 r26 => asRw (.pair (.int .i64) (.pair (.int .i64) (.pair (.sl (.int .i64)) (.pair (.int .i64) .unit)))) false a26 fun s15 => asCons r26 fun a27 r27 => asOne (.pair (.int .i64) (.pair (.int .i64) (.pair (.sl (.pair .str (.pair (.int .i64) (.pair (.int .i64) .unit)))) .unit))) a27 fun a28 => asAgL a28 fun l29 => asCons l29 fun a30 r30 => asD (.int .i64) a30 fun s16 => asCons r30 fun a31 r31 => asD (.int .i64) a31 fun s17 => asCons r31 fun a32 r32 => asP (.vec 5) a32 <| asNil r32 <| asCons r27 fun a33 r33 => asRw (.pair .str (.pair (.int .i64) (.pair (.int .i64) .unit))) false a33 fun s18 => asCons r33 fun a34 r34 => asRw (.int .i64) false a34 fun s19 => asCons r34 fun a35 r35 => asRw (.int .i64) false a35 fun s20 => asCons r35 fun a36 r36 => asOne (.pair (.int .i64) (.pair (.int .i64) (.pair (.int .i64) (.pair (.sl (.pair .str (.pair (.int .i64) (.pair (.int .i64) .unit)))) .unit)))) a36 fun a37 => asD (.pair (.int .i64) (.pair (.int .i64) (.pair (.int .i64) (.pair (.sl (.pair .str (.pair (.int .i64) (.pair (.int .i64) .unit)))) .unit)))) a37 fun s21 => asNil r36 <| j7r39 (fun z1 z2 z3 z4 z5 z6 z7 z8 z9 z10 z11 z12 z13 z14 z15 z16 z17 z18 z19 z20 => K .normal [(1, I z1), (2, I z2), (7, .ptr 0 0 []), (8, .ptr 4 0 []), (9, I z3), (13, I z4), (16, .vec 6), (17, I z5), (18, .vec 7), (19, I z6), (20, I z7), (156, .d (.sl (.pair (.int .i64) (.pair (.int .i64) (.pair (.int .i64) (.pair (.sl (.pair .str (.pair (.int .i64) (.pair (.int .i64) .unit)))) .unit))))) z8), (157, I z9), (158, I z10)] [.one (.pair (.sl (.int .i64)) (.pair (.int .i64) (.pair (.sl (.int .i64)) (.pair (.sl (.pair (.int .i64) (.pair (.int .i64) (.pair (.sl (.int .i64)) (.pair (.int .i64) .unit))))) (.pair (.sl (.pair (.int .i64) (.pair (.int .i64) (.pair (.int .i64) (.pair (.sl (.pair .str (.pair (.int .i64) (.pair (.int .i64) .unit)))) .unit))))) .unit))))) (.agg [.vec 1, I z11, .vec 2, .vec 3, .d (.sl (.pair (.int .i64) (.pair (.int .i64) (.pair (.int .i64) (.pair (.sl (.pair .str (.pair (.int .i64) (.pair (.int .i64) .unit)))) .unit))))) z12]), .row (.int .i64) z13 false, .row (.int .i64) z14 false, .row (.pair (.int .i64) (.pair (.int .i64) (.pair (.sl (.int .i64)) (.pair (.int .i64) .unit)))) z15 false, .one (.pair (.int .i64) (.pair (.int .i64) (.pair (.sl (.pair .str (.pair (.int .i64) (.pair (.int .i64) .unit)))) .unit))) (.agg [I z16, I z17, .vec 5]), .row (.pair .str (.pair (.int .i64) (.pair (.int .i64) .unit))) z18 false, .row (.int .i64) z19 false, .row (.int .i64) z20 false]) s1 s2 s3 s4 s5 s6 s7 s8 s9 s10 s11 s12 s13 s14 s15 s16 s17 s18 s19 s20 s21
theorem j7r39v : JoinV E (inlF (PA (ACall E)) E 8) (E.info 7).keep 0 Try.f7.ntmps 8400039 4000039 (jbody Try.f7 4000039) ([1, 2, 7, 8, 9, 13, 16, 17, 18, 19, 20, 22, 156, 157, 158], lsj7r39) := by
  intro vs σ K (h0 : lsj7r39 vs σ K)
  unfold lsj7r39 at h0
  obtain ⟨a1, r1, rfl, h1⟩ := asCons_inv h0
  obtain ⟨s1, rfl, h2⟩ := asD_inv h1
  obtain ⟨a2, r2, rfl, h3⟩ := asCons_inv h2
  obtain ⟨s2, rfl, h4⟩ := asD_inv h3
  obtain ⟨a3, r3, rfl, h5⟩ := asCons_inv h4
  obtain ⟨rfl, h6⟩ := asP_inv h5
  obtain ⟨a4, r4, rfl, h7⟩ := asCons_inv h6
  obtain ⟨rfl, h8⟩ := asP_inv h7
  obtain ⟨a5, r5, rfl, h9⟩ := asCons_inv h8
  obtain ⟨s3, rfl, h10⟩ := asD_inv h9
  obtain ⟨a6, r6, rfl, h11⟩ := asCons_inv h10
  obtain ⟨s4, rfl, h12⟩ := asD_inv h11
  obtain ⟨a7, r7, rfl, h13⟩ := asCons_inv h12
  obtain ⟨rfl, h14⟩ := asP_inv h13
  obtain ⟨a8, r8, rfl, h15⟩ := asCons_inv h14
  obtain ⟨s5, rfl, h16⟩ := asD_inv h15
  obtain ⟨a9, r9, rfl, h17⟩ := asCons_inv h16
  obtain ⟨rfl, h18⟩ := asP_inv h17
  obtain ⟨a10, r10, rfl, h19⟩ := asCons_inv h18
  obtain ⟨s6, rfl, h20⟩ := asD_inv h19
  obtain ⟨a11, r11, rfl, h21⟩ := asCons_inv h20
  obtain ⟨s7, rfl, h22⟩ := asD_inv h21
  obtain ⟨a12, r12, rfl, h23⟩ := asCons_inv h22
  obtain ⟨rfl, h24⟩ := asP_inv h23
  obtain ⟨a13, r13, rfl, h25⟩ := asCons_inv h24
  obtain ⟨s8, rfl, h26⟩ := asD_inv h25
  obtain ⟨a14, r14, rfl, h27⟩ := asCons_inv h26
  obtain ⟨s9, rfl, h28⟩ := asD_inv h27
  obtain ⟨a15, r15, rfl, h29⟩ := asCons_inv h28
  obtain ⟨s10, rfl, h30⟩ := asD_inv h29
  obtain ⟨rfl, h31⟩ := asNil_inv h30
  obtain ⟨a16, r16, rfl, h32⟩ := asCons_inv h31
  obtain ⟨a17, rfl, h33⟩ := asOne_inv h32
  obtain ⟨l18, rfl, h34⟩ := asAgL_inv h33
  obtain ⟨a19, r19, rfl, h35⟩ := asCons_inv h34
  obtain ⟨rfl, h36⟩ := asP_inv h35
  obtain ⟨a20, r20, rfl, h37⟩ := asCons_inv h36
  obtain ⟨s11, rfl, h38⟩ := asD_inv h37
  obtain ⟨a21, r21, rfl, h39⟩ := asCons_inv h38
  obtain ⟨rfl, h40⟩ := asP_inv h39
  obtain ⟨a22, r22, rfl, h41⟩ := asCons_inv h40
  obtain ⟨rfl, h42⟩ := asP_inv h41
  obtain ⟨a23, r23, rfl, h43⟩ := asCons_inv h42
  obtain ⟨s12, rfl, h44⟩ := asD_inv h43
  obtain ⟨rfl, h45⟩ := asNil_inv h44
  obtain ⟨a24, r24, rfl, h46⟩ := asCons_inv h45
  obtain ⟨s13, rfl, h47⟩ := asRw_inv h46
  obtain ⟨a25, r25, rfl, h48⟩ := asCons_inv h47
  obtain ⟨s14, rfl, h49⟩ := asRw_inv h48
  obtain ⟨a26, r26, rfl, h50⟩ := asCons_inv h49
  obtain ⟨s15, rfl, h51⟩ := asRw_inv h50
  obtain ⟨a27, r27, rfl, h52⟩ := asCons_inv h51
  obtain ⟨a28, rfl, h53⟩ := asOne_inv h52
  obtain ⟨l29, rfl, h54⟩ := asAgL_inv h53
  obtain ⟨a30, r30, rfl, h55⟩ := asCons_inv h54
  obtain ⟨s16, rfl, h56⟩ := asD_inv h55
  obtain ⟨a31, r31, rfl, h57⟩ := asCons_inv h56
  obtain ⟨s17, rfl, h58⟩ := asD_inv h57
  obtain ⟨a32, r32, rfl, h59⟩ := asCons_inv h58
  obtain ⟨rfl, h60⟩ := asP_inv h59
  obtain ⟨rfl, h61⟩ := asNil_inv h60
  obtain ⟨a33, r33, rfl, h62⟩ := asCons_inv h61
  obtain ⟨s18, rfl, h63⟩ := asRw_inv h62
  obtain ⟨a34, r34, rfl, h64⟩ := asCons_inv h63
  obtain ⟨s19, rfl, h65⟩ := asRw_inv h64
  obtain ⟨a35, r35, rfl, h66⟩ := asCons_inv h65
  obtain ⟨s20, rfl, h67⟩ := asRw_inv h66
  obtain ⟨a36, r36, rfl, h68⟩ := asCons_inv h67
  obtain ⟨a37, rfl, h69⟩ := asOne_inv h68
  obtain ⟨s21, rfl, h70⟩ := asD_inv h69
  obtain ⟨rfl, h71⟩ := asNil_inv h70
  exact join_round2 (S := ofL Sj7r39) (L := lofL Lj7r39) hSj7r39 (inlOK _) (all_eq (by kernel_rfl : subsOf (E.info 7).keep (jbody Try.f7 4000039) = []) (all_nil)) (by kernel_rfl) h71.of

abbrev Sl7r33 : List (Nat × Pat × Sp) := []
theorem hSl7r33 : SpecOK E (ofL Sl7r33) := specOK_nil
abbrev Ll7r33 : List (Nat × List Nat × Pat × LSp) := [(8400039, [1, 2, 7, 8, 9, 13, 16, 17, 18, 19, 20, 22, 156, 157, 158], none, lsj7r39)]
def lsl7r33 : LSp := fun vs σ K => asCons vs fun a1 r1 => asD (.int .i64) a1 fun s1 => asCons r1 fun a2 r2 => asD (.int .i64) a2 fun s2 => asCons r2 fun a3 r3 => asP (.ptr 0 0 []) a3 <| asCons r3 fun a4 r4 => asP (.ptr 4 0 []) a4 <| asCons r4 fun a5 r5 => asD (.int .i64) a5 fun s3 => asCons r5 fun a6 r6 => asD (.int .i64) a6 fun s4 => asCons r6 fun a7 r7 => asP (.vec 6) a7 <| asCons r7 fun a8 r8 => asD (.int .i64) a8 fun s5 => asCons r8 fun a9 r9 => asP (.vec 7) a9 <| asCons r9 fun a10 r10 => asD (.int .i64) a10 fun s6 => asCons r10 fun a11 r11 => asD (.int .i64) a11 fun s7 => asCons r11 fun a12 r12 => asD (.sl (.pair (.int .i64) (.pair (.int .i64) (.pair (.int .i64) (.pair (.sl (.pair .str (.pair (.int .i64) (.pair (.int .i64) .unit)))) .unit))))) a12 fun s8 => asCons r12 fun a13 r13 => asD (.int .i64) a13 fun s9 => asCons r13 fun a14 r14 => asD (.int .i64) a14 fun s10 => asNil r14 <| asCons σ fun a15 r15 => asOne (.pair (.sl (.int .i64)) (.pair (.int .i64) (.pair (.sl (.int .i64)) (.pair (.sl (.pair (.int .i64) (.pair (.int .i64) (.pair (.sl (.int .i64)) (.pair (.int .i64) .unit))))) (.pair (.sl (.pair (.int .i64) (.pair (.int .i64) (.pair (.int .i64) (.pair (.sl (.pair .str (.pair (.int .i64) (.pair (.int .i64) .unit)))) .unit))))) .unit))))) a15 fun a16 => asAgL a16 fun l17 => asCons l17 fun a18 r18 => asP (.vec 1) a18 <| asCons r18 fun a19 r19 => asD (.int .i64) a19 fun s11 => asCons r19 fun a20 r20 => asP (.vec 2) a20 <| asCons r20 fun a21 r21 => asP (.vec 3) a21 <| asCons r21 fun a22 r22 => asD (.sl (.pair (.int .i64) (.pair (.int .i64) (.pair (.int .i64) (.pair (.sl (.pair .str (.pair (.int .i64) (.pair (.int .i64) .unit)))) .unit))))) a22 fun s12 => asNil r22 <| asCons r15 fun a23 r23 => asRw (.int .i64) false a23 fun s13 => asCons r23 fun a24 r24 => asRw (.int .i64) false a24 fun s14 => asCons r24 fun a25 r25 => asRw (.pair (.int .i64) (.pair (.int .i64) (.pair (.sl (.int .i64)) (.pair (.int .i64) .unit)))) false a25 fun s15 => asCons r25 fun a26 r26 => asOne (.pair (.int .i64) (.pair (.int .i64) (.pair (.sl (.pair .str (.pair (.int .i64) (.pair (.int .i64) .unit)))) .unit))) a26 fun a27 => asAgL a27 fun l28 => asCons l28 fun a29 r29 => asD (.int .i64) a29 fun s16 => asCons r29 fun a30 r30 => asD (.int .i64) a30 fun s17 => asCons r30 fun a31 r31 => asP (.vec 5) a31 <| asNil r31 <| asCons r26 fun a32 r32 => asRw (.pair .str (.pair (.int .i64) (.pair (.int .i64) .unit))) false a32 fun s18 => asCons r32 fun a33 r33 => asRw (.int .i64) false a33 fun s19 => asCons r33 fun a34 r34 => asRw (.int .i64) false a34 fun s20 => asNil r34 <| l7r33 (fun z1 z2 z3 z4 z5 z6 z7 z8 z9 => K (.exit 5) [(8, .ptr 0 0 []), (9, I z1), (13, I z2), (16, .vec 2), (17, I z3), (18, .vec 3), (20, I z4)] [.one (.pair (.int .i64) (.pair (.int .i64) (.pair (.sl (.pair .str (.pair (.int .i64) (.pair (.int .i64) .unit)))) .unit))) (.agg [I z5, I z6, .vec 1]), .row (.pair .str (.pair (.int .i64) (.pair (.int .i64) .unit))) z7 false, .row (.int .i64) z8 false, .row (.int .i64) z9 false]) s1 s2 s3 s4 s5 s6 s7 s8 s9 s10 s11 s12 s13 s14 s15 s16 s17 s18 s19 s20
theorem l7r33v : LoopV E (inlF (PA (ACall E)) E 8) (E.info 7).keep 0 Try.f7.ntmps 8000033 (body Try.f7 33) ([1, 2, 7, 8, 9, 13, 16, 17, 18, 19, 20, 156, 157, 158], lsl7r33) := by
  intro vs σ K (h0 : lsl7r33 vs σ K)
  unfold lsl7r33 at h0
  obtain ⟨a1, r1, rfl, h1⟩ := asCons_inv h0
  obtain ⟨s1, rfl, h2⟩ := asD_inv h1
  obtain ⟨a2, r2, rfl, h3⟩ := asCons_inv h2
  obtain ⟨s2, rfl, h4⟩ := asD_inv h3
  obtain ⟨a3, r3, rfl, h5⟩ := asCons_inv h4
  obtain ⟨rfl, h6⟩ := asP_inv h5
  obtain ⟨a4, r4, rfl, h7⟩ := asCons_inv h6
  obtain ⟨rfl, h8⟩ := asP_inv h7
  obtain ⟨a5, r5, rfl, h9⟩ := asCons_inv h8
  obtain ⟨s3, rfl, h10⟩ := asD_inv h9
  obtain ⟨a6, r6, rfl, h11⟩ := asCons_inv h10
  obtain ⟨s4, rfl, h12⟩ := asD_inv h11
  obtain ⟨a7, r7, rfl, h13⟩ := asCons_inv h12
  obtain ⟨rfl, h14⟩ := asP_inv h13
  obtain ⟨a8, r8, rfl, h15⟩ := asCons_inv h14
  obtain ⟨s5, rfl, h16⟩ := asD_inv h15
  obtain ⟨a9, r9, rfl, h17⟩ := asCons_inv h16
  obtain ⟨rfl, h18⟩ := asP_inv h17
  obtain ⟨a10, r10, rfl, h19⟩ := asCons_inv h18
  obtain ⟨s6, rfl, h20⟩ := asD_inv h19
  obtain ⟨a11, r11, rfl, h21⟩ := asCons_inv h20
  obtain ⟨s7, rfl, h22⟩ := asD_inv h21
  obtain ⟨a12, r12, rfl, h23⟩ := asCons_inv h22
  obtain ⟨s8, rfl, h24⟩ := asD_inv h23
  obtain ⟨a13, r13, rfl, h25⟩ := asCons_inv h24
  obtain ⟨s9, rfl, h26⟩ := asD_inv h25
  obtain ⟨a14, r14, rfl, h27⟩ := asCons_inv h26
  obtain ⟨s10, rfl, h28⟩ := asD_inv h27
  obtain ⟨rfl, h29⟩ := asNil_inv h28
  obtain ⟨a15, r15, rfl, h30⟩ := asCons_inv h29
  obtain ⟨a16, rfl, h31⟩ := asOne_inv h30
  obtain ⟨l17, rfl, h32⟩ := asAgL_inv h31
  obtain ⟨a18, r18, rfl, h33⟩ := asCons_inv h32
  obtain ⟨rfl, h34⟩ := asP_inv h33
  obtain ⟨a19, r19, rfl, h35⟩ := asCons_inv h34
  obtain ⟨s11, rfl, h36⟩ := asD_inv h35
  obtain ⟨a20, r20, rfl, h37⟩ := asCons_inv h36
  obtain ⟨rfl, h38⟩ := asP_inv h37
  obtain ⟨a21, r21, rfl, h39⟩ := asCons_inv h38
  obtain ⟨rfl, h40⟩ := asP_inv h39
  obtain ⟨a22, r22, rfl, h41⟩ := asCons_inv h40
  obtain ⟨s12, rfl, h42⟩ := asD_inv h41
  obtain ⟨rfl, h43⟩ := asNil_inv h42
  obtain ⟨a23, r23, rfl, h44⟩ := asCons_inv h43
  obtain ⟨s13, rfl, h45⟩ := asRw_inv h44
  obtain ⟨a24, r24, rfl, h46⟩ := asCons_inv h45
  obtain ⟨s14, rfl, h47⟩ := asRw_inv h46
  obtain ⟨a25, r25, rfl, h48⟩ := asCons_inv h47
  obtain ⟨s15, rfl, h49⟩ := asRw_inv h48
  obtain ⟨a26, r26, rfl, h50⟩ := asCons_inv h49
  obtain ⟨a27, rfl, h51⟩ := asOne_inv h50
  obtain ⟨l28, rfl, h52⟩ := asAgL_inv h51
  obtain ⟨a29, r29, rfl, h53⟩ := asCons_inv h52
  obtain ⟨s16, rfl, h54⟩ := asD_inv h53
  obtain ⟨a30, r30, rfl, h55⟩ := asCons_inv h54
  obtain ⟨s17, rfl, h56⟩ := asD_inv h55
  obtain ⟨a31, r31, rfl, h57⟩ := asCons_inv h56
  obtain ⟨rfl, h58⟩ := asP_inv h57
  obtain ⟨rfl, h59⟩ := asNil_inv h58
  obtain ⟨a32, r32, rfl, h60⟩ := asCons_inv h59
  obtain ⟨s18, rfl, h61⟩ := asRw_inv h60
  obtain ⟨a33, r33, rfl, h62⟩ := asCons_inv h61
  obtain ⟨s19, rfl, h63⟩ := asRw_inv h62
  obtain ⟨a34, r34, rfl, h64⟩ := asCons_inv h63
  obtain ⟨s20, rfl, h65⟩ := asRw_inv h64
  obtain ⟨rfl, h66⟩ := asNil_inv h65
  intro J hJ
  have hp : ∀ c' ∈ subsOf (E.info 7).keep (body Try.f7 33), SubOK E (inlF (PA (ACall E)) E 8) (E.info 7).keep 0 Try.f7.ntmps (lofL Ll7r33) c' := all_eq (by kernel_rfl : subsOf (E.info 7).keep (body Try.f7 33) = [.join 4000039 (jbody Try.f7 4000039)]) (all_cons (joinOK_of (mk := 8400039) (sl := [1, 2, 7, 8, 9, 13, 16, 17, 18, 19, 20, 22, 156, 157, 158]) (ss := [([1, 2, 7, 8, 9, 13, 16, 17, 18, 19, 20, 22, 156, 157, 158], lsj7r39)]) (by kernel_rfl) (by kernel_rfl) (all_cons j7r39v (all_nil))) (all_nil))
  exact h66.of (fun s1 s2 s3 s4 s5 s6 s7 s8 s9 s10 s11 s12 s13 s14 s15 s16 s17 s18 s19 s20 => J [(8000033, .undef), (1, I s1), (2, I s2), (7, .ptr 0 0 []), (8, .ptr 4 0 []), (9, I s3), (13, I s4), (16, .vec 6), (17, I s5), (18, .vec 7), (19, I s6), (20, I s7), (156, .d (.sl (.pair (.int .i64) (.pair (.int .i64) (.pair (.int .i64) (.pair (.sl (.pair .str (.pair (.int .i64) (.pair (.int .i64) .unit)))) .unit))))) s8), (157, I s9), (158, I s10)] [.one (.pair (.sl (.int .i64)) (.pair (.int .i64) (.pair (.sl (.int .i64)) (.pair (.sl (.pair (.int .i64) (.pair (.int .i64) (.pair (.sl (.int .i64)) (.pair (.int .i64) .unit))))) (.pair (.sl (.pair (.int .i64) (.pair (.int .i64) (.pair (.int .i64) (.pair (.sl (.pair .str (.pair (.int .i64) (.pair (.int .i64) .unit)))) .unit))))) .unit))))) (.agg [.vec 1, I s11, .vec 2, .vec 3, .d (.sl (.pair (.int .i64) (.pair (.int .i64) (.pair (.int .i64) (.pair (.sl (.pair .str (.pair (.int .i64) (.pair (.int .i64) .unit)))) .unit))))) s12]), .row (.int .i64) s13 false, .row (.int .i64) s14 false, .row (.pair (.int .i64) (.pair (.int .i64) (.pair (.sl (.int .i64)) (.pair (.int .i64) .unit)))) s15 false, .one (.pair (.int .i64) (.pair (.int .i64) (.pair (.sl (.pair .str (.pair (.int .i64) (.pair (.int .i64) .unit)))) .unit))) (.agg [I s16, I s17, .vec 5]), .row (.pair .str (.pair (.int .i64) (.pair (.int .i64) .unit))) s18 false, .row (.int .i64) s19 false, .row (.int .i64) s20 false]) (fun s1 s2 s3 s4 s5 s6 s7 s8 s9 s10 s11 s12 s13 s14 s15 s16 s17 s18 s19 s20 hb => loop_round2 (S := ofL Sl7r33) (L := lofL Ll7r33) hSl7r33 (inlOK _) hp hJ (by kernel_rfl) hb)

abbrev Sl32r4 : List (Nat × Pat × Sp) := []
theorem hSl32r4 : SpecOK E (ofL Sl32r4) := specOK_nil
abbrev Ll32r4 : List (Nat × List Nat × Pat × LSp) := []
def lsl32r4 : LSp := fun vs σ K => asCons vs fun a1 r1 => asD (.sl (.int .i64)) a1 fun s1 => asCons r1 fun a2 r2 => asD (.sl (.int .i64)) a2 fun s2 => asCons r2 fun a3 r3 => asD (.int .i64) a3 fun s3 => asCons r3 fun a4 r4 => asD (.int .i64) a4 fun s4 => asNil r4 <| asNil σ <| l32r4 (fun z1 => K .ret [(4, B z1)] []) (K (.exit 0) [(4, .undef)] []) s1 s2 s3 s4
theorem l32r4v : LoopV E (inlF (PA (ACall E)) E 8) (E.info 32).keep 0 Try.f32.ntmps 33000004 (body Try.f32 4) ([0, 1, 12, 13], lsl32r4) := by
  intro vs σ K (h0 : lsl32r4 vs σ K)
  unfold lsl32r4 at h0
  obtain ⟨a1, r1, rfl, h1⟩ := asCons_inv h0
  obtain ⟨s1, rfl, h2⟩ := asD_inv h1
  obtain ⟨a2, r2, rfl, h3⟩ := asCons_inv h2
  obtain ⟨s2, rfl, h4⟩ := asD_inv h3
  obtain ⟨a3, r3, rfl, h5⟩ := asCons_inv h4
  obtain ⟨s3, rfl, h6⟩ := asD_inv h5
  obtain ⟨a4, r4, rfl, h7⟩ := asCons_inv h6
  obtain ⟨s4, rfl, h8⟩ := asD_inv h7
  obtain ⟨rfl, h9⟩ := asNil_inv h8
  obtain ⟨rfl, h10⟩ := asNil_inv h9
  intro J hJ
  have hp : ∀ c' ∈ subsOf (E.info 32).keep (body Try.f32 4), SubOK E (inlF (PA (ACall E)) E 8) (E.info 32).keep 0 Try.f32.ntmps (lofL Ll32r4) c' := all_eq (by kernel_rfl : subsOf (E.info 32).keep (body Try.f32 4) = []) (all_nil)
  exact h10.of (fun s1 s2 s3 s4 => J [(33000004, .undef), (0, .d (.sl (.int .i64)) s1), (1, .d (.sl (.int .i64)) s2), (12, I s3), (13, I s4)] []) (fun s1 s2 s3 s4 hb => loop_round2 (S := ofL Sl32r4) (L := lofL Ll32r4) hSl32r4 (inlOK _) hp hJ (by kernel_rfl) hb)

abbrev S32 : List (Nat × Pat × Sp) := []
theorem hS32 : SpecOK E (ofL S32) := specOK_nil
abbrev L32 : List (Nat × List Nat × Pat × LSp) := [(33000004, [0, 1, 12, 13], none, lsl32r4)]
def sp32 : Sp := fun args τ K => asCons args fun a1 r1 => asD (.sl (.int .i64)) a1 fun x1 => asCons r1 fun a2 r2 => asD (.sl (.int .i64)) a2 fun x2 => asNil r2 <| asNil τ <| c32 x1 x2 (fun z1 => K (B z1) [])
theorem h32 : ∀ args τ K, sp32 args τ K → ACall E 32 args τ K := by
  intro args τ K h0
  unfold sp32 at h0
  obtain ⟨a1, r1, rfl, h1⟩ := asCons_inv h0
  obtain ⟨x1, rfl, h2⟩ := asD_inv h1
  obtain ⟨a2, r2, rfl, h3⟩ := asCons_inv h2
  obtain ⟨x2, rfl, h4⟩ := asD_inv h3
  obtain ⟨rfl, h5⟩ := asNil_inv h4
  obtain ⟨rfl, h6⟩ := asNil_inv h5
  exact ACall.spec2 (fn := Try.f32) (c := codeOf Try.f32) (S := ofL S32) (L := lofL L32) hS32 (by kernel_rfl) (by kernel_rfl) (inlOK _) (all_eq (by kernel_rfl : subsOf (E.info 32).keep (codeOf Try.f32) = [.loop (body Try.f32 4)]) (all_cons (loopOK_of (mk := 33000004) (sl := [0, 1, 12, 13]) (ss := [([0, 1, 12, 13], lsl32r4)]) (by kernel_rfl) (by kernel_rfl) (all_cons l32r4v (all_nil))) (all_nil))) (by kernel_rfl) h6.of

abbrev S7 : List (Nat × Pat × Sp) := [(38, none, sp38), (39, none, sp39), (40, none, sp40), (41, none, sp41), (32, none, sp32)]
theorem hS7 : SpecOK E (ofL S7) := specOK_cons h38 (specOK_cons h39 (specOK_cons h40 (specOK_cons h41 (specOK_cons h32 (specOK_nil)))))
abbrev L7 : List (Nat × List Nat × Pat × LSp) := [(8000008, [1, 2, 7, 8, 10, 54, 55, 56], none, lsl7r8), (8000021, [1, 2, 7, 8, 10, 13, 112, 113, 114], none, lsl7r21), (8000033, [1, 2, 7, 8, 9, 13, 16, 17, 18, 19, 20, 156, 157, 158], none, lsl7r33)]
def sp7 : Sp := fun args τ K => asCons args fun a1 r1 => asD (.sl (.pair (.int .i64) (.pair (.int .i64) (.pair (.int .i64) (.pair (.sl (.pair .str (.pair (.int .i64) (.pair (.int .i64) .unit)))) .unit))))) a1 fun x1 => asCons r1 fun a2 r2 => asD (.int .i64) a2 fun x2 => asCons r2 fun a3 r3 => asD (.int .i64) a3 fun x3 => asNil r3 <| asNil τ <| c7 x1 x2 x3 (fun z1 => K (B z1) [])
theorem h7 : ∀ args τ K, sp7 args τ K → ACall E 7 args τ K := by
  intro args τ K h0
  unfold sp7 at h0
  obtain ⟨a1, r1, rfl, h1⟩ := asCons_inv h0
  obtain ⟨x1, rfl, h2⟩ := asD_inv h1
  obtain ⟨a2, r2, rfl, h3⟩ := asCons_inv h2
  obtain ⟨x2, rfl, h4⟩ := asD_inv h3
  obtain ⟨a3, r3, rfl, h5⟩ := asCons_inv h4
  obtain ⟨x3, rfl, h6⟩ := asD_inv h5
  obtain ⟨rfl, h7⟩ := asNil_inv h6
  obtain ⟨rfl, h8⟩ := asNil_inv h7
  exact ACall.spec2 (fn := Try.f7) (c := codeOf Try.f7) (S := ofL S7) (L := lofL L7) hS7 (by kernel_rfl) (by kernel_rfl) (inlOK _) (all_eq (by kernel_rfl : subsOf (E.info 7).keep (codeOf Try.f7) = [.loop (body Try.f7 8), .loop (body Try.f7 21), .loop (body Try.f7 33)]) (all_cons (loopOK_of (mk := 8000008) (sl := [1, 2, 7, 8, 10, 54, 55, 56]) (ss := [([1, 2, 7, 8, 10, 54, 55, 56], lsl7r8)]) (by kernel_rfl) (by kernel_rfl) (all_cons l7r8v (all_nil))) (all_cons (loopOK_of (mk := 8000021) (sl := [1, 2, 7, 8, 10, 13, 112, 113, 114]) (ss := [([1, 2, 7, 8, 10, 13, 112, 113, 114], lsl7r21)]) (by kernel_rfl) (by kernel_rfl) (all_cons l7r21v (all_nil))) (all_cons (loopOK_of (mk := 8000033) (sl := [1, 2, 7, 8, 9, 13, 16, 17, 18, 19, 20, 156, 157, 158]) (ss := [([1, 2, 7, 8, 9, 13, 16, 17, 18, 19, 20, 156, 157, 158], lsl7r33)]) (by kernel_rfl) (by kernel_rfl) (all_cons l7r33v (all_nil))) (all_nil))))) (by kernel_rfl) h8.of

end Go.Proofs.Ytfdoaacapkopmaa
