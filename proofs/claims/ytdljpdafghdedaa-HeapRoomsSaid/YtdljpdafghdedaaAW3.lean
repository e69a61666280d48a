/- The functions compute that (printed by a program). -/
import Derived.Test.YtdljpdafghdedaaAD3
import Derived.Test.YtdljpdafghdedaaAEnvC
import Derived.KernelRfl
namespace Go.Proofs.Ytdljpdafghdedaa
open Go.Abs
set_option maxRecDepth 100000
set_option maxHeartbeats 4000000
set_option linter.unusedVariables false
abbrev S14 : List (Nat × Pat × Sp) := []
theorem hS14 : SpecOK E (ofL S14) := specOK_nil
abbrev L14 : List (Nat × List Nat × Pat × LSp) := []
def sp14 : Sp := fun args τ K => asCons args fun a1 r1 => asD (.int .i64) a1 fun x1 => asCons r1 fun a2 r2 => asD (.int .i64) a2 fun x2 => asNil r2 <| asNil τ <| c14 x1 x2 (fun z1 => K (I z1) [])
theorem h14 : ∀ args τ K, sp14 args τ K → ACall E 14 args τ K := by
  intro args τ K h0
  unfold sp14 at h0
  obtain ⟨a1, r1, rfl, h1⟩ := asCons_inv h0; clear h0
  obtain ⟨x1, rfl, h2⟩ := asD_inv h1; clear h1
  obtain ⟨a2, r2, rfl, h3⟩ := asCons_inv h2; clear h2
  obtain ⟨x2, rfl, h4⟩ := asD_inv h3; clear h3
  obtain ⟨rfl, h5⟩ := asNil_inv h4; clear h4
  obtain ⟨rfl, h6⟩ := asNil_inv h5; clear h5
  exact ACall.spec2 (fn := Try.f14) (c := codeOf Try.f14) (S := ofL S14) (L := lofL L14) hS14 (by kernel_rfl) (by kernel_rfl) (inlOK _) (all_eq (by kernel_rfl : subsOf (E.info 14).keep (codeOf Try.f14) = []) (all_nil)) (by kernel_rfl) h6.of

abbrev S4 : List (Nat × Pat × Sp) := [(14, none, sp14)]
theorem hS4 : SpecOK E (ofL S4) := specOK_cons h14 (specOK_nil)
abbrev L4 : List (Nat × List Nat × Pat × LSp) := []
def sp4 : Sp := fun args τ K => asCons args fun a1 r1 => asD (.int .i64) a1 fun x1 => asCons r1 fun a2 r2 => asD (.int .i64) a2 fun x2 => asNil r2 <| asNil τ <| c4 x1 x2 (fun z1 => K (I z1) [])
theorem h4 : ∀ args τ K, sp4 args τ K → ACall E 4 args τ K := by
  intro args τ K h0
  unfold sp4 at h0
  obtain ⟨a1, r1, rfl, h1⟩ := asCons_inv h0; clear h0
  obtain ⟨x1, rfl, h2⟩ := asD_inv h1; clear h1
  obtain ⟨a2, r2, rfl, h3⟩ := asCons_inv h2; clear h2
  obtain ⟨x2, rfl, h4⟩ := asD_inv h3; clear h3
  obtain ⟨rfl, h5⟩ := asNil_inv h4; clear h4
  obtain ⟨rfl, h6⟩ := asNil_inv h5; clear h5
  exact ACall.spec2 (fn := Try.f4) (c := codeOf Try.f4) (S := ofL S4) (L := lofL L4) hS4 (by kernel_rfl) (by kernel_rfl) (inlOK _) (all_eq (by kernel_rfl : subsOf (E.info 4).keep (codeOf Try.f4) = []) (all_nil)) (by kernel_rfl) h6.of

abbrev S15 : List (Nat × Pat × Sp) := []
theorem hS15 : SpecOK E (ofL S15) := specOK_nil
abbrev L15 : List (Nat × List Nat × Pat × LSp) := []
def sp15 : Sp := fun args τ K => asCons args fun a1 r1 => asD (.int .i64) a1 fun x1 => asCons r1 fun a2 r2 => asD (.int .i64) a2 fun x2 => asCons r2 fun a3 r3 => asD (.int .i64) a3 fun x3 => asNil r3 <| asNil τ <| c15 x1 x2 x3 (fun z1 => K (B z1) [])
theorem h15 : ∀ args τ K, sp15 args τ K → ACall E 15 args τ K := by
  intro args τ K h0
  unfold sp15 at h0
  obtain ⟨a1, r1, rfl, h1⟩ := asCons_inv h0; clear h0
  obtain ⟨x1, rfl, h2⟩ := asD_inv h1; clear h1
  obtain ⟨a2, r2, rfl, h3⟩ := asCons_inv h2; clear h2
  obtain ⟨x2, rfl, h4⟩ := asD_inv h3; clear h3
  obtain ⟨a3, r3, rfl, h5⟩ := asCons_inv h4; clear h4
  obtain ⟨x3, rfl, h6⟩ := asD_inv h5; clear h5
  obtain ⟨rfl, h7⟩ := asNil_inv h6; clear h6
  obtain ⟨rfl, h8⟩ := asNil_inv h7; clear h7
  exact ACall.spec2 (fn := Try.f15) (c := codeOf Try.f15) (S := ofL S15) (L := lofL L15) hS15 (by kernel_rfl) (by kernel_rfl) (inlOK _) (all_eq (by kernel_rfl : subsOf (E.info 15).keep (codeOf Try.f15) = []) (all_nil)) (by kernel_rfl) h8.of

abbrev S5 : List (Nat × Pat × Sp) := [(15, none, sp15)]
theorem hS5 : SpecOK E (ofL S5) := specOK_cons h15 (specOK_nil)
abbrev L5 : List (Nat × List Nat × Pat × LSp) := []
def sp5 : Sp := fun args τ K => asCons args fun a1 r1 => asD (.int .i64) a1 fun x1 => asCons r1 fun a2 r2 => asD (.int .i64) a2 fun x2 => asCons r2 fun a3 r3 => asD (.int .i64) a3 fun x3 => asNil r3 <| asNil τ <| c5 x1 x2 x3 (fun z1 z2 => K (.tup [.d (.opq .ptr) z1, I z2]) []) (fun z1 z2 z3 z4 z5 z6 z7 z8 => K (.tup [.ptr 0 0 [], I z1]) [.one (.pair (.sl (.int .i64)) (.pair (.int .i64) (.pair (.int .i64) (.pair (.int .i64) (.pair (.int .i64) (.pair (.int .i64) (.pair (.int .i64) (.pair (.sl (.int .i64)) .unit)))))))) (.agg [.vec 1, I z2, I z3, I z4, I z5, I z6, I z7, .nils (.int .i64)]), .row (.int .i64) z8 false])
theorem h5 : ∀ args τ K, sp5 args τ K → ACall E 5 args τ K := by
  intro args τ K h0
  unfold sp5 at h0
  obtain ⟨a1, r1, rfl, h1⟩ := asCons_inv h0; clear h0
  obtain ⟨x1, rfl, h2⟩ := asD_inv h1; clear h1
  obtain ⟨a2, r2, rfl, h3⟩ := asCons_inv h2; clear h2
  obtain ⟨x2, rfl, h4⟩ := asD_inv h3; clear h3
  obtain ⟨a3, r3, rfl, h5⟩ := asCons_inv h4; clear h4
  obtain ⟨x3, rfl, h6⟩ := asD_inv h5; clear h5
  obtain ⟨rfl, h7⟩ := asNil_inv h6; clear h6
  obtain ⟨rfl, h8⟩ := asNil_inv h7; clear h7
  exact ACall.spec2 (fn := Try.f5) (c := codeOf Try.f5) (S := ofL S5) (L := lofL L5) hS5 (by kernel_rfl) (by kernel_rfl) (inlOK _) (all_eq (by kernel_rfl : subsOf (E.info 5).keep (codeOf Try.f5) = []) (all_nil)) (by kernel_rfl) h8.of

abbrev S8 : List (Nat × Pat × Sp) := []
theorem hS8 : SpecOK E (ofL S8) := specOK_nil
abbrev L8 : List (Nat × List Nat × Pat × LSp) := []
def sp8 : Sp := fun args τ K => asCons args fun a1 r1 => asP (.ptr 0 0 []) a1 <| asCons r1 fun a2 r2 => asD (.int .i64) a2 fun x1 => asNil r2 <| asCons τ fun a3 r3 => asOne (.pair (.sl (.int .i64)) (.pair (.int .i64) (.pair (.int .i64) (.pair (.int .i64) (.pair (.int .i64) (.pair (.int .i64) (.pair (.int .i64) (.pair (.sl (.int .i64)) .unit)))))))) a3 fun a4 => asAgL a4 fun l5 => asCons l5 fun a6 r6 => asP (.vec 1) a6 <| asCons r6 fun a7 r7 => asD (.int .i64) a7 fun x2 => asCons r7 fun a8 r8 => asD (.int .i64) a8 fun x3 => asCons r8 fun a9 r9 => asD (.int .i64) a9 fun x4 => asCons r9 fun a10 r10 => asD (.int .i64) a10 fun x5 => asCons r10 fun a11 r11 => asD (.int .i64) a11 fun x6 => asCons r11 fun a12 r12 => asD (.int .i64) a12 fun x7 => asCons r12 fun a13 r13 => asP (.nils (.int .i64)) a13 <| asNil r13 <| asCons r3 fun a14 r14 => asRw (.int .i64) false a14 fun x8 => asNil r14 <| c8 x1 x2 x3 x4 x5 x6 x7 x8 (fun z1 z2 z3 z4 z5 z6 z7 z8 => K (B z1) [.one (.pair (.sl (.int .i64)) (.pair (.int .i64) (.pair (.int .i64) (.pair (.int .i64) (.pair (.int .i64) (.pair (.int .i64) (.pair (.int .i64) (.pair (.sl (.int .i64)) .unit)))))))) (.agg [.vec 1, I z2, I z3, I z4, I z5, I z6, I z7, .nils (.int .i64)]), .row (.int .i64) z8 false])
theorem h8 : ∀ args τ K, sp8 args τ K → ACall E 8 args τ K := by
  intro args τ K h0
  unfold sp8 at h0
  obtain ⟨a1, r1, rfl, h1⟩ := asCons_inv h0; clear h0
  obtain ⟨rfl, h2⟩ := asP_inv h1; clear h1
  obtain ⟨a2, r2, rfl, h3⟩ := asCons_inv h2; clear h2
  obtain ⟨x1, rfl, h4⟩ := asD_inv h3; clear h3
  obtain ⟨rfl, h5⟩ := asNil_inv h4; clear h4
  obtain ⟨a3, r3, rfl, h6⟩ := asCons_inv h5; clear h5
  obtain ⟨a4, rfl, h7⟩ := asOne_inv h6; clear h6
  obtain ⟨l5, rfl, h8⟩ := asAgL_inv h7; clear h7
  obtain ⟨a6, r6, rfl, h9⟩ := asCons_inv h8; clear h8
  obtain ⟨rfl, h10⟩ := asP_inv h9; clear h9
  obtain ⟨a7, r7, rfl, h11⟩ := asCons_inv h10; clear h10
  obtain ⟨x2, rfl, h12⟩ := asD_inv h11; clear h11
  obtain ⟨a8, r8, rfl, h13⟩ := asCons_inv h12; clear h12
  obtain ⟨x3, rfl, h14⟩ := asD_inv h13; clear h13
  obtain ⟨a9, r9, rfl, h15⟩ := asCons_inv h14; clear h14
  obtain ⟨x4, rfl, h16⟩ := asD_inv h15; clear h15
  obtain ⟨a10, r10, rfl, h17⟩ := asCons_inv h16; clear h16
  obtain ⟨x5, rfl, h18⟩ := asD_inv h17; clear h17
  obtain ⟨a11, r11, rfl, h19⟩ := asCons_inv h18; clear h18
  obtain ⟨x6, rfl, h20⟩ := asD_inv h19; clear h19
  obtain ⟨a12, r12, rfl, h21⟩ := asCons_inv h20; clear h20
  obtain ⟨x7, rfl, h22⟩ := asD_inv h21; clear h21
  obtain ⟨a13, r13, rfl, h23⟩ := asCons_inv h22; clear h22
  obtain ⟨rfl, h24⟩ := asP_inv h23; clear h23
  obtain ⟨rfl, h25⟩ := asNil_inv h24; clear h24
  obtain ⟨a14, r14, rfl, h26⟩ := asCons_inv h25; clear h25
  obtain ⟨x8, rfl, h27⟩ := asRw_inv h26; clear h26
  obtain ⟨rfl, h28⟩ := asNil_inv h27; clear h27
  exact ACall.spec2 (fn := Try.f8) (c := codeOf Try.f8) (S := ofL S8) (L := lofL L8) hS8 (by kernel_rfl) (by kernel_rfl) (inlOK _) (all_eq (by kernel_rfl : subsOf (E.info 8).keep (codeOf Try.f8) = []) (all_nil)) (by kernel_rfl) h28.of

abbrev S16 : List (Nat × Pat × Sp) := []
theorem hS16 : SpecOK E (ofL S16) := specOK_nil
abbrev L16 : List (Nat × List Nat × Pat × LSp) := []
def sp16 : Sp := fun args τ K => asCons args fun a1 r1 => asD (.int .i64) a1 fun x1 => asCons r1 fun a2 r2 => asD (.int .i64) a2 fun x2 => asNil r2 <| asNil τ <| c16 x1 x2 (fun z1 => K (I z1) [])
theorem h16 : ∀ args τ K, sp16 args τ K → ACall E 16 args τ K := by
  intro args τ K h0
  unfold sp16 at h0
  obtain ⟨a1, r1, rfl, h1⟩ := asCons_inv h0; clear h0
  obtain ⟨x1, rfl, h2⟩ := asD_inv h1; clear h1
  obtain ⟨a2, r2, rfl, h3⟩ := asCons_inv h2; clear h2
  obtain ⟨x2, rfl, h4⟩ := asD_inv h3; clear h3
  obtain ⟨rfl, h5⟩ := asNil_inv h4; clear h4
  obtain ⟨rfl, h6⟩ := asNil_inv h5; clear h5
  exact ACall.spec2 (fn := Try.f16) (c := codeOf Try.f16) (S := ofL S16) (L := lofL L16) hS16 (by kernel_rfl) (by kernel_rfl) (inlOK _) (all_eq (by kernel_rfl : subsOf (E.info 16).keep (codeOf Try.f16) = []) (all_nil)) (by kernel_rfl) h6.of

abbrev S24 : List (Nat × Pat × Sp) := []
theorem hS24 : SpecOK E (ofL S24) := specOK_nil
abbrev L24 : List (Nat × List Nat × Pat × LSp) := []
def sp24 : Sp := fun args τ K => asCons args fun a1 r1 => asP (.ptr 0 0 []) a1 <| asCons r1 fun a2 r2 => asD (.int .i64) a2 fun x1 => asNil r2 <| asCons τ fun a3 r3 => asOne (.pair (.sl (.int .i64)) (.pair (.int .i64) (.pair (.int .i64) (.pair (.int .i64) (.pair (.int .i64) (.pair (.int .i64) (.pair (.int .i64) (.pair (.sl (.int .i64)) .unit)))))))) a3 fun a4 => asAgL a4 fun l5 => asCons l5 fun a6 r6 => asP (.vec 1) a6 <| asCons r6 fun a7 r7 => asD (.int .i64) a7 fun x2 => asCons r7 fun a8 r8 => asD (.int .i64) a8 fun x3 => asCons r8 fun a9 r9 => asD (.int .i64) a9 fun x4 => asCons r9 fun a10 r10 => asD (.int .i64) a10 fun x5 => asCons r10 fun a11 r11 => asD (.int .i64) a11 fun x6 => asCons r11 fun a12 r12 => asD (.int .i64) a12 fun x7 => asCons r12 fun a13 r13 => asP (.vec 2) a13 <| asNil r13 <| asCons r3 fun a14 r14 => asRw (.int .i64) false a14 fun x8 => asCons r14 fun a15 r15 => asRw (.int .i64) false a15 fun x9 => asNil r15 <| c24 x1 x2 x3 x4 x5 x6 x7 x8 x9 (fun z1 z2 z3 z4 z5 z6 z7 z8 z9 => K (B z1) [.one (.pair (.sl (.int .i64)) (.pair (.int .i64) (.pair (.int .i64) (.pair (.int .i64) (.pair (.int .i64) (.pair (.int .i64) (.pair (.int .i64) (.pair (.sl (.int .i64)) .unit)))))))) (.agg [.vec 1, I z2, I z3, I z4, I z5, I z6, I z7, .vec 2]), .row (.int .i64) z8 false, .row (.int .i64) z9 false])
theorem h24 : ∀ args τ K, sp24 args τ K → ACall E 24 args τ K := by
  intro args τ K h0
  unfold sp24 at h0
  obtain ⟨a1, r1, rfl, h1⟩ := asCons_inv h0; clear h0
  obtain ⟨rfl, h2⟩ := asP_inv h1; clear h1
  obtain ⟨a2, r2, rfl, h3⟩ := asCons_inv h2; clear h2
  obtain ⟨x1, rfl, h4⟩ := asD_inv h3; clear h3
  obtain ⟨rfl, h5⟩ := asNil_inv h4; clear h4
  obtain ⟨a3, r3, rfl, h6⟩ := asCons_inv h5; clear h5
  obtain ⟨a4, rfl, h7⟩ := asOne_inv h6; clear h6
  obtain ⟨l5, rfl, h8⟩ := asAgL_inv h7; clear h7
  obtain ⟨a6, r6, rfl, h9⟩ := asCons_inv h8; clear h8
  obtain ⟨rfl, h10⟩ := asP_inv h9; clear h9
  obtain ⟨a7, r7, rfl, h11⟩ := asCons_inv h10; clear h10
  obtain ⟨x2, rfl, h12⟩ := asD_inv h11; clear h11
  obtain ⟨a8, r8, rfl, h13⟩ := asCons_inv h12; clear h12
  obtain ⟨x3, rfl, h14⟩ := asD_inv h13; clear h13
  obtain ⟨a9, r9, rfl, h15⟩ := asCons_inv h14; clear h14
  obtain ⟨x4, rfl, h16⟩ := asD_inv h15; clear h15
  obtain ⟨a10, r10, rfl, h17⟩ := asCons_inv h16; clear h16
  obtain ⟨x5, rfl, h18⟩ := asD_inv h17; clear h17
  obtain ⟨a11, r11, rfl, h19⟩ := asCons_inv h18; clear h18
  obtain ⟨x6, rfl, h20⟩ := asD_inv h19; clear h19
  obtain ⟨a12, r12, rfl, h21⟩ := asCons_inv h20; clear h20
  obtain ⟨x7, rfl, h22⟩ := asD_inv h21; clear h21
  obtain ⟨a13, r13, rfl, h23⟩ := asCons_inv h22; clear h22
  obtain ⟨rfl, h24⟩ := asP_inv h23; clear h23
  obtain ⟨rfl, h25⟩ := asNil_inv h24; clear h24
  obtain ⟨a14, r14, rfl, h26⟩ := asCons_inv h25; clear h25
  obtain ⟨x8, rfl, h27⟩ := asRw_inv h26; clear h26
  obtain ⟨a15, r15, rfl, h28⟩ := asCons_inv h27; clear h27
  obtain ⟨x9, rfl, h29⟩ := asRw_inv h28; clear h28
  obtain ⟨rfl, h30⟩ := asNil_inv h29; clear h29
  exact ACall.spec2 (fn := Try.f24) (c := codeOf Try.f24) (S := ofL S24) (L := lofL L24) hS24 (by kernel_rfl) (by kernel_rfl) (inlOK _) (all_eq (by kernel_rfl : subsOf (E.info 24).keep (codeOf Try.f24) = []) (all_nil)) (by kernel_rfl) h30.of

abbrev Sl28r2 : List (Nat × Pat × Sp) := []
theorem hSl28r2 : SpecOK E (ofL Sl28r2) := specOK_nil
abbrev Ll28r2 : List (Nat × List Nat × Pat × LSp) := []
def lsl28r2 : LSp := fun vs σ K => asCons vs fun a1 r1 => asD (.sl (.int .i64)) a1 fun s1 => asCons r1 fun a2 r2 => asD (.int .i64) a2 fun s2 => asCons r2 fun a3 r3 => asD (.int .i64) a3 fun s3 => asCons r3 fun a4 r4 => asD (.int .i64) a4 fun s4 => asNil r4 <| asNil σ <| l28r2 (fun z1 => K .ret [(4, I z1)] []) (K (.exit 0) [(4, .undef)] []) s1 s2 s3 s4
theorem l28r2v : LoopV E (inlF (PA (ACall E)) E 8) (E.info 28).keep 0 Try.f28.ntmps 29000002 (body Try.f28 2) ([0, 1, 7, 8], lsl28r2) := by
  intro vs σ K (h0 : lsl28r2 vs σ K)
  unfold lsl28r2 at h0
  obtain ⟨a1, r1, rfl, h1⟩ := asCons_inv h0; clear h0
  obtain ⟨s1, rfl, h2⟩ := asD_inv h1; clear h1
  obtain ⟨a2, r2, rfl, h3⟩ := asCons_inv h2; clear h2
  obtain ⟨s2, rfl, h4⟩ := asD_inv h3; clear h3
  obtain ⟨a3, r3, rfl, h5⟩ := asCons_inv h4; clear h4
  obtain ⟨s3, rfl, h6⟩ := asD_inv h5; clear h5
  obtain ⟨a4, r4, rfl, h7⟩ := asCons_inv h6; clear h6
  obtain ⟨s4, rfl, h8⟩ := asD_inv h7; clear h7
  obtain ⟨rfl, h9⟩ := asNil_inv h8; clear h8
  obtain ⟨rfl, h10⟩ := asNil_inv h9; clear h9
  intro J hJ
  have hp : ∀ c' ∈ subsOf (E.info 28).keep (body Try.f28 2), SubOK E (inlF (PA (ACall E)) E 8) (E.info 28).keep 0 Try.f28.ntmps (lofL Ll28r2) c' := all_eq (by kernel_rfl : subsOf (E.info 28).keep (body Try.f28 2) = []) (all_nil)
  exact h10.of (fun s1 s2 s3 s4 => J [(29000002, .undef), (0, .d (.sl (.int .i64)) s1), (1, I s2), (7, I s3), (8, I s4)] []) (fun s1 s2 s3 s4 hb => loop_round2 (S := ofL Sl28r2) (L := lofL Ll28r2) hSl28r2 (inlOK _) hp hJ (by kernel_rfl) hb)

abbrev S28 : List (Nat × Pat × Sp) := []
theorem hS28 : SpecOK E (ofL S28) := specOK_nil
abbrev L28 : List (Nat × List Nat × Pat × LSp) := [(29000002, [0, 1, 7, 8], none, lsl28r2)]
def sp28 : Sp := fun args τ K => asCons args fun a1 r1 => asD (.sl (.int .i64)) a1 fun x1 => asCons r1 fun a2 r2 => asD (.int .i64) a2 fun x2 => asNil r2 <| asNil τ <| c28 x1 x2 (fun z1 => K (I z1) [])
theorem h28 : ∀ args τ K, sp28 args τ K → ACall E 28 args τ K := by
  intro args τ K h0
  unfold sp28 at h0
  obtain ⟨a1, r1, rfl, h1⟩ := asCons_inv h0; clear h0
  obtain ⟨x1, rfl, h2⟩ := asD_inv h1; clear h1
  obtain ⟨a2, r2, rfl, h3⟩ := asCons_inv h2; clear h2
  obtain ⟨x2, rfl, h4⟩ := asD_inv h3; clear h3
  obtain ⟨rfl, h5⟩ := asNil_inv h4; clear h4
  obtain ⟨rfl, h6⟩ := asNil_inv h5; clear h5
  exact ACall.spec2 (fn := Try.f28) (c := codeOf Try.f28) (S := ofL S28) (L := lofL L28) hS28 (by kernel_rfl) (by kernel_rfl) (inlOK _) (all_eq (by kernel_rfl : subsOf (E.info 28).keep (codeOf Try.f28) = [.loop (body Try.f28 2)]) (all_cons (loopOK_of (mk := 29000002) (sl := [0, 1, 7, 8]) (ss := [([0, 1, 7, 8], lsl28r2)]) (by kernel_rfl) (by kernel_rfl) (all_cons l28r2v (all_nil))) (all_nil))) (by kernel_rfl) h6.of

abbrev S25 : List (Nat × Pat × Sp) := [(28, none, sp28)]
theorem hS25 : SpecOK E (ofL S25) := specOK_cons h28 (specOK_nil)
abbrev L25 : List (Nat × List Nat × Pat × LSp) := []
def sp25 : Sp := fun args τ K => asCons args fun a1 r1 => asD (.sl (.int .i64)) a1 fun x1 => asCons r1 fun a2 r2 => asD (.int .i64) a2 fun x2 => asNil r2 <| asNil τ <| c25 x1 x2 (fun z1 => K (B z1) [])
theorem h25 : ∀ args τ K, sp25 args τ K → ACall E 25 args τ K := by
  intro args τ K h0
  unfold sp25 at h0
  obtain ⟨a1, r1, rfl, h1⟩ := asCons_inv h0; clear h0
  obtain ⟨x1, rfl, h2⟩ := asD_inv h1; clear h1
  obtain ⟨a2, r2, rfl, h3⟩ := asCons_inv h2; clear h2
  obtain ⟨x2, rfl, h4⟩ := asD_inv h3; clear h3
  obtain ⟨rfl, h5⟩ := asNil_inv h4; clear h4
  obtain ⟨rfl, h6⟩ := asNil_inv h5; clear h5
  exact ACall.spec2 (fn := Try.f25) (c := codeOf Try.f25) (S := ofL S25) (L := lofL L25) hS25 (by kernel_rfl) (by kernel_rfl) (inlOK _) (all_eq (by kernel_rfl : subsOf (E.info 25).keep (codeOf Try.f25) = []) (all_nil)) (by kernel_rfl) h6.of

abbrev S17 : List (Nat × Pat × Sp) := [(15, none, sp15), (24, none, sp24), (25, none, sp25)]
theorem hS17 : SpecOK E (ofL S17) := specOK_cons h15 (specOK_cons h24 (specOK_cons h25 (specOK_nil)))
abbrev L17 : List (Nat × List Nat × Pat × LSp) := []
def sp17 : Sp := fun args τ K => asCons args fun a1 r1 => asP (.ptr 0 0 []) a1 <| asCons r1 fun a2 r2 => asD (.int .i64) a2 fun x1 => asCons r2 fun a3 r3 => asD (.int .i64) a3 fun x2 => asNil r3 <| asCons τ fun a4 r4 => asOne (.pair (.sl (.int .i64)) (.pair (.int .i64) (.pair (.int .i64) (.pair (.int .i64) (.pair (.int .i64) (.pair (.int .i64) (.pair (.int .i64) (.pair (.sl (.int .i64)) .unit)))))))) a4 fun a5 => asAgL a5 fun l6 => asCons l6 fun a7 r7 => asP (.vec 1) a7 <| asCons r7 fun a8 r8 => asD (.int .i64) a8 fun x3 => asCons r8 fun a9 r9 => asD (.int .i64) a9 fun x4 => asCons r9 fun a10 r10 => asD (.int .i64) a10 fun x5 => asCons r10 fun a11 r11 => asD (.int .i64) a11 fun x6 => asCons r11 fun a12 r12 => asD (.int .i64) a12 fun x7 => asCons r12 fun a13 r13 => asD (.int .i64) a13 fun x8 => asCons r13 fun a14 r14 => asP (.vec 2) a14 <| asNil r14 <| asCons r4 fun a15 r15 => asRw (.int .i64) false a15 fun x9 => asCons r15 fun a16 r16 => asRw (.int .i64) false a16 fun x10 => asNil r16 <| c17 x1 x2 x3 x4 x5 x6 x7 x8 x9 x10 (fun z1 z2 z3 z4 z5 z6 z7 z8 => K (.tup []) [.one (.pair (.sl (.int .i64)) (.pair (.int .i64) (.pair (.int .i64) (.pair (.int .i64) (.pair (.int .i64) (.pair (.int .i64) (.pair (.int .i64) (.pair (.sl (.int .i64)) .unit)))))))) (.agg [.vec 1, I z1, I z2, I z3, I z4, I z5, I z6, .vec 3]), .row (.int .i64) z7 false, .dead, .row (.int .i64) z8 false]) (fun z1 z2 z3 z4 z5 z6 z7 z8 => K (.tup []) [.one (.pair (.sl (.int .i64)) (.pair (.int .i64) (.pair (.int .i64) (.pair (.int .i64) (.pair (.int .i64) (.pair (.int .i64) (.pair (.int .i64) (.pair (.sl (.int .i64)) .unit)))))))) (.agg [.vec 1, I z1, I z2, I z3, I z4, I z5, I z6, .vec 2]), .row (.int .i64) z7 false, .row (.int .i64) z8 false])
theorem h17 : ∀ args τ K, sp17 args τ K → ACall E 17 args τ K := by
  intro args τ K h0
  unfold sp17 at h0
  obtain ⟨a1, r1, rfl, h1⟩ := asCons_inv h0; clear h0
  obtain ⟨rfl, h2⟩ := asP_inv h1; clear h1
  obtain ⟨a2, r2, rfl, h3⟩ := asCons_inv h2; clear h2
  obtain ⟨x1, rfl, h4⟩ := asD_inv h3; clear h3
  obtain ⟨a3, r3, rfl, h5⟩ := asCons_inv h4; clear h4
  obtain ⟨x2, rfl, h6⟩ := asD_inv h5; clear h5
  obtain ⟨rfl, h7⟩ := asNil_inv h6; clear h6
  obtain ⟨a4, r4, rfl, h8⟩ := asCons_inv h7; clear h7
  obtain ⟨a5, rfl, h9⟩ := asOne_inv h8; clear h8
  obtain ⟨l6, rfl, h10⟩ := asAgL_inv h9; clear h9
  obtain ⟨a7, r7, rfl, h11⟩ := asCons_inv h10; clear h10
  obtain ⟨rfl, h12⟩ := asP_inv h11; clear h11
  obtain ⟨a8, r8, rfl, h13⟩ := asCons_inv h12; clear h12
  obtain ⟨x3, rfl, h14⟩ := asD_inv h13; clear h13
  obtain ⟨a9, r9, rfl, h15⟩ := asCons_inv h14; clear h14
  obtain ⟨x4, rfl, h16⟩ := asD_inv h15; clear h15
  obtain ⟨a10, r10, rfl, h17⟩ := asCons_inv h16; clear h16
  obtain ⟨x5, rfl, h18⟩ := asD_inv h17; clear h17
  obtain ⟨a11, r11, rfl, h19⟩ := asCons_inv h18; clear h18
  obtain ⟨x6, rfl, h20⟩ := asD_inv h19; clear h19
  obtain ⟨a12, r12, rfl, h21⟩ := asCons_inv h20; clear h20
  obtain ⟨x7, rfl, h22⟩ := asD_inv h21; clear h21
  obtain ⟨a13, r13, rfl, h23⟩ := asCons_inv h22; clear h22
  obtain ⟨x8, rfl, h24⟩ := asD_inv h23; clear h23
  obtain ⟨a14, r14, rfl, h25⟩ := asCons_inv h24; clear h24
  obtain ⟨rfl, h26⟩ := asP_inv h25; clear h25
  obtain ⟨rfl, h27⟩ := asNil_inv h26; clear h26
  obtain ⟨a15, r15, rfl, h28⟩ := asCons_inv h27; clear h27
  obtain ⟨x9, rfl, h29⟩ := asRw_inv h28; clear h28
  obtain ⟨a16, r16, rfl, h30⟩ := asCons_inv h29; clear h29
  obtain ⟨x10, rfl, h31⟩ := asRw_inv h30; clear h30
  obtain ⟨rfl, h32⟩ := asNil_inv h31; clear h31
  exact ACall.spec2 (fn := Try.f17) (c := codeOf Try.f17) (S := ofL S17) (L := lofL L17) hS17 (by kernel_rfl) (by kernel_rfl) (inlOK _) (all_eq (by kernel_rfl : subsOf (E.info 17).keep (codeOf Try.f17) = []) (all_nil)) (by kernel_rfl) h32.of

abbrev Sl7r14 : List (Nat × Pat × Sp) := [(17, none, sp17)]
theorem hSl7r14 : SpecOK E (ofL Sl7r14) := specOK_cons h17 (specOK_nil)
abbrev Ll7r14 : List (Nat × List Nat × Pat × LSp) := []
def lsl7r14 : LSp := fun vs σ K => asCons vs fun a1 r1 => asP (.ptr 0 0 []) a1 <| asCons r1 fun a2 r2 => asD (.int .i64) a2 fun s1 => asCons r2 fun a3 r3 => asD (.int .i64) a3 fun s2 => asCons r3 fun a4 r4 => asD (.int .i64) a4 fun s3 => asCons r4 fun a5 r5 => asD (.int .i64) a5 fun s4 => asNil r5 <| asCons σ fun a6 r6 => asOne (.pair (.sl (.int .i64)) (.pair (.int .i64) (.pair (.int .i64) (.pair (.int .i64) (.pair (.int .i64) (.pair (.int .i64) (.pair (.int .i64) (.pair (.sl (.int .i64)) .unit)))))))) a6 fun a7 => asAgL a7 fun l8 => asCons l8 fun a9 r9 => asP (.vec 1) a9 <| asCons r9 fun a10 r10 => asD (.int .i64) a10 fun s5 => asCons r10 fun a11 r11 => asD (.int .i64) a11 fun s6 => asCons r11 fun a12 r12 => asD (.int .i64) a12 fun s7 => asCons r12 fun a13 r13 => asD (.int .i64) a13 fun s8 => asCons r13 fun a14 r14 => asD (.int .i64) a14 fun s9 => asCons r14 fun a15 r15 => asD (.int .i64) a15 fun s10 => asCons r15 fun a16 r16 => asP (.vec 2) a16 <| asNil r16 <| asCons r6 fun a17 r17 => asRw (.int .i64) false a17 fun s11 => asCons r17 fun a18 r18 => asRw (.int .i64) false a18 fun s12 => asNil r18 <| l7r14 (fun z1 z2 z3 z4 z5 z6 z7 z8 z9 => K (.exit 1) [(11, I z1)] [.one (.pair (.sl (.int .i64)) (.pair (.int .i64) (.pair (.int .i64) (.pair (.int .i64) (.pair (.int .i64) (.pair (.int .i64) (.pair (.int .i64) (.pair (.sl (.int .i64)) .unit)))))))) (.agg [.vec 1, I z2, I z3, I z4, I z5, I z6, I z7, .vec 2]), .row (.int .i64) z8 false, .row (.int .i64) z9 false]) s1 s2 s3 s4 s5 s6 s7 s8 s9 s10 s11 s12
theorem l7r14v : LoopV E (inlF (PA (ACall E)) E 8) (E.info 7).keep 2 Try.f7.ntmps 8000014 (body Try.f7 14) ([0, 2, 3, 11, 12], lsl7r14) := by
  intro vs σ K (h0 : lsl7r14 vs σ K)
  unfold lsl7r14 at h0
  obtain ⟨a1, r1, rfl, h1⟩ := asCons_inv h0; clear h0
  obtain ⟨rfl, h2⟩ := asP_inv h1; clear h1
  obtain ⟨a2, r2, rfl, h3⟩ := asCons_inv h2; clear h2
  obtain ⟨s1, rfl, h4⟩ := asD_inv h3; clear h3
  obtain ⟨a3, r3, rfl, h5⟩ := asCons_inv h4; clear h4
  obtain ⟨s2, rfl, h6⟩ := asD_inv h5; clear h5
  obtain ⟨a4, r4, rfl, h7⟩ := asCons_inv h6; clear h6
  obtain ⟨s3, rfl, h8⟩ := asD_inv h7; clear h7
  obtain ⟨a5, r5, rfl, h9⟩ := asCons_inv h8; clear h8
  obtain ⟨s4, rfl, h10⟩ := asD_inv h9; clear h9
  obtain ⟨rfl, h11⟩ := asNil_inv h10; clear h10
  obtain ⟨a6, r6, rfl, h12⟩ := asCons_inv h11; clear h11
  obtain ⟨a7, rfl, h13⟩ := asOne_inv h12; clear h12
  obtain ⟨l8, rfl, h14⟩ := asAgL_inv h13; clear h13
  obtain ⟨a9, r9, rfl, h15⟩ := asCons_inv h14; clear h14
  obtain ⟨rfl, h16⟩ := asP_inv h15; clear h15
  obtain ⟨a10, r10, rfl, h17⟩ := asCons_inv h16; clear h16
  obtain ⟨s5, rfl, h18⟩ := asD_inv h17; clear h17
  obtain ⟨a11, r11, rfl, h19⟩ := asCons_inv h18; clear h18
  obtain ⟨s6, rfl, h20⟩ := asD_inv h19; clear h19
  obtain ⟨a12, r12, rfl, h21⟩ := asCons_inv h20; clear h20
  obtain ⟨s7, rfl, h22⟩ := asD_inv h21; clear h21
  obtain ⟨a13, r13, rfl, h23⟩ := asCons_inv h22; clear h22
  obtain ⟨s8, rfl, h24⟩ := asD_inv h23; clear h23
  obtain ⟨a14, r14, rfl, h25⟩ := asCons_inv h24; clear h24
  obtain ⟨s9, rfl, h26⟩ := asD_inv h25; clear h25
  obtain ⟨a15, r15, rfl, h27⟩ := asCons_inv h26; clear h26
  obtain ⟨s10, rfl, h28⟩ := asD_inv h27; clear h27
  obtain ⟨a16, r16, rfl, h29⟩ := asCons_inv h28; clear h28
  obtain ⟨rfl, h30⟩ := asP_inv h29; clear h29
  obtain ⟨rfl, h31⟩ := asNil_inv h30; clear h30
  obtain ⟨a17, r17, rfl, h32⟩ := asCons_inv h31; clear h31
  obtain ⟨s11, rfl, h33⟩ := asRw_inv h32; clear h32
  obtain ⟨a18, r18, rfl, h34⟩ := asCons_inv h33; clear h33
  obtain ⟨s12, rfl, h35⟩ := asRw_inv h34; clear h34
  obtain ⟨rfl, h36⟩ := asNil_inv h35; clear h35
  intro J hJ
  have hp : ∀ c' ∈ subsOf (E.info 7).keep (body Try.f7 14), SubOK E (inlF (PA (ACall E)) E 8) (E.info 7).keep 2 Try.f7.ntmps (lofL Ll7r14) c' := all_eq (by kernel_rfl : subsOf (E.info 7).keep (body Try.f7 14) = []) (all_nil)
  exact h36.of (fun s1 s2 s3 s4 s5 s6 s7 s8 s9 s10 s11 s12 => J [(8000014, .undef), (0, .ptr 0 0 []), (2, I s1), (3, I s2), (11, I s3), (12, I s4)] [.one (.pair (.sl (.int .i64)) (.pair (.int .i64) (.pair (.int .i64) (.pair (.int .i64) (.pair (.int .i64) (.pair (.int .i64) (.pair (.int .i64) (.pair (.sl (.int .i64)) .unit)))))))) (.agg [.vec 1, I s5, I s6, I s7, I s8, I s9, I s10, .vec 2]), .row (.int .i64) s11 false, .row (.int .i64) s12 false]) (fun s1 s2 s3 s4 s5 s6 s7 s8 s9 s10 s11 s12 hb => loop_round2 (S := ofL Sl7r14) (L := lofL Ll7r14) hSl7r14 (inlOK _) hp hJ (by kernel_rfl) hb)

abbrev S7 : List (Nat × Pat × Sp) := [(15, none, sp15), (8, none, sp8), (16, none, sp16)]
theorem hS7 : SpecOK E (ofL S7) := specOK_cons h15 (specOK_cons h8 (specOK_cons h16 (specOK_nil)))
abbrev L7 : List (Nat × List Nat × Pat × LSp) := [(8000014, [0, 2, 3, 11, 12], none, lsl7r14)]
def sp7 : Sp := fun args τ K => asCons args fun a1 r1 => asP (.ptr 0 0 []) a1 <| asCons r1 fun a2 r2 => asD (.int .i64) a2 fun x1 => asCons r2 fun a3 r3 => asD (.int .i64) a3 fun x2 => asCons r3 fun a4 r4 => asD (.int .i64) a4 fun x3 => asNil r4 <| asCons τ fun a5 r5 => asOne (.pair (.sl (.int .i64)) (.pair (.int .i64) (.pair (.int .i64) (.pair (.int .i64) (.pair (.int .i64) (.pair (.int .i64) (.pair (.int .i64) (.pair (.sl (.int .i64)) .unit)))))))) a5 fun a6 => asAgL a6 fun l7 => asCons l7 fun a8 r8 => asP (.vec 1) a8 <| asCons r8 fun a9 r9 => asD (.int .i64) a9 fun x4 => asCons r9 fun a10 r10 => asD (.int .i64) a10 fun x5 => asCons r10 fun a11 r11 => asD (.int .i64) a11 fun x6 => asCons r11 fun a12 r12 => asD (.int .i64) a12 fun x7 => asCons r12 fun a13 r13 => asD (.int .i64) a13 fun x8 => asCons r13 fun a14 r14 => asD (.int .i64) a14 fun x9 => asCons r14 fun a15 r15 => asP (.nils (.int .i64)) a15 <| asNil r15 <| asCons r5 fun a16 r16 => asRw (.int .i64) false a16 fun x10 => asNil r16 <| c7 x1 x2 x3 x4 x5 x6 x7 x8 x9 x10 (fun z1 z2 z3 z4 z5 z6 z7 z8 z9 => K (.tup [I z1, I z2]) [.one (.pair (.sl (.int .i64)) (.pair (.int .i64) (.pair (.int .i64) (.pair (.int .i64) (.pair (.int .i64) (.pair (.int .i64) (.pair (.int .i64) (.pair (.sl (.int .i64)) .unit)))))))) (.agg [.vec 1, I z3, I z4, I z5, I z6, I z7, I z8, .nils (.int .i64)]), .row (.int .i64) z9 false]) (fun z1 z2 z3 z4 z5 z6 z7 z8 z9 z10 => K (.tup [I z1, I z2]) [.one (.pair (.sl (.int .i64)) (.pair (.int .i64) (.pair (.int .i64) (.pair (.int .i64) (.pair (.int .i64) (.pair (.int .i64) (.pair (.int .i64) (.pair (.sl (.int .i64)) .unit)))))))) (.agg [.vec 1, I z3, I z4, I z5, I z6, I z7, I z8, .vec 2]), .row (.int .i64) z9 false, .row (.int .i64) z10 false])
theorem h7 : ∀ args τ K, sp7 args τ K → ACall E 7 args τ K := by
  intro args τ K h0
  unfold sp7 at h0
  obtain ⟨a1, r1, rfl, h1⟩ := asCons_inv h0; clear h0
  obtain ⟨rfl, h2⟩ := asP_inv h1; clear h1
  obtain ⟨a2, r2, rfl, h3⟩ := asCons_inv h2; clear h2
  obtain ⟨x1, rfl, h4⟩ := asD_inv h3; clear h3
  obtain ⟨a3, r3, rfl, h5⟩ := asCons_inv h4; clear h4
  obtain ⟨x2, rfl, h6⟩ := asD_inv h5; clear h5
  obtain ⟨a4, r4, rfl, h7⟩ := asCons_inv h6; clear h6
  obtain ⟨x3, rfl, h8⟩ := asD_inv h7; clear h7
  obtain ⟨rfl, h9⟩ := asNil_inv h8; clear h8
  obtain ⟨a5, r5, rfl, h10⟩ := asCons_inv h9; clear h9
  obtain ⟨a6, rfl, h11⟩ := asOne_inv h10; clear h10
  obtain ⟨l7, rfl, h12⟩ := asAgL_inv h11; clear h11
  obtain ⟨a8, r8, rfl, h13⟩ := asCons_inv h12; clear h12
  obtain ⟨rfl, h14⟩ := asP_inv h13; clear h13
  obtain ⟨a9, r9, rfl, h15⟩ := asCons_inv h14; clear h14
  obtain ⟨x4, rfl, h16⟩ := asD_inv h15; clear h15
  obtain ⟨a10, r10, rfl, h17⟩ := asCons_inv h16; clear h16
  obtain ⟨x5, rfl, h18⟩ := asD_inv h17; clear h17
  obtain ⟨a11, r11, rfl, h19⟩ := asCons_inv h18; clear h18
  obtain ⟨x6, rfl, h20⟩ := asD_inv h19; clear h19
  obtain ⟨a12, r12, rfl, h21⟩ := asCons_inv h20; clear h20
  obtain ⟨x7, rfl, h22⟩ := asD_inv h21; clear h21
  obtain ⟨a13, r13, rfl, h23⟩ := asCons_inv h22; clear h22
  obtain ⟨x8, rfl, h24⟩ := asD_inv h23; clear h23
  obtain ⟨a14, r14, rfl, h25⟩ := asCons_inv h24; clear h24
  obtain ⟨x9, rfl, h26⟩ := asD_inv h25; clear h25
  obtain ⟨a15, r15, rfl, h27⟩ := asCons_inv h26; clear h26
  obtain ⟨rfl, h28⟩ := asP_inv h27; clear h27
  obtain ⟨rfl, h29⟩ := asNil_inv h28; clear h28
  obtain ⟨a16, r16, rfl, h30⟩ := asCons_inv h29; clear h29
  obtain ⟨x10, rfl, h31⟩ := asRw_inv h30; clear h30
  obtain ⟨rfl, h32⟩ := asNil_inv h31; clear h31
  exact ACall.spec2 (fn := Try.f7) (c := codeOf Try.f7) (S := ofL S7) (L := lofL L7) hS7 (by kernel_rfl) (by kernel_rfl) (inlOK _) (all_eq (by kernel_rfl : subsOf (E.info 7).keep (codeOf Try.f7) = [.loop (body Try.f7 14)]) (all_cons (loopOK_of (mk := 8000014) (sl := [0, 2, 3, 11, 12]) (ss := [([0, 2, 3, 11, 12], lsl7r14)]) (by kernel_rfl) (by kernel_rfl) (all_cons l7r14v (all_nil))) (all_nil))) (by kernel_rfl) h32.of

abbrev S21 : List (Nat × Pat × Sp) := [(15, none, sp15)]
theorem hS21 : SpecOK E (ofL S21) := specOK_cons h15 (specOK_nil)
abbrev L21 : List (Nat × List Nat × Pat × LSp) := []
def sp21 : Sp := fun args τ K => asCons args fun a1 r1 => asD (.int .i64) a1 fun x1 => asNil r1 <| asNil τ <| c21 x1 (fun z1 z2 z3 => K (.tup [I z1, I z2, B z3]) [])
theorem h21 : ∀ args τ K, sp21 args τ K → ACall E 21 args τ K := by
  intro args τ K h0
  unfold sp21 at h0
  obtain ⟨a1, r1, rfl, h1⟩ := asCons_inv h0; clear h0
  obtain ⟨x1, rfl, h2⟩ := asD_inv h1; clear h1
  obtain ⟨rfl, h3⟩ := asNil_inv h2; clear h2
  obtain ⟨rfl, h4⟩ := asNil_inv h3; clear h3
  exact ACall.spec2 (fn := Try.f21) (c := codeOf Try.f21) (S := ofL S21) (L := lofL L21) hS21 (by kernel_rfl) (by kernel_rfl) (inlOK _) (all_eq (by kernel_rfl : subsOf (E.info 21).keep (codeOf Try.f21) = []) (all_nil)) (by kernel_rfl) h4.of

abbrev S20 : List (Nat × Pat × Sp) := [(21, none, sp21)]
theorem hS20 : SpecOK E (ofL S20) := specOK_cons h21 (specOK_nil)
abbrev L20 : List (Nat × List Nat × Pat × LSp) := []
def sp20 : Sp := fun args τ K => asCons args fun a1 r1 => asP (.ptr 0 0 []) a1 <| asCons r1 fun a2 r2 => asD (.int .i64) a2 fun x1 => asNil r2 <| asCons τ fun a3 r3 => asOne (.pair (.sl (.int .i64)) (.pair (.int .i64) (.pair (.int .i64) (.pair (.int .i64) (.pair (.int .i64) (.pair (.int .i64) (.pair (.int .i64) (.pair (.sl (.int .i64)) .unit)))))))) a3 fun a4 => asAgL a4 fun l5 => asCons l5 fun a6 r6 => asP (.vec 1) a6 <| asCons r6 fun a7 r7 => asD (.int .i64) a7 fun x2 => asCons r7 fun a8 r8 => asD (.int .i64) a8 fun x3 => asCons r8 fun a9 r9 => asD (.int .i64) a9 fun x4 => asCons r9 fun a10 r10 => asD (.int .i64) a10 fun x5 => asCons r10 fun a11 r11 => asD (.int .i64) a11 fun x6 => asCons r11 fun a12 r12 => asD (.int .i64) a12 fun x7 => asCons r12 fun a13 r13 => asP (.nils (.int .i64)) a13 <| asNil r13 <| asCons r3 fun a14 r14 => asRw (.int .i64) false a14 fun x8 => asNil r14 <| c20 x1 x2 x3 x4 x5 x6 x7 x8 (fun z1 z2 z3 z4 z5 z6 z7 z8 => K (I z1) [.one (.pair (.sl (.int .i64)) (.pair (.int .i64) (.pair (.int .i64) (.pair (.int .i64) (.pair (.int .i64) (.pair (.int .i64) (.pair (.int .i64) (.pair (.sl (.int .i64)) .unit)))))))) (.agg [.vec 1, I z2, I z3, I z4, I z5, I z6, I z7, .nils (.int .i64)]), .row (.int .i64) z8 false])
theorem h20 : ∀ args τ K, sp20 args τ K → ACall E 20 args τ K := by
  intro args τ K h0
  unfold sp20 at h0
  obtain ⟨a1, r1, rfl, h1⟩ := asCons_inv h0; clear h0
  obtain ⟨rfl, h2⟩ := asP_inv h1; clear h1
  obtain ⟨a2, r2, rfl, h3⟩ := asCons_inv h2; clear h2
  obtain ⟨x1, rfl, h4⟩ := asD_inv h3; clear h3
  obtain ⟨rfl, h5⟩ := asNil_inv h4; clear h4
  obtain ⟨a3, r3, rfl, h6⟩ := asCons_inv h5; clear h5
  obtain ⟨a4, rfl, h7⟩ := asOne_inv h6; clear h6
  obtain ⟨l5, rfl, h8⟩ := asAgL_inv h7; clear h7
  obtain ⟨a6, r6, rfl, h9⟩ := asCons_inv h8; clear h8
  obtain ⟨rfl, h10⟩ := asP_inv h9; clear h9
  obtain ⟨a7, r7, rfl, h11⟩ := asCons_inv h10; clear h10
  obtain ⟨x2, rfl, h12⟩ := asD_inv h11; clear h11
  obtain ⟨a8, r8, rfl, h13⟩ := asCons_inv h12; clear h12
  obtain ⟨x3, rfl, h14⟩ := asD_inv h13; clear h13
  obtain ⟨a9, r9, rfl, h15⟩ := asCons_inv h14; clear h14
  obtain ⟨x4, rfl, h16⟩ := asD_inv h15; clear h15
  obtain ⟨a10, r10, rfl, h17⟩ := asCons_inv h16; clear h16
  obtain ⟨x5, rfl, h18⟩ := asD_inv h17; clear h17
  obtain ⟨a11, r11, rfl, h19⟩ := asCons_inv h18; clear h18
  obtain ⟨x6, rfl, h20⟩ := asD_inv h19; clear h19
  obtain ⟨a12, r12, rfl, h21⟩ := asCons_inv h20; clear h20
  obtain ⟨x7, rfl, h22⟩ := asD_inv h21; clear h21
  obtain ⟨a13, r13, rfl, h23⟩ := asCons_inv h22; clear h22
  obtain ⟨rfl, h24⟩ := asP_inv h23; clear h23
  obtain ⟨rfl, h25⟩ := asNil_inv h24; clear h24
  obtain ⟨a14, r14, rfl, h26⟩ := asCons_inv h25; clear h25
  obtain ⟨x8, rfl, h27⟩ := asRw_inv h26; clear h26
  obtain ⟨rfl, h28⟩ := asNil_inv h27; clear h27
  exact ACall.spec2 (fn := Try.f20) (c := codeOf Try.f20) (S := ofL S20) (L := lofL L20) hS20 (by kernel_rfl) (by kernel_rfl) (inlOK _) (all_eq (by kernel_rfl : subsOf (E.info 20).keep (codeOf Try.f20) = []) (all_nil)) (by kernel_rfl) h28.of

abbrev S11 : List (Nat × Pat × Sp) := [(20, none, sp20), (21, none, sp21)]
theorem hS11 : SpecOK E (ofL S11) := specOK_cons h20 (specOK_cons h21 (specOK_nil))
abbrev L11 : List (Nat × List Nat × Pat × LSp) := []
def sp11 : Sp := fun args τ K => asCons args fun a1 r1 => asP (.ptr 0 0 []) a1 <| asCons r1 fun a2 r2 => asD (.int .i64) a2 fun x1 => asNil r2 <| asCons τ fun a3 r3 => asOne (.pair (.sl (.int .i64)) (.pair (.int .i64) (.pair (.int .i64) (.pair (.int .i64) (.pair (.int .i64) (.pair (.int .i64) (.pair (.int .i64) (.pair (.sl (.int .i64)) .unit)))))))) a3 fun a4 => asAgL a4 fun l5 => asCons l5 fun a6 r6 => asP (.vec 1) a6 <| asCons r6 fun a7 r7 => asD (.int .i64) a7 fun x2 => asCons r7 fun a8 r8 => asD (.int .i64) a8 fun x3 => asCons r8 fun a9 r9 => asD (.int .i64) a9 fun x4 => asCons r9 fun a10 r10 => asD (.int .i64) a10 fun x5 => asCons r10 fun a11 r11 => asD (.int .i64) a11 fun x6 => asCons r11 fun a12 r12 => asD (.int .i64) a12 fun x7 => asCons r12 fun a13 r13 => asP (.nils (.int .i64)) a13 <| asNil r13 <| asCons r3 fun a14 r14 => asRw (.int .i64) false a14 fun x8 => asNil r14 <| c11 x1 x2 x3 x4 x5 x6 x7 x8 (fun z1 z2 z3 z4 z5 z6 z7 z8 z9 z10 => K (.tup [I z1, I z2, I z3]) [.one (.pair (.sl (.int .i64)) (.pair (.int .i64) (.pair (.int .i64) (.pair (.int .i64) (.pair (.int .i64) (.pair (.int .i64) (.pair (.int .i64) (.pair (.sl (.int .i64)) .unit)))))))) (.agg [.vec 1, I z4, I z5, I z6, I z7, I z8, I z9, .nils (.int .i64)]), .row (.int .i64) z10 false])
theorem h11 : ∀ args τ K, sp11 args τ K → ACall E 11 args τ K := by
  intro args τ K h0
  unfold sp11 at h0
  obtain ⟨a1, r1, rfl, h1⟩ := asCons_inv h0; clear h0
  obtain ⟨rfl, h2⟩ := asP_inv h1; clear h1
  obtain ⟨a2, r2, rfl, h3⟩ := asCons_inv h2; clear h2
  obtain ⟨x1, rfl, h4⟩ := asD_inv h3; clear h3
  obtain ⟨rfl, h5⟩ := asNil_inv h4; clear h4
  obtain ⟨a3, r3, rfl, h6⟩ := asCons_inv h5; clear h5
  obtain ⟨a4, rfl, h7⟩ := asOne_inv h6; clear h6
  obtain ⟨l5, rfl, h8⟩ := asAgL_inv h7; clear h7
  obtain ⟨a6, r6, rfl, h9⟩ := asCons_inv h8; clear h8
  obtain ⟨rfl, h10⟩ := asP_inv h9; clear h9
  obtain ⟨a7, r7, rfl, h11⟩ := asCons_inv h10; clear h10
  obtain ⟨x2, rfl, h12⟩ := asD_inv h11; clear h11
  obtain ⟨a8, r8, rfl, h13⟩ := asCons_inv h12; clear h12
  obtain ⟨x3, rfl, h14⟩ := asD_inv h13; clear h13
  obtain ⟨a9, r9, rfl, h15⟩ := asCons_inv h14; clear h14
  obtain ⟨x4, rfl, h16⟩ := asD_inv h15; clear h15
  obtain ⟨a10, r10, rfl, h17⟩ := asCons_inv h16; clear h16
  obtain ⟨x5, rfl, h18⟩ := asD_inv h17; clear h17
  obtain ⟨a11, r11, rfl, h19⟩ := asCons_inv h18; clear h18
  obtain ⟨x6, rfl, h20⟩ := asD_inv h19; clear h19
  obtain ⟨a12, r12, rfl, h21⟩ := asCons_inv h20; clear h20
  obtain ⟨x7, rfl, h22⟩ := asD_inv h21; clear h21
  obtain ⟨a13, r13, rfl, h23⟩ := asCons_inv h22; clear h22
  obtain ⟨rfl, h24⟩ := asP_inv h23; clear h23
  obtain ⟨rfl, h25⟩ := asNil_inv h24; clear h24
  obtain ⟨a14, r14, rfl, h26⟩ := asCons_inv h25; clear h25
  obtain ⟨x8, rfl, h27⟩ := asRw_inv h26; clear h26
  obtain ⟨rfl, h28⟩ := asNil_inv h27; clear h27
  exact ACall.spec2 (fn := Try.f11) (c := codeOf Try.f11) (S := ofL S11) (L := lofL L11) hS11 (by kernel_rfl) (by kernel_rfl) (inlOK _) (all_eq (by kernel_rfl : subsOf (E.info 11).keep (codeOf Try.f11) = []) (all_nil)) (by kernel_rfl) h28.of

abbrev S20v2 : List (Nat × Pat × Sp) := [(21, none, sp21)]
theorem hS20v2 : SpecOK E (ofL S20v2) := specOK_cons h21 (specOK_nil)
abbrev L20v2 : List (Nat × List Nat × Pat × LSp) := []
def sp20v2 : Sp := fun args τ K => asCons args fun a1 r1 => asP (.ptr 0 0 []) a1 <| asCons r1 fun a2 r2 => asD (.int .i64) a2 fun x1 => asNil r2 <| asCons τ fun a3 r3 => asOne (.pair (.sl (.int .i64)) (.pair (.int .i64) (.pair (.int .i64) (.pair (.int .i64) (.pair (.int .i64) (.pair (.int .i64) (.pair (.int .i64) (.pair (.sl (.int .i64)) .unit)))))))) a3 fun a4 => asAgL a4 fun l5 => asCons l5 fun a6 r6 => asP (.vec 1) a6 <| asCons r6 fun a7 r7 => asD (.int .i64) a7 fun x2 => asCons r7 fun a8 r8 => asD (.int .i64) a8 fun x3 => asCons r8 fun a9 r9 => asD (.int .i64) a9 fun x4 => asCons r9 fun a10 r10 => asD (.int .i64) a10 fun x5 => asCons r10 fun a11 r11 => asD (.int .i64) a11 fun x6 => asCons r11 fun a12 r12 => asD (.int .i64) a12 fun x7 => asCons r12 fun a13 r13 => asP (.vec 2) a13 <| asNil r13 <| asCons r3 fun a14 r14 => asRw (.int .i64) false a14 fun x8 => asCons r14 fun a15 r15 => asRw (.int .i64) false a15 fun x9 => asNil r15 <| c20v2 x1 x2 x3 x4 x5 x6 x7 x8 x9 (fun z1 z2 z3 z4 z5 z6 z7 z8 z9 => K (I z1) [.one (.pair (.sl (.int .i64)) (.pair (.int .i64) (.pair (.int .i64) (.pair (.int .i64) (.pair (.int .i64) (.pair (.int .i64) (.pair (.int .i64) (.pair (.sl (.int .i64)) .unit)))))))) (.agg [.vec 1, I z2, I z3, I z4, I z5, I z6, I z7, .vec 2]), .row (.int .i64) z8 false, .row (.int .i64) z9 false])
theorem h20v2 : ∀ args τ K, sp20v2 args τ K → ACall E 20 args τ K := by
  intro args τ K h0
  unfold sp20v2 at h0
  obtain ⟨a1, r1, rfl, h1⟩ := asCons_inv h0; clear h0
  obtain ⟨rfl, h2⟩ := asP_inv h1; clear h1
  obtain ⟨a2, r2, rfl, h3⟩ := asCons_inv h2; clear h2
  obtain ⟨x1, rfl, h4⟩ := asD_inv h3; clear h3
  obtain ⟨rfl, h5⟩ := asNil_inv h4; clear h4
  obtain ⟨a3, r3, rfl, h6⟩ := asCons_inv h5; clear h5
  obtain ⟨a4, rfl, h7⟩ := asOne_inv h6; clear h6
  obtain ⟨l5, rfl, h8⟩ := asAgL_inv h7; clear h7
  obtain ⟨a6, r6, rfl, h9⟩ := asCons_inv h8; clear h8
  obtain ⟨rfl, h10⟩ := asP_inv h9; clear h9
  obtain ⟨a7, r7, rfl, h11⟩ := asCons_inv h10; clear h10
  obtain ⟨x2, rfl, h12⟩ := asD_inv h11; clear h11
  obtain ⟨a8, r8, rfl, h13⟩ := asCons_inv h12; clear h12
  obtain ⟨x3, rfl, h14⟩ := asD_inv h13; clear h13
  obtain ⟨a9, r9, rfl, h15⟩ := asCons_inv h14; clear h14
  obtain ⟨x4, rfl, h16⟩ := asD_inv h15; clear h15
  obtain ⟨a10, r10, rfl, h17⟩ := asCons_inv h16; clear h16
  obtain ⟨x5, rfl, h18⟩ := asD_inv h17; clear h17
  obtain ⟨a11, r11, rfl, h19⟩ := asCons_inv h18; clear h18
  obtain ⟨x6, rfl, h20⟩ := asD_inv h19; clear h19
  obtain ⟨a12, r12, rfl, h21⟩ := asCons_inv h20; clear h20
  obtain ⟨x7, rfl, h22⟩ := asD_inv h21; clear h21
  obtain ⟨a13, r13, rfl, h23⟩ := asCons_inv h22; clear h22
  obtain ⟨rfl, h24⟩ := asP_inv h23; clear h23
  obtain ⟨rfl, h25⟩ := asNil_inv h24; clear h24
  obtain ⟨a14, r14, rfl, h26⟩ := asCons_inv h25; clear h25
  obtain ⟨x8, rfl, h27⟩ := asRw_inv h26; clear h26
  obtain ⟨a15, r15, rfl, h28⟩ := asCons_inv h27; clear h27
  obtain ⟨x9, rfl, h29⟩ := asRw_inv h28; clear h28
  obtain ⟨rfl, h30⟩ := asNil_inv h29; clear h29
  exact ACall.spec2 (fn := Try.f20) (c := codeOf Try.f20) (S := ofL S20v2) (L := lofL L20v2) hS20v2 (by kernel_rfl) (by kernel_rfl) (inlOK _) (all_eq (by kernel_rfl : subsOf (E.info 20).keep (codeOf Try.f20) = []) (all_nil)) (by kernel_rfl) h30.of

abbrev S11v2 : List (Nat × Pat × Sp) := [(20, none, sp20v2), (21, none, sp21)]
theorem hS11v2 : SpecOK E (ofL S11v2) := specOK_cons h20v2 (specOK_cons h21 (specOK_nil))
abbrev L11v2 : List (Nat × List Nat × Pat × LSp) := []
def sp11v2 : Sp := fun args τ K => asCons args fun a1 r1 => asP (.ptr 0 0 []) a1 <| asCons r1 fun a2 r2 => asD (.int .i64) a2 fun x1 => asNil r2 <| asCons τ fun a3 r3 => asOne (.pair (.sl (.int .i64)) (.pair (.int .i64) (.pair (.int .i64) (.pair (.int .i64) (.pair (.int .i64) (.pair (.int .i64) (.pair (.int .i64) (.pair (.sl (.int .i64)) .unit)))))))) a3 fun a4 => asAgL a4 fun l5 => asCons l5 fun a6 r6 => asP (.vec 1) a6 <| asCons r6 fun a7 r7 => asD (.int .i64) a7 fun x2 => asCons r7 fun a8 r8 => asD (.int .i64) a8 fun x3 => asCons r8 fun a9 r9 => asD (.int .i64) a9 fun x4 => asCons r9 fun a10 r10 => asD (.int .i64) a10 fun x5 => asCons r10 fun a11 r11 => asD (.int .i64) a11 fun x6 => asCons r11 fun a12 r12 => asD (.int .i64) a12 fun x7 => asCons r12 fun a13 r13 => asP (.vec 2) a13 <| asNil r13 <| asCons r3 fun a14 r14 => asRw (.int .i64) false a14 fun x8 => asCons r14 fun a15 r15 => asRw (.int .i64) false a15 fun x9 => asNil r15 <| c11v2 x1 x2 x3 x4 x5 x6 x7 x8 x9 (fun z1 z2 z3 z4 z5 z6 z7 z8 z9 z10 z11 => K (.tup [I z1, I z2, I z3]) [.one (.pair (.sl (.int .i64)) (.pair (.int .i64) (.pair (.int .i64) (.pair (.int .i64) (.pair (.int .i64) (.pair (.int .i64) (.pair (.int .i64) (.pair (.sl (.int .i64)) .unit)))))))) (.agg [.vec 1, I z4, I z5, I z6, I z7, I z8, I z9, .vec 2]), .row (.int .i64) z10 false, .row (.int .i64) z11 false])
theorem h11v2 : ∀ args τ K, sp11v2 args τ K → ACall E 11 args τ K := by
  intro args τ K h0
  unfold sp11v2 at h0
  obtain ⟨a1, r1, rfl, h1⟩ := asCons_inv h0; clear h0
  obtain ⟨rfl, h2⟩ := asP_inv h1; clear h1
  obtain ⟨a2, r2, rfl, h3⟩ := asCons_inv h2; clear h2
  obtain ⟨x1, rfl, h4⟩ := asD_inv h3; clear h3
  obtain ⟨rfl, h5⟩ := asNil_inv h4; clear h4
  obtain ⟨a3, r3, rfl, h6⟩ := asCons_inv h5; clear h5
  obtain ⟨a4, rfl, h7⟩ := asOne_inv h6; clear h6
  obtain ⟨l5, rfl, h8⟩ := asAgL_inv h7; clear h7
  obtain ⟨a6, r6, rfl, h9⟩ := asCons_inv h8; clear h8
  obtain ⟨rfl, h10⟩ := asP_inv h9; clear h9
  obtain ⟨a7, r7, rfl, h11⟩ := asCons_inv h10; clear h10
  obtain ⟨x2, rfl, h12⟩ := asD_inv h11; clear h11
  obtain ⟨a8, r8, rfl, h13⟩ := asCons_inv h12; clear h12
  obtain ⟨x3, rfl, h14⟩ := asD_inv h13; clear h13
  obtain ⟨a9, r9, rfl, h15⟩ := asCons_inv h14; clear h14
  obtain ⟨x4, rfl, h16⟩ := asD_inv h15; clear h15
  obtain ⟨a10, r10, rfl, h17⟩ := asCons_inv h16; clear h16
  obtain ⟨x5, rfl, h18⟩ := asD_inv h17; clear h17
  obtain ⟨a11, r11, rfl, h19⟩ := asCons_inv h18; clear h18
  obtain ⟨x6, rfl, h20⟩ := asD_inv h19; clear h19
  obtain ⟨a12, r12, rfl, h21⟩ := asCons_inv h20; clear h20
  obtain ⟨x7, rfl, h22⟩ := asD_inv h21; clear h21
  obtain ⟨a13, r13, rfl, h23⟩ := asCons_inv h22; clear h22
  obtain ⟨rfl, h24⟩ := asP_inv h23; clear h23
  obtain ⟨rfl, h25⟩ := asNil_inv h24; clear h24
  obtain ⟨a14, r14, rfl, h26⟩ := asCons_inv h25; clear h25
  obtain ⟨x8, rfl, h27⟩ := asRw_inv h26; clear h26
  obtain ⟨a15, r15, rfl, h28⟩ := asCons_inv h27; clear h27
  obtain ⟨x9, rfl, h29⟩ := asRw_inv h28; clear h28
  obtain ⟨rfl, h30⟩ := asNil_inv h29; clear h29
  exact ACall.spec2 (fn := Try.f11) (c := codeOf Try.f11) (S := ofL S11v2) (L := lofL L11v2) hS11v2 (by kernel_rfl) (by kernel_rfl) (inlOK _) (all_eq (by kernel_rfl : subsOf (E.info 11).keep (codeOf Try.f11) = []) (all_nil)) (by kernel_rfl) h30.of

abbrev S6 : List (Nat × Pat × Sp) := [(5, none, sp5), (7, none, sp7), (11, some ([.fix (.ptr 0 0 []), .d (.int .i64)], [.one (.pair (.sl (.int .i64)) (.pair (.int .i64) (.pair (.int .i64) (.pair (.int .i64) (.pair (.int .i64) (.pair (.int .i64) (.pair (.int .i64) (.pair (.sl (.int .i64)) .unit)))))))) (.agg [.fix (.vec 1), .d (.int .i64), .d (.int .i64), .d (.int .i64), .d (.int .i64), .d (.int .i64), .d (.int .i64), .fix (.nils (.int .i64))]), .row (.int .i64) false]), sp11), (11, some ([.fix (.ptr 0 0 []), .d (.int .i64)], [.one (.pair (.sl (.int .i64)) (.pair (.int .i64) (.pair (.int .i64) (.pair (.int .i64) (.pair (.int .i64) (.pair (.int .i64) (.pair (.int .i64) (.pair (.sl (.int .i64)) .unit)))))))) (.agg [.fix (.vec 1), .d (.int .i64), .d (.int .i64), .d (.int .i64), .d (.int .i64), .d (.int .i64), .d (.int .i64), .fix (.vec 2)]), .row (.int .i64) false, .row (.int .i64) false]), sp11v2)]
theorem hS6 : SpecOK E (ofL S6) := specOK_cons h5 (specOK_cons h7 (specOK_cons h11 (specOK_cons h11v2 (specOK_nil))))
abbrev L6 : List (Nat × List Nat × Pat × LSp) := []
def sp6 : Sp := fun args τ K => asNil args <| asNil τ <| c6  (fun z1 => K (B z1) [])
theorem h6 : ∀ args τ K, sp6 args τ K → ACall E 6 args τ K := by
  intro args τ K h0
  unfold sp6 at h0
  obtain ⟨rfl, h1⟩ := asNil_inv h0; clear h0
  obtain ⟨rfl, h2⟩ := asNil_inv h1; clear h1
  exact ACall.spec2 (fn := Try.f6) (c := codeOf Try.f6) (S := ofL S6) (L := lofL L6) hS6 (by kernel_rfl) (by kernel_rfl) (inlOK _) (all_eq (by kernel_rfl : subsOf (E.info 6).keep (codeOf Try.f6) = []) (all_nil)) (by kernel_rfl) h2.of

abbrev S8v2 : List (Nat × Pat × Sp) := []
theorem hS8v2 : SpecOK E (ofL S8v2) := specOK_nil
abbrev L8v2 : List (Nat × List Nat × Pat × LSp) := []
def sp8v2 : Sp := fun args τ K => asCons args fun a1 r1 => asP (.ptr 0 0 []) a1 <| asCons r1 fun a2 r2 => asD (.int .i64) a2 fun x1 => asNil r2 <| asCons τ fun a3 r3 => asOne (.pair (.sl (.int .i64)) (.pair (.int .i64) (.pair (.int .i64) (.pair (.int .i64) (.pair (.int .i64) (.pair (.int .i64) (.pair (.int .i64) (.pair (.sl (.int .i64)) .unit)))))))) a3 fun a4 => asAgL a4 fun l5 => asCons l5 fun a6 r6 => asP (.vec 1) a6 <| asCons r6 fun a7 r7 => asD (.int .i64) a7 fun x2 => asCons r7 fun a8 r8 => asD (.int .i64) a8 fun x3 => asCons r8 fun a9 r9 => asD (.int .i64) a9 fun x4 => asCons r9 fun a10 r10 => asD (.int .i64) a10 fun x5 => asCons r10 fun a11 r11 => asD (.int .i64) a11 fun x6 => asCons r11 fun a12 r12 => asD (.int .i64) a12 fun x7 => asCons r12 fun a13 r13 => asP (.vec 2) a13 <| asNil r13 <| asCons r3 fun a14 r14 => asRw (.int .i64) false a14 fun x8 => asCons r14 fun a15 r15 => asRw (.int .i64) false a15 fun x9 => asNil r15 <| c8v2 x1 x2 x3 x4 x5 x6 x7 x8 x9 (fun z1 z2 z3 z4 z5 z6 z7 z8 z9 => K (B z1) [.one (.pair (.sl (.int .i64)) (.pair (.int .i64) (.pair (.int .i64) (.pair (.int .i64) (.pair (.int .i64) (.pair (.int .i64) (.pair (.int .i64) (.pair (.sl (.int .i64)) .unit)))))))) (.agg [.vec 1, I z2, I z3, I z4, I z5, I z6, I z7, .vec 2]), .row (.int .i64) z8 false, .row (.int .i64) z9 false])
theorem h8v2 : ∀ args τ K, sp8v2 args τ K → ACall E 8 args τ K := by
  intro args τ K h0
  unfold sp8v2 at h0
  obtain ⟨a1, r1, rfl, h1⟩ := asCons_inv h0; clear h0
  obtain ⟨rfl, h2⟩ := asP_inv h1; clear h1
  obtain ⟨a2, r2, rfl, h3⟩ := asCons_inv h2; clear h2
  obtain ⟨x1, rfl, h4⟩ := asD_inv h3; clear h3
  obtain ⟨rfl, h5⟩ := asNil_inv h4; clear h4
  obtain ⟨a3, r3, rfl, h6⟩ := asCons_inv h5; clear h5
  obtain ⟨a4, rfl, h7⟩ := asOne_inv h6; clear h6
  obtain ⟨l5, rfl, h8⟩ := asAgL_inv h7; clear h7
  obtain ⟨a6, r6, rfl, h9⟩ := asCons_inv h8; clear h8
  obtain ⟨rfl, h10⟩ := asP_inv h9; clear h9
  obtain ⟨a7, r7, rfl, h11⟩ := asCons_inv h10; clear h10
  obtain ⟨x2, rfl, h12⟩ := asD_inv h11; clear h11
  obtain ⟨a8, r8, rfl, h13⟩ := asCons_inv h12; clear h12
  obtain ⟨x3, rfl, h14⟩ := asD_inv h13; clear h13
  obtain ⟨a9, r9, rfl, h15⟩ := asCons_inv h14; clear h14
  obtain ⟨x4, rfl, h16⟩ := asD_inv h15; clear h15
  obtain ⟨a10, r10, rfl, h17⟩ := asCons_inv h16; clear h16
  obtain ⟨x5, rfl, h18⟩ := asD_inv h17; clear h17
  obtain ⟨a11, r11, rfl, h19⟩ := asCons_inv h18; clear h18
  obtain ⟨x6, rfl, h20⟩ := asD_inv h19; clear h19
  obtain ⟨a12, r12, rfl, h21⟩ := asCons_inv h20; clear h20
  obtain ⟨x7, rfl, h22⟩ := asD_inv h21; clear h21
  obtain ⟨a13, r13, rfl, h23⟩ := asCons_inv h22; clear h22
  obtain ⟨rfl, h24⟩ := asP_inv h23; clear h23
  obtain ⟨rfl, h25⟩ := asNil_inv h24; clear h24
  obtain ⟨a14, r14, rfl, h26⟩ := asCons_inv h25; clear h25
  obtain ⟨x8, rfl, h27⟩ := asRw_inv h26; clear h26
  obtain ⟨a15, r15, rfl, h28⟩ := asCons_inv h27; clear h27
  obtain ⟨x9, rfl, h29⟩ := asRw_inv h28; clear h28
  obtain ⟨rfl, h30⟩ := asNil_inv h29; clear h29
  exact ACall.spec2 (fn := Try.f8) (c := codeOf Try.f8) (S := ofL S8v2) (L := lofL L8v2) hS8v2 (by kernel_rfl) (by kernel_rfl) (inlOK _) (all_eq (by kernel_rfl : subsOf (E.info 8).keep (codeOf Try.f8) = []) (all_nil)) (by kernel_rfl) h30.of

abbrev Sl7r14v2 : List (Nat × Pat × Sp) := [(17, none, sp17)]
theorem hSl7r14v2 : SpecOK E (ofL Sl7r14v2) := specOK_cons h17 (specOK_nil)
abbrev Ll7r14v2 : List (Nat × List Nat × Pat × LSp) := []
def lsl7r14v2 : LSp := fun vs σ K => asCons vs fun a1 r1 => asP (.ptr 0 0 []) a1 <| asCons r1 fun a2 r2 => asD (.int .i64) a2 fun s1 => asCons r2 fun a3 r3 => asD (.int .i64) a3 fun s2 => asCons r3 fun a4 r4 => asD (.int .i64) a4 fun s3 => asCons r4 fun a5 r5 => asD (.int .i64) a5 fun s4 => asNil r5 <| asCons σ fun a6 r6 => asOne (.pair (.sl (.int .i64)) (.pair (.int .i64) (.pair (.int .i64) (.pair (.int .i64) (.pair (.int .i64) (.pair (.int .i64) (.pair (.int .i64) (.pair (.sl (.int .i64)) .unit)))))))) a6 fun a7 => asAgL a7 fun l8 => asCons l8 fun a9 r9 => asP (.vec 1) a9 <| asCons r9 fun a10 r10 => asD (.int .i64) a10 fun s5 => asCons r10 fun a11 r11 => asD (.int .i64) a11 fun s6 => asCons r11 fun a12 r12 => asD (.int .i64) a12 fun s7 => asCons r12 fun a13 r13 => asD (.int .i64) a13 fun s8 => asCons r13 fun a14 r14 => asD (.int .i64) a14 fun s9 => asCons r14 fun a15 r15 => asD (.int .i64) a15 fun s10 => asCons r15 fun a16 r16 => asP (.vec 2) a16 <| asNil r16 <| asCons r6 fun a17 r17 => asRw (.int .i64) false a17 fun s11 => asCons r17 fun a18 r18 => asRw (.int .i64) false a18 fun s12 => asNil r18 <| l7r14v2 (fun z1 z2 z3 z4 z5 z6 z7 z8 z9 => K (.exit 1) [(11, I z1)] [.one (.pair (.sl (.int .i64)) (.pair (.int .i64) (.pair (.int .i64) (.pair (.int .i64) (.pair (.int .i64) (.pair (.int .i64) (.pair (.int .i64) (.pair (.sl (.int .i64)) .unit)))))))) (.agg [.vec 1, I z2, I z3, I z4, I z5, I z6, I z7, .vec 2]), .row (.int .i64) z8 false, .row (.int .i64) z9 false]) (fun z1 z2 z3 z4 z5 z6 z7 z8 z9 => K (.exit 1) [(11, I z1)] [.one (.pair (.sl (.int .i64)) (.pair (.int .i64) (.pair (.int .i64) (.pair (.int .i64) (.pair (.int .i64) (.pair (.int .i64) (.pair (.int .i64) (.pair (.sl (.int .i64)) .unit)))))))) (.agg [.vec 1, I z2, I z3, I z4, I z5, I z6, I z7, .vec 3]), .row (.int .i64) z8 false, .dead, .row (.int .i64) z9 false]) s1 s2 s3 s4 s5 s6 s7 s8 s9 s10 s11 s12
theorem l7r14v2v : LoopV E (inlF (PA (ACall E)) E 8) (E.info 7).keep 3 Try.f7.ntmps 8000014 (body Try.f7 14) ([0, 2, 3, 11, 12], lsl7r14v2) := by
  intro vs σ K (h0 : lsl7r14v2 vs σ K)
  unfold lsl7r14v2 at h0
  obtain ⟨a1, r1, rfl, h1⟩ := asCons_inv h0; clear h0
  obtain ⟨rfl, h2⟩ := asP_inv h1; clear h1
  obtain ⟨a2, r2, rfl, h3⟩ := asCons_inv h2; clear h2
  obtain ⟨s1, rfl, h4⟩ := asD_inv h3; clear h3
  obtain ⟨a3, r3, rfl, h5⟩ := asCons_inv h4; clear h4
  obtain ⟨s2, rfl, h6⟩ := asD_inv h5; clear h5
  obtain ⟨a4, r4, rfl, h7⟩ := asCons_inv h6; clear h6
  obtain ⟨s3, rfl, h8⟩ := asD_inv h7; clear h7
  obtain ⟨a5, r5, rfl, h9⟩ := asCons_inv h8; clear h8
  obtain ⟨s4, rfl, h10⟩ := asD_inv h9; clear h9
  obtain ⟨rfl, h11⟩ := asNil_inv h10; clear h10
  obtain ⟨a6, r6, rfl, h12⟩ := asCons_inv h11; clear h11
  obtain ⟨a7, rfl, h13⟩ := asOne_inv h12; clear h12
  obtain ⟨l8, rfl, h14⟩ := asAgL_inv h13; clear h13
  obtain ⟨a9, r9, rfl, h15⟩ := asCons_inv h14; clear h14
  obtain ⟨rfl, h16⟩ := asP_inv h15; clear h15
  obtain ⟨a10, r10, rfl, h17⟩ := asCons_inv h16; clear h16
  obtain ⟨s5, rfl, h18⟩ := asD_inv h17; clear h17
  obtain ⟨a11, r11, rfl, h19⟩ := asCons_inv h18; clear h18
  obtain ⟨s6, rfl, h20⟩ := asD_inv h19; clear h19
  obtain ⟨a12, r12, rfl, h21⟩ := asCons_inv h20; clear h20
  obtain ⟨s7, rfl, h22⟩ := asD_inv h21; clear h21
  obtain ⟨a13, r13, rfl, h23⟩ := asCons_inv h22; clear h22
  obtain ⟨s8, rfl, h24⟩ := asD_inv h23; clear h23
  obtain ⟨a14, r14, rfl, h25⟩ := asCons_inv h24; clear h24
  obtain ⟨s9, rfl, h26⟩ := asD_inv h25; clear h25
  obtain ⟨a15, r15, rfl, h27⟩ := asCons_inv h26; clear h26
  obtain ⟨s10, rfl, h28⟩ := asD_inv h27; clear h27
  obtain ⟨a16, r16, rfl, h29⟩ := asCons_inv h28; clear h28
  obtain ⟨rfl, h30⟩ := asP_inv h29; clear h29
  obtain ⟨rfl, h31⟩ := asNil_inv h30; clear h30
  obtain ⟨a17, r17, rfl, h32⟩ := asCons_inv h31; clear h31
  obtain ⟨s11, rfl, h33⟩ := asRw_inv h32; clear h32
  obtain ⟨a18, r18, rfl, h34⟩ := asCons_inv h33; clear h33
  obtain ⟨s12, rfl, h35⟩ := asRw_inv h34; clear h34
  obtain ⟨rfl, h36⟩ := asNil_inv h35; clear h35
  intro J hJ
  have hp : ∀ c' ∈ subsOf (E.info 7).keep (body Try.f7 14), SubOK E (inlF (PA (ACall E)) E 8) (E.info 7).keep 3 Try.f7.ntmps (lofL Ll7r14v2) c' := all_eq (by kernel_rfl : subsOf (E.info 7).keep (body Try.f7 14) = []) (all_nil)
  exact h36.of (fun s1 s2 s3 s4 s5 s6 s7 s8 s9 s10 s11 s12 => J [(8000014, .undef), (0, .ptr 0 0 []), (2, I s1), (3, I s2), (11, I s3), (12, I s4)] [.one (.pair (.sl (.int .i64)) (.pair (.int .i64) (.pair (.int .i64) (.pair (.int .i64) (.pair (.int .i64) (.pair (.int .i64) (.pair (.int .i64) (.pair (.sl (.int .i64)) .unit)))))))) (.agg [.vec 1, I s5, I s6, I s7, I s8, I s9, I s10, .vec 2]), .row (.int .i64) s11 false, .row (.int .i64) s12 false]) (fun s29 s30 s31 s32 s33 s34 s35 s36 s37 s38 s39 s40 => J [(8000014, .undef), (0, .ptr 0 0 []), (2, I s29), (3, I s30), (11, I s31), (12, I s32)] [.one (.pair (.sl (.int .i64)) (.pair (.int .i64) (.pair (.int .i64) (.pair (.int .i64) (.pair (.int .i64) (.pair (.int .i64) (.pair (.int .i64) (.pair (.sl (.int .i64)) .unit)))))))) (.agg [.vec 1, I s33, I s34, I s35, I s36, I s37, I s38, .vec 3]), .row (.int .i64) s39 false, .dead, .row (.int .i64) s40 false]) (fun s1 s2 s3 s4 s5 s6 s7 s8 s9 s10 s11 s12 hb => loop_round2 (S := ofL Sl7r14v2) (L := lofL Ll7r14v2) hSl7r14v2 (inlOK _) hp hJ (by kernel_rfl) hb) (fun s29 s30 s31 s32 s33 s34 s35 s36 s37 s38 s39 s40 hb => loop_round2 (S := ofL Sl7r14v2) (L := lofL Ll7r14v2) hSl7r14v2 (inlOK _) hp hJ (by kernel_rfl) hb)

abbrev S7v2 : List (Nat × Pat × Sp) := [(15, none, sp15), (8, none, sp8v2), (16, none, sp16)]
theorem hS7v2 : SpecOK E (ofL S7v2) := specOK_cons h15 (specOK_cons h8v2 (specOK_cons h16 (specOK_nil)))
abbrev L7v2 : List (Nat × List Nat × Pat × LSp) := [(8000014, [0, 2, 3, 11, 12], none, lsl7r14v2)]
def sp7v2 : Sp := fun args τ K => asCons args fun a1 r1 => asP (.ptr 0 0 []) a1 <| asCons r1 fun a2 r2 => asD (.int .i64) a2 fun x1 => asCons r2 fun a3 r3 => asD (.int .i64) a3 fun x2 => asCons r3 fun a4 r4 => asD (.int .i64) a4 fun x3 => asNil r4 <| asCons τ fun a5 r5 => asOne (.pair (.sl (.int .i64)) (.pair (.int .i64) (.pair (.int .i64) (.pair (.int .i64) (.pair (.int .i64) (.pair (.int .i64) (.pair (.int .i64) (.pair (.sl (.int .i64)) .unit)))))))) a5 fun a6 => asAgL a6 fun l7 => asCons l7 fun a8 r8 => asP (.vec 1) a8 <| asCons r8 fun a9 r9 => asD (.int .i64) a9 fun x4 => asCons r9 fun a10 r10 => asD (.int .i64) a10 fun x5 => asCons r10 fun a11 r11 => asD (.int .i64) a11 fun x6 => asCons r11 fun a12 r12 => asD (.int .i64) a12 fun x7 => asCons r12 fun a13 r13 => asD (.int .i64) a13 fun x8 => asCons r13 fun a14 r14 => asD (.int .i64) a14 fun x9 => asCons r14 fun a15 r15 => asP (.vec 2) a15 <| asNil r15 <| asCons r5 fun a16 r16 => asRw (.int .i64) false a16 fun x10 => asCons r16 fun a17 r17 => asRw (.int .i64) false a17 fun x11 => asNil r17 <| c7v2 x1 x2 x3 x4 x5 x6 x7 x8 x9 x10 x11 (fun z1 z2 z3 z4 z5 z6 z7 z8 z9 z10 => K (.tup [I z1, I z2]) [.one (.pair (.sl (.int .i64)) (.pair (.int .i64) (.pair (.int .i64) (.pair (.int .i64) (.pair (.int .i64) (.pair (.int .i64) (.pair (.int .i64) (.pair (.sl (.int .i64)) .unit)))))))) (.agg [.vec 1, I z3, I z4, I z5, I z6, I z7, I z8, .vec 2]), .row (.int .i64) z9 false, .row (.int .i64) z10 false]) (fun z1 z2 z3 z4 z5 z6 z7 z8 z9 z10 => K (.tup [I z1, I z2]) [.one (.pair (.sl (.int .i64)) (.pair (.int .i64) (.pair (.int .i64) (.pair (.int .i64) (.pair (.int .i64) (.pair (.int .i64) (.pair (.int .i64) (.pair (.sl (.int .i64)) .unit)))))))) (.agg [.vec 1, I z3, I z4, I z5, I z6, I z7, I z8, .vec 3]), .row (.int .i64) z9 false, .dead, .row (.int .i64) z10 false])
theorem h7v2 : ∀ args τ K, sp7v2 args τ K → ACall E 7 args τ K := by
  intro args τ K h0
  unfold sp7v2 at h0
  obtain ⟨a1, r1, rfl, h1⟩ := asCons_inv h0; clear h0
  obtain ⟨rfl, h2⟩ := asP_inv h1; clear h1
  obtain ⟨a2, r2, rfl, h3⟩ := asCons_inv h2; clear h2
  obtain ⟨x1, rfl, h4⟩ := asD_inv h3; clear h3
  obtain ⟨a3, r3, rfl, h5⟩ := asCons_inv h4; clear h4
  obtain ⟨x2, rfl, h6⟩ := asD_inv h5; clear h5
  obtain ⟨a4, r4, rfl, h7⟩ := asCons_inv h6; clear h6
  obtain ⟨x3, rfl, h8⟩ := asD_inv h7; clear h7
  obtain ⟨rfl, h9⟩ := asNil_inv h8; clear h8
  obtain ⟨a5, r5, rfl, h10⟩ := asCons_inv h9; clear h9
  obtain ⟨a6, rfl, h11⟩ := asOne_inv h10; clear h10
  obtain ⟨l7, rfl, h12⟩ := asAgL_inv h11; clear h11
  obtain ⟨a8, r8, rfl, h13⟩ := asCons_inv h12; clear h12
  obtain ⟨rfl, h14⟩ := asP_inv h13; clear h13
  obtain ⟨a9, r9, rfl, h15⟩ := asCons_inv h14; clear h14
  obtain ⟨x4, rfl, h16⟩ := asD_inv h15; clear h15
  obtain ⟨a10, r10, rfl, h17⟩ := asCons_inv h16; clear h16
  obtain ⟨x5, rfl, h18⟩ := asD_inv h17; clear h17
  obtain ⟨a11, r11, rfl, h19⟩ := asCons_inv h18; clear h18
  obtain ⟨x6, rfl, h20⟩ := asD_inv h19; clear h19
  obtain ⟨a12, r12, rfl, h21⟩ := asCons_inv h20; clear h20
  obtain ⟨x7, rfl, h22⟩ := asD_inv h21; clear h21
  obtain ⟨a13, r13, rfl, h23⟩ := asCons_inv h22; clear h22
  obtain ⟨x8, rfl, h24⟩ := asD_inv h23; clear h23
  obtain ⟨a14, r14, rfl, h25⟩ := asCons_inv h24; clear h24
  obtain ⟨x9, rfl, h26⟩ := asD_inv h25; clear h25
  obtain ⟨a15, r15, rfl, h27⟩ := asCons_inv h26; clear h26
  obtain ⟨rfl, h28⟩ := asP_inv h27; clear h27
  obtain ⟨rfl, h29⟩ := asNil_inv h28; clear h28
  obtain ⟨a16, r16, rfl, h30⟩ := asCons_inv h29; clear h29
  obtain ⟨x10, rfl, h31⟩ := asRw_inv h30; clear h30
  obtain ⟨a17, r17, rfl, h32⟩ := asCons_inv h31; clear h31
  obtain ⟨x11, rfl, h33⟩ := asRw_inv h32; clear h32
  obtain ⟨rfl, h34⟩ := asNil_inv h33; clear h33
  exact ACall.spec2 (fn := Try.f7) (c := codeOf Try.f7) (S := ofL S7v2) (L := lofL L7v2) hS7v2 (by kernel_rfl) (by kernel_rfl) (inlOK _) (all_eq (by kernel_rfl : subsOf (E.info 7).keep (codeOf Try.f7) = [.loop (body Try.f7 14)]) (all_cons (loopOK_of (mk := 8000014) (sl := [0, 2, 3, 11, 12]) (ss := [([0, 2, 3, 11, 12], lsl7r14v2)]) (by kernel_rfl) (by kernel_rfl) (all_cons l7r14v2v (all_nil))) (all_nil))) (by kernel_rfl) h34.of

abbrev Sj3r34 : List (Nat × Pat × Sp) := [(8, none, sp8v2)]
theorem hSj3r34 : SpecOK E (ofL Sj3r34) := specOK_cons h8v2 (specOK_nil)
abbrev Lj3r34 : List (Nat × List Nat × Pat × LSp) := []
def lsj3r34 : LSp := fun vs σ K => asCons vs fun a1 r1 => asD (.int .i64) a1 fun s1 => asCons r1 fun a2 r2 => asD (.sl (.int .i64)) a2 fun s2 => asCons r2 fun a3 r3 => asD (.sl (.int .i64)) a3 fun s3 => asCons r3 fun a4 r4 => asP (.ptr 0 0 []) a4 <| asCons r4 fun a5 r5 => asD (.int .i64) a5 fun s4 => asCons r5 fun a6 r6 => asD (.int .i64) a6 fun s5 => asCons r6 fun a7 r7 => asD (.int .i64) a7 fun s6 => asCons r7 fun a8 r8 => asP (.vec 3) a8 <| asCons r8 fun a9 r9 => asD (.int .i64) a9 fun s7 => asCons r9 fun a10 r10 => asD (.int .i64) a10 fun s8 => asCons r10 fun a11 r11 => asD .bool a11 fun s9 => asNil r11 <| asCons σ fun a12 r12 => asOne (.pair (.sl (.int .i64)) (.pair (.int .i64) (.pair (.int .i64) (.pair (.int .i64) (.pair (.int .i64) (.pair (.int .i64) (.pair (.int .i64) (.pair (.sl (.int .i64)) .unit)))))))) a12 fun a13 => asAgL a13 fun l14 => asCons l14 fun a15 r15 => asP (.vec 1) a15 <| asCons r15 fun a16 r16 => asD (.int .i64) a16 fun s10 => asCons r16 fun a17 r17 => asD (.int .i64) a17 fun s11 => asCons r17 fun a18 r18 => asD (.int .i64) a18 fun s12 => asCons r18 fun a19 r19 => asD (.int .i64) a19 fun s13 => asCons r19 fun a20 r20 => asD (.int .i64) a20 fun s14 => asCons r20 fun a21 r21 => asD (.int .i64) a21 fun s15 => asCons r21 fun a22 r22 => asP (.vec 2) a22 <| asNil r22 <| asCons r12 fun a23 r23 => asRw (.int .i64) false a23 fun s16 => asCons r23 fun a24 r24 => asRw (.int .i64) false a24 fun s17 => asCons r24 fun a25 r25 => asRw (.pair (.int .i64) (.pair (.int .i64) (.pair (.int .i64) .unit))) false a25 fun s18 => asNil r25 <| j3r34 (fun z1 => K .ret [(2, .undef), (3, .undef), (4, .undef), (10, B z1), (11, .undef), (13, .undef), (14, .undef), (15, .undef), (16, .undef), (17, .undef)] []) (fun z1 z2 z3 z4 z5 z6 z7 z8 z9 z10 z11 z12 z13 z14 z15 z16 => K .normal [(2, I z1), (3, .d (.sl (.int .i64)) z2), (4, .d (.sl (.int .i64)) z3), (10, .undef), (11, .ptr 0 0 []), (13, I z4), (14, I z5), (15, I z6), (16, .vec 3), (17, I z7)] [.one (.pair (.sl (.int .i64)) (.pair (.int .i64) (.pair (.int .i64) (.pair (.int .i64) (.pair (.int .i64) (.pair (.int .i64) (.pair (.int .i64) (.pair (.sl (.int .i64)) .unit)))))))) (.agg [.vec 1, I z8, I z9, I z10, I z11, I z12, I z13, .vec 2]), .row (.int .i64) z14 false, .row (.int .i64) z15 false, .row (.pair (.int .i64) (.pair (.int .i64) (.pair (.int .i64) .unit))) z16 false]) s1 s2 s3 s4 s5 s6 s7 s8 s9 s10 s11 s12 s13 s14 s15 s16 s17 s18
theorem j3r34v : JoinV E (inlF (PA (ACall E)) E 8) (E.info 3).keep 0 Try.f3.ntmps 4400034 4000034 (jbody Try.f3 4000034) ([2, 3, 4, 11, 13, 14, 15, 16, 17, 20, 21], lsj3r34) := by
  intro vs σ K (h0 : lsj3r34 vs σ K)
  unfold lsj3r34 at h0
  obtain ⟨a1, r1, rfl, h1⟩ := asCons_inv h0; clear h0
  obtain ⟨s1, rfl, h2⟩ := asD_inv h1; clear h1
  obtain ⟨a2, r2, rfl, h3⟩ := asCons_inv h2; clear h2
  obtain ⟨s2, rfl, h4⟩ := asD_inv h3; clear h3
  obtain ⟨a3, r3, rfl, h5⟩ := asCons_inv h4; clear h4
  obtain ⟨s3, rfl, h6⟩ := asD_inv h5; clear h5
  obtain ⟨a4, r4, rfl, h7⟩ := asCons_inv h6; clear h6
  obtain ⟨rfl, h8⟩ := asP_inv h7; clear h7
  obtain ⟨a5, r5, rfl, h9⟩ := asCons_inv h8; clear h8
  obtain ⟨s4, rfl, h10⟩ := asD_inv h9; clear h9
  obtain ⟨a6, r6, rfl, h11⟩ := asCons_inv h10; clear h10
  obtain ⟨s5, rfl, h12⟩ := asD_inv h11; clear h11
  obtain ⟨a7, r7, rfl, h13⟩ := asCons_inv h12; clear h12
  obtain ⟨s6, rfl, h14⟩ := asD_inv h13; clear h13
  obtain ⟨a8, r8, rfl, h15⟩ := asCons_inv h14; clear h14
  obtain ⟨rfl, h16⟩ := asP_inv h15; clear h15
  obtain ⟨a9, r9, rfl, h17⟩ := asCons_inv h16; clear h16
  obtain ⟨s7, rfl, h18⟩ := asD_inv h17; clear h17
  obtain ⟨a10, r10, rfl, h19⟩ := asCons_inv h18; clear h18
  obtain ⟨s8, rfl, h20⟩ := asD_inv h19; clear h19
  obtain ⟨a11, r11, rfl, h21⟩ := asCons_inv h20; clear h20
  obtain ⟨s9, rfl, h22⟩ := asD_inv h21; clear h21
  obtain ⟨rfl, h23⟩ := asNil_inv h22; clear h22
  obtain ⟨a12, r12, rfl, h24⟩ := asCons_inv h23; clear h23
  obtain ⟨a13, rfl, h25⟩ := asOne_inv h24; clear h24
  obtain ⟨l14, rfl, h26⟩ := asAgL_inv h25; clear h25
  obtain ⟨a15, r15, rfl, h27⟩ := asCons_inv h26; clear h26
  obtain ⟨rfl, h28⟩ := asP_inv h27; clear h27
  obtain ⟨a16, r16, rfl, h29⟩ := asCons_inv h28; clear h28
  obtain ⟨s10, rfl, h30⟩ := asD_inv h29; clear h29
  obtain ⟨a17, r17, rfl, h31⟩ := asCons_inv h30; clear h30
  obtain ⟨s11, rfl, h32⟩ := asD_inv h31; clear h31
  obtain ⟨a18, r18, rfl, h33⟩ := asCons_inv h32; clear h32
  obtain ⟨s12, rfl, h34⟩ := asD_inv h33; clear h33
  obtain ⟨a19, r19, rfl, h35⟩ := asCons_inv h34; clear h34
  obtain ⟨s13, rfl, h36⟩ := asD_inv h35; clear h35
  obtain ⟨a20, r20, rfl, h37⟩ := asCons_inv h36; clear h36
  obtain ⟨s14, rfl, h38⟩ := asD_inv h37; clear h37
  obtain ⟨a21, r21, rfl, h39⟩ := asCons_inv h38; clear h38
  obtain ⟨s15, rfl, h40⟩ := asD_inv h39; clear h39
  obtain ⟨a22, r22, rfl, h41⟩ := asCons_inv h40; clear h40
  obtain ⟨rfl, h42⟩ := asP_inv h41; clear h41
  obtain ⟨rfl, h43⟩ := asNil_inv h42; clear h42
  obtain ⟨a23, r23, rfl, h44⟩ := asCons_inv h43; clear h43
  obtain ⟨s16, rfl, h45⟩ := asRw_inv h44; clear h44
  obtain ⟨a24, r24, rfl, h46⟩ := asCons_inv h45; clear h45
  obtain ⟨s17, rfl, h47⟩ := asRw_inv h46; clear h46
  obtain ⟨a25, r25, rfl, h48⟩ := asCons_inv h47; clear h47
  obtain ⟨s18, rfl, h49⟩ := asRw_inv h48; clear h48
  obtain ⟨rfl, h50⟩ := asNil_inv h49; clear h49
  exact join_round2 (S := ofL Sj3r34) (L := lofL Lj3r34) hSj3r34 (inlOK _) (all_eq (by kernel_rfl : subsOf (E.info 3).keep (jbody Try.f3 4000034) = []) (all_nil)) (by kernel_rfl) h50.of

abbrev Sj3r21 : List (Nat × Pat × Sp) := [(4, none, sp4), (7, none, sp7v2)]
theorem hSj3r21 : SpecOK E (ofL Sj3r21) := specOK_cons h4 (specOK_cons h7v2 (specOK_nil))
abbrev Lj3r21 : List (Nat × List Nat × Pat × LSp) := [(4400034, [2, 3, 4, 11, 13, 14, 15, 16, 17, 20, 21], none, lsj3r34)]
def lsj3r21 : LSp := fun vs σ K => asCons vs fun a1 r1 => asD (.int .i64) a1 fun s1 => asCons r1 fun a2 r2 => asD (.sl (.int .i64)) a2 fun s2 => asCons r2 fun a3 r3 => asD (.sl (.int .i64)) a3 fun s3 => asCons r3 fun a4 r4 => asP (.ptr 0 0 []) a4 <| asCons r4 fun a5 r5 => asD (.int .i64) a5 fun s4 => asCons r5 fun a6 r6 => asD (.int .i64) a6 fun s5 => asCons r6 fun a7 r7 => asD (.int .i64) a7 fun s6 => asCons r7 fun a8 r8 => asP (.vec 3) a8 <| asCons r8 fun a9 r9 => asD (.int .i64) a9 fun s7 => asCons r9 fun a10 r10 => asD (.int .i64) a10 fun s8 => asCons r10 fun a11 r11 => asD (.int .i64) a11 fun s9 => asCons r11 fun a12 r12 => asD .bool a12 fun s10 => asCons r12 fun a13 r13 => asD .bool a13 fun s11 => asNil r13 <| asCons σ fun a14 r14 => asOne (.pair (.sl (.int .i64)) (.pair (.int .i64) (.pair (.int .i64) (.pair (.int .i64) (.pair (.int .i64) (.pair (.int .i64) (.pair (.int .i64) (.pair (.sl (.int .i64)) .unit)))))))) a14 fun a15 => asAgL a15 fun l16 => asCons l16 fun a17 r17 => asP (.vec 1) a17 <| asCons r17 fun a18 r18 => asD (.int .i64) a18 fun s12 => asCons r18 fun a19 r19 => asD (.int .i64) a19 fun s13 => asCons r19 fun a20 r20 => asD (.int .i64) a20 fun s14 => asCons r20 fun a21 r21 => asD (.int .i64) a21 fun s15 => asCons r21 fun a22 r22 => asD (.int .i64) a22 fun s16 => asCons r22 fun a23 r23 => asD (.int .i64) a23 fun s17 => asCons r23 fun a24 r24 => asP (.vec 2) a24 <| asNil r24 <| asCons r14 fun a25 r25 => asRw (.int .i64) false a25 fun s18 => asCons r25 fun a26 r26 => asRw (.int .i64) false a26 fun s19 => asCons r26 fun a27 r27 => asRw (.pair (.int .i64) (.pair (.int .i64) (.pair (.int .i64) .unit))) false a27 fun s20 => asNil r27 <| j3r21 (fun z1 => K .ret [(2, .undef), (3, .undef), (4, .undef), (10, B z1), (11, .undef), (13, .undef), (14, .undef), (15, .undef), (16, .undef), (17, .undef)] []) (fun z1 z2 z3 z4 z5 z6 z7 z8 z9 z10 z11 z12 z13 z14 z15 z16 => K .normal [(2, I z1), (3, .d (.sl (.int .i64)) z2), (4, .d (.sl (.int .i64)) z3), (10, .undef), (11, .ptr 0 0 []), (13, I z4), (14, I z5), (15, I z6), (16, .vec 3), (17, I z7)] [.one (.pair (.sl (.int .i64)) (.pair (.int .i64) (.pair (.int .i64) (.pair (.int .i64) (.pair (.int .i64) (.pair (.int .i64) (.pair (.int .i64) (.pair (.sl (.int .i64)) .unit)))))))) (.agg [.vec 1, I z8, I z9, I z10, I z11, I z12, I z13, .vec 2]), .row (.int .i64) z14 false, .row (.int .i64) z15 false, .row (.pair (.int .i64) (.pair (.int .i64) (.pair (.int .i64) .unit))) z16 false]) s1 s2 s3 s4 s5 s6 s7 s8 s9 s10 s11 s12 s13 s14 s15 s16 s17 s18 s19 s20
theorem j3r21v : JoinV E (inlF (PA (ACall E)) E 8) (E.info 3).keep 0 Try.f3.ntmps 4400021 4000021 (jbody Try.f3 4000021) ([2, 3, 4, 11, 13, 14, 15, 16, 17, 18, 20, 21, 22], lsj3r21) := by
  intro vs σ K (h0 : lsj3r21 vs σ K)
  unfold lsj3r21 at h0
  obtain ⟨a1, r1, rfl, h1⟩ := asCons_inv h0; clear h0
  obtain ⟨s1, rfl, h2⟩ := asD_inv h1; clear h1
  obtain ⟨a2, r2, rfl, h3⟩ := asCons_inv h2; clear h2
  obtain ⟨s2, rfl, h4⟩ := asD_inv h3; clear h3
  obtain ⟨a3, r3, rfl, h5⟩ := asCons_inv h4; clear h4
  obtain ⟨s3, rfl, h6⟩ := asD_inv h5; clear h5
  obtain ⟨a4, r4, rfl, h7⟩ := asCons_inv h6; clear h6
  obtain ⟨rfl, h8⟩ := asP_inv h7; clear h7
  obtain ⟨a5, r5, rfl, h9⟩ := asCons_inv h8; clear h8
  obtain ⟨s4, rfl, h10⟩ := asD_inv h9; clear h9
  obtain ⟨a6, r6, rfl, h11⟩ := asCons_inv h10; clear h10
  obtain ⟨s5, rfl, h12⟩ := asD_inv h11; clear h11
  obtain ⟨a7, r7, rfl, h13⟩ := asCons_inv h12; clear h12
  obtain ⟨s6, rfl, h14⟩ := asD_inv h13; clear h13
  obtain ⟨a8, r8, rfl, h15⟩ := asCons_inv h14; clear h14
  obtain ⟨rfl, h16⟩ := asP_inv h15; clear h15
  obtain ⟨a9, r9, rfl, h17⟩ := asCons_inv h16; clear h16
  obtain ⟨s7, rfl, h18⟩ := asD_inv h17; clear h17
  obtain ⟨a10, r10, rfl, h19⟩ := asCons_inv h18; clear h18
  obtain ⟨s8, rfl, h20⟩ := asD_inv h19; clear h19
  obtain ⟨a11, r11, rfl, h21⟩ := asCons_inv h20; clear h20
  obtain ⟨s9, rfl, h22⟩ := asD_inv h21; clear h21
  obtain ⟨a12, r12, rfl, h23⟩ := asCons_inv h22; clear h22
  obtain ⟨s10, rfl, h24⟩ := asD_inv h23; clear h23
  obtain ⟨a13, r13, rfl, h25⟩ := asCons_inv h24; clear h24
  obtain ⟨s11, rfl, h26⟩ := asD_inv h25; clear h25
  obtain ⟨rfl, h27⟩ := asNil_inv h26; clear h26
  obtain ⟨a14, r14, rfl, h28⟩ := asCons_inv h27; clear h27
  obtain ⟨a15, rfl, h29⟩ := asOne_inv h28; clear h28
  obtain ⟨l16, rfl, h30⟩ := asAgL_inv h29; clear h29
  obtain ⟨a17, r17, rfl, h31⟩ := asCons_inv h30; clear h30
  obtain ⟨rfl, h32⟩ := asP_inv h31; clear h31
  obtain ⟨a18, r18, rfl, h33⟩ := asCons_inv h32; clear h32
  obtain ⟨s12, rfl, h34⟩ := asD_inv h33; clear h33
  obtain ⟨a19, r19, rfl, h35⟩ := asCons_inv h34; clear h34
  obtain ⟨s13, rfl, h36⟩ := asD_inv h35; clear h35
  obtain ⟨a20, r20, rfl, h37⟩ := asCons_inv h36; clear h36
  obtain ⟨s14, rfl, h38⟩ := asD_inv h37; clear h37
  obtain ⟨a21, r21, rfl, h39⟩ := asCons_inv h38; clear h38
  obtain ⟨s15, rfl, h40⟩ := asD_inv h39; clear h39
  obtain ⟨a22, r22, rfl, h41⟩ := asCons_inv h40; clear h40
  obtain ⟨s16, rfl, h42⟩ := asD_inv h41; clear h41
  obtain ⟨a23, r23, rfl, h43⟩ := asCons_inv h42; clear h42
  obtain ⟨s17, rfl, h44⟩ := asD_inv h43; clear h43
  obtain ⟨a24, r24, rfl, h45⟩ := asCons_inv h44; clear h44
  obtain ⟨rfl, h46⟩ := asP_inv h45; clear h45
  obtain ⟨rfl, h47⟩ := asNil_inv h46; clear h46
  obtain ⟨a25, r25, rfl, h48⟩ := asCons_inv h47; clear h47
  obtain ⟨s18, rfl, h49⟩ := asRw_inv h48; clear h48
  obtain ⟨a26, r26, rfl, h50⟩ := asCons_inv h49; clear h49
  obtain ⟨s19, rfl, h51⟩ := asRw_inv h50; clear h50
  obtain ⟨a27, r27, rfl, h52⟩ := asCons_inv h51; clear h51
  obtain ⟨s20, rfl, h53⟩ := asRw_inv h52; clear h52
  obtain ⟨rfl, h54⟩ := asNil_inv h53; clear h53
  exact join_round2 (S := ofL Sj3r21) (L := lofL Lj3r21) hSj3r21 (inlOK _) (all_eq (by kernel_rfl : subsOf (E.info 3).keep (jbody Try.f3 4000021) = [.join 4000034 (jbody Try.f3 4000034)]) (all_cons (joinOK_of (mk := 4400034) (sl := [2, 3, 4, 11, 13, 14, 15, 16, 17, 20, 21]) (ss := [([2, 3, 4, 11, 13, 14, 15, 16, 17, 20, 21], lsj3r34)]) (by kernel_rfl) (by kernel_rfl) (all_cons j3r34v (all_nil))) (all_nil))) (by kernel_rfl) h54.of

abbrev Sj3r19 : List (Nat × Pat × Sp) := []
theorem hSj3r19 : SpecOK E (ofL Sj3r19) := specOK_nil
abbrev Lj3r19 : List (Nat × List Nat × Pat × LSp) := [(4400021, [2, 3, 4, 11, 13, 14, 15, 16, 17, 18, 20, 21, 22], none, lsj3r21)]
def lsj3r19 : LSp := fun vs σ K => asCons vs fun a1 r1 => asD (.int .i64) a1 fun s1 => asCons r1 fun a2 r2 => asD (.sl (.int .i64)) a2 fun s2 => asCons r2 fun a3 r3 => asD (.sl (.int .i64)) a3 fun s3 => asCons r3 fun a4 r4 => asP (.ptr 0 0 []) a4 <| asCons r4 fun a5 r5 => asD (.int .i64) a5 fun s4 => asCons r5 fun a6 r6 => asD (.int .i64) a6 fun s5 => asCons r6 fun a7 r7 => asD (.int .i64) a7 fun s6 => asCons r7 fun a8 r8 => asP (.vec 3) a8 <| asCons r8 fun a9 r9 => asD (.int .i64) a9 fun s7 => asCons r9 fun a10 r10 => asD (.int .i64) a10 fun s8 => asCons r10 fun a11 r11 => asD (.int .i64) a11 fun s9 => asNil r11 <| asCons σ fun a12 r12 => asOne (.pair (.sl (.int .i64)) (.pair (.int .i64) (.pair (.int .i64) (.pair (.int .i64) (.pair (.int .i64) (.pair (.int .i64) (.pair (.int .i64) (.pair (.sl (.int .i64)) .unit)))))))) a12 fun a13 => asAgL a13 fun l14 => asCons l14 fun a15 r15 => asP (.vec 1) a15 <| asCons r15 fun a16 r16 => asD (.int .i64) a16 fun s10 => asCons r16 fun a17 r17 => asD (.int .i64) a17 fun s11 => asCons r17 fun a18 r18 => asD (.int .i64) a18 fun s12 => asCons r18 fun a19 r19 => asD (.int .i64) a19 fun s13 => asCons r19 fun a20 r20 => asD (.int .i64) a20 fun s14 => asCons r20 fun a21 r21 => asD (.int .i64) a21 fun s15 => asCons r21 fun a22 r22 => asP (.vec 2) a22 <| asNil r22 <| asCons r12 fun a23 r23 => asRw (.int .i64) false a23 fun s16 => asCons r23 fun a24 r24 => asRw (.int .i64) false a24 fun s17 => asCons r24 fun a25 r25 => asRw (.pair (.int .i64) (.pair (.int .i64) (.pair (.int .i64) .unit))) false a25 fun s18 => asNil r25 <| j3r19 (fun z1 => K .ret [(2, .undef), (3, .undef), (4, .undef), (10, B z1), (11, .undef), (13, .undef), (14, .undef), (15, .undef), (16, .undef), (17, .undef)] []) (fun z1 z2 z3 z4 z5 z6 z7 z8 z9 z10 z11 z12 z13 z14 z15 z16 => K .normal [(2, I z1), (3, .d (.sl (.int .i64)) z2), (4, .d (.sl (.int .i64)) z3), (10, .undef), (11, .ptr 0 0 []), (13, I z4), (14, I z5), (15, I z6), (16, .vec 3), (17, I z7)] [.one (.pair (.sl (.int .i64)) (.pair (.int .i64) (.pair (.int .i64) (.pair (.int .i64) (.pair (.int .i64) (.pair (.int .i64) (.pair (.int .i64) (.pair (.sl (.int .i64)) .unit)))))))) (.agg [.vec 1, I z8, I z9, I z10, I z11, I z12, I z13, .vec 2]), .row (.int .i64) z14 false, .row (.int .i64) z15 false, .row (.pair (.int .i64) (.pair (.int .i64) (.pair (.int .i64) .unit))) z16 false]) s1 s2 s3 s4 s5 s6 s7 s8 s9 s10 s11 s12 s13 s14 s15 s16 s17 s18
theorem j3r19v : JoinV E (inlF (PA (ACall E)) E 8) (E.info 3).keep 0 Try.f3.ntmps 4400019 4000019 (jbody Try.f3 4000019) ([2, 3, 4, 11, 13, 14, 15, 16, 17, 18, 20], lsj3r19) := by
  intro vs σ K (h0 : lsj3r19 vs σ K)
  unfold lsj3r19 at h0
  obtain ⟨a1, r1, rfl, h1⟩ := asCons_inv h0; clear h0
  obtain ⟨s1, rfl, h2⟩ := asD_inv h1; clear h1
  obtain ⟨a2, r2, rfl, h3⟩ := asCons_inv h2; clear h2
  obtain ⟨s2, rfl, h4⟩ := asD_inv h3; clear h3
  obtain ⟨a3, r3, rfl, h5⟩ := asCons_inv h4; clear h4
  obtain ⟨s3, rfl, h6⟩ := asD_inv h5; clear h5
  obtain ⟨a4, r4, rfl, h7⟩ := asCons_inv h6; clear h6
  obtain ⟨rfl, h8⟩ := asP_inv h7; clear h7
  obtain ⟨a5, r5, rfl, h9⟩ := asCons_inv h8; clear h8
  obtain ⟨s4, rfl, h10⟩ := asD_inv h9; clear h9
  obtain ⟨a6, r6, rfl, h11⟩ := asCons_inv h10; clear h10
  obtain ⟨s5, rfl, h12⟩ := asD_inv h11; clear h11
  obtain ⟨a7, r7, rfl, h13⟩ := asCons_inv h12; clear h12
  obtain ⟨s6, rfl, h14⟩ := asD_inv h13; clear h13
  obtain ⟨a8, r8, rfl, h15⟩ := asCons_inv h14; clear h14
  obtain ⟨rfl, h16⟩ := asP_inv h15; clear h15
  obtain ⟨a9, r9, rfl, h17⟩ := asCons_inv h16; clear h16
  obtain ⟨s7, rfl, h18⟩ := asD_inv h17; clear h17
  obtain ⟨a10, r10, rfl, h19⟩ := asCons_inv h18; clear h18
  obtain ⟨s8, rfl, h20⟩ := asD_inv h19; clear h19
  obtain ⟨a11, r11, rfl, h21⟩ := asCons_inv h20; clear h20
  obtain ⟨s9, rfl, h22⟩ := asD_inv h21; clear h21
  obtain ⟨rfl, h23⟩ := asNil_inv h22; clear h22
  obtain ⟨a12, r12, rfl, h24⟩ := asCons_inv h23; clear h23
  obtain ⟨a13, rfl, h25⟩ := asOne_inv h24; clear h24
  obtain ⟨l14, rfl, h26⟩ := asAgL_inv h25; clear h25
  obtain ⟨a15, r15, rfl, h27⟩ := asCons_inv h26; clear h26
  obtain ⟨rfl, h28⟩ := asP_inv h27; clear h27
  obtain ⟨a16, r16, rfl, h29⟩ := asCons_inv h28; clear h28
  obtain ⟨s10, rfl, h30⟩ := asD_inv h29; clear h29
  obtain ⟨a17, r17, rfl, h31⟩ := asCons_inv h30; clear h30
  obtain ⟨s11, rfl, h32⟩ := asD_inv h31; clear h31
  obtain ⟨a18, r18, rfl, h33⟩ := asCons_inv h32; clear h32
  obtain ⟨s12, rfl, h34⟩ := asD_inv h33; clear h33
  obtain ⟨a19, r19, rfl, h35⟩ := asCons_inv h34; clear h34
  obtain ⟨s13, rfl, h36⟩ := asD_inv h35; clear h35
  obtain ⟨a20, r20, rfl, h37⟩ := asCons_inv h36; clear h36
  obtain ⟨s14, rfl, h38⟩ := asD_inv h37; clear h37
  obtain ⟨a21, r21, rfl, h39⟩ := asCons_inv h38; clear h38
  obtain ⟨s15, rfl, h40⟩ := asD_inv h39; clear h39
  obtain ⟨a22, r22, rfl, h41⟩ := asCons_inv h40; clear h40
  obtain ⟨rfl, h42⟩ := asP_inv h41; clear h41
  obtain ⟨rfl, h43⟩ := asNil_inv h42; clear h42
  obtain ⟨a23, r23, rfl, h44⟩ := asCons_inv h43; clear h43
  obtain ⟨s16, rfl, h45⟩ := asRw_inv h44; clear h44
  obtain ⟨a24, r24, rfl, h46⟩ := asCons_inv h45; clear h45
  obtain ⟨s17, rfl, h47⟩ := asRw_inv h46; clear h46
  obtain ⟨a25, r25, rfl, h48⟩ := asCons_inv h47; clear h47
  obtain ⟨s18, rfl, h49⟩ := asRw_inv h48; clear h48
  obtain ⟨rfl, h50⟩ := asNil_inv h49; clear h49
  exact join_round2 (S := ofL Sj3r19) (L := lofL Lj3r19) hSj3r19 (inlOK _) (all_eq (by kernel_rfl : subsOf (E.info 3).keep (jbody Try.f3 4000019) = [.join 4000021 (jbody Try.f3 4000021)]) (all_cons (joinOK_of (mk := 4400021) (sl := [2, 3, 4, 11, 13, 14, 15, 16, 17, 18, 20, 21, 22]) (ss := [([2, 3, 4, 11, 13, 14, 15, 16, 17, 18, 20, 21, 22], lsj3r21)]) (by kernel_rfl) (by kernel_rfl) (all_cons j3r21v (all_nil))) (all_nil))) (by kernel_rfl) h50.of

abbrev S12 : List (Nat × Pat × Sp) := []
theorem hS12 : SpecOK E (ofL S12) := specOK_nil
abbrev L12 : List (Nat × List Nat × Pat × LSp) := []
def sp12 : Sp := fun args τ K => asCons args fun a1 r1 => asP (.ptr 0 0 []) a1 <| asNil r1 <| asCons τ fun a2 r2 => asOne (.pair (.sl (.int .i64)) (.pair (.int .i64) (.pair (.int .i64) (.pair (.int .i64) (.pair (.int .i64) (.pair (.int .i64) (.pair (.int .i64) (.pair (.sl (.int .i64)) .unit)))))))) a2 fun a3 => asAgL a3 fun l4 => asCons l4 fun a5 r5 => asP (.vec 1) a5 <| asCons r5 fun a6 r6 => asD (.int .i64) a6 fun x1 => asCons r6 fun a7 r7 => asD (.int .i64) a7 fun x2 => asCons r7 fun a8 r8 => asD (.int .i64) a8 fun x3 => asCons r8 fun a9 r9 => asD (.int .i64) a9 fun x4 => asCons r9 fun a10 r10 => asD (.int .i64) a10 fun x5 => asCons r10 fun a11 r11 => asD (.int .i64) a11 fun x6 => asCons r11 fun a12 r12 => asP (.vec 2) a12 <| asNil r12 <| asCons r2 fun a13 r13 => asRw (.int .i64) false a13 fun x7 => asCons r13 fun a14 r14 => asRw (.int .i64) false a14 fun x8 => asNil r14 <| c12 x1 x2 x3 x4 x5 x6 x7 x8 (fun z1 z2 z3 z4 z5 z6 z7 z8 z9 z10 => K (.tup [I z1, I z2]) [.one (.pair (.sl (.int .i64)) (.pair (.int .i64) (.pair (.int .i64) (.pair (.int .i64) (.pair (.int .i64) (.pair (.int .i64) (.pair (.int .i64) (.pair (.sl (.int .i64)) .unit)))))))) (.agg [.vec 1, I z3, I z4, I z5, I z6, I z7, I z8, .vec 2]), .row (.int .i64) z9 false, .row (.int .i64) z10 false])
theorem h12 : ∀ args τ K, sp12 args τ K → ACall E 12 args τ K := by
  intro args τ K h0
  unfold sp12 at h0
  obtain ⟨a1, r1, rfl, h1⟩ := asCons_inv h0; clear h0
  obtain ⟨rfl, h2⟩ := asP_inv h1; clear h1
  obtain ⟨rfl, h3⟩ := asNil_inv h2; clear h2
  obtain ⟨a2, r2, rfl, h4⟩ := asCons_inv h3; clear h3
  obtain ⟨a3, rfl, h5⟩ := asOne_inv h4; clear h4
  obtain ⟨l4, rfl, h6⟩ := asAgL_inv h5; clear h5
  obtain ⟨a5, r5, rfl, h7⟩ := asCons_inv h6; clear h6
  obtain ⟨rfl, h8⟩ := asP_inv h7; clear h7
  obtain ⟨a6, r6, rfl, h9⟩ := asCons_inv h8; clear h8
  obtain ⟨x1, rfl, h10⟩ := asD_inv h9; clear h9
  obtain ⟨a7, r7, rfl, h11⟩ := asCons_inv h10; clear h10
  obtain ⟨x2, rfl, h12⟩ := asD_inv h11; clear h11
  obtain ⟨a8, r8, rfl, h13⟩ := asCons_inv h12; clear h12
  obtain ⟨x3, rfl, h14⟩ := asD_inv h13; clear h13
  obtain ⟨a9, r9, rfl, h15⟩ := asCons_inv h14; clear h14
  obtain ⟨x4, rfl, h16⟩ := asD_inv h15; clear h15
  obtain ⟨a10, r10, rfl, h17⟩ := asCons_inv h16; clear h16
  obtain ⟨x5, rfl, h18⟩ := asD_inv h17; clear h17
  obtain ⟨a11, r11, rfl, h19⟩ := asCons_inv h18; clear h18
  obtain ⟨x6, rfl, h20⟩ := asD_inv h19; clear h19
  obtain ⟨a12, r12, rfl, h21⟩ := asCons_inv h20; clear h20
  obtain ⟨rfl, h22⟩ := asP_inv h21; clear h21
  obtain ⟨rfl, h23⟩ := asNil_inv h22; clear h22
  obtain ⟨a13, r13, rfl, h24⟩ := asCons_inv h23; clear h23
  obtain ⟨x7, rfl, h25⟩ := asRw_inv h24; clear h24
  obtain ⟨a14, r14, rfl, h26⟩ := asCons_inv h25; clear h25
  obtain ⟨x8, rfl, h27⟩ := asRw_inv h26; clear h26
  obtain ⟨rfl, h28⟩ := asNil_inv h27; clear h27
  exact ACall.spec2 (fn := Try.f12) (c := codeOf Try.f12) (S := ofL S12) (L := lofL L12) hS12 (by kernel_rfl) (by kernel_rfl) (inlOK _) (all_eq (by kernel_rfl : subsOf (E.info 12).keep (codeOf Try.f12) = []) (all_nil)) (by kernel_rfl) h28.of

abbrev Sj3r68 : List (Nat × Pat × Sp) := [(12, none, sp12)]
theorem hSj3r68 : SpecOK E (ofL Sj3r68) := specOK_cons h12 (specOK_nil)
abbrev Lj3r68 : List (Nat × List Nat × Pat × LSp) := []
def lsj3r68 : LSp := fun vs σ K => asCons vs fun a1 r1 => asD (.int .i64) a1 fun s1 => asCons r1 fun a2 r2 => asD (.sl (.int .i64)) a2 fun s2 => asCons r2 fun a3 r3 => asD (.sl (.int .i64)) a3 fun s3 => asCons r3 fun a4 r4 => asP (.ptr 0 0 []) a4 <| asCons r4 fun a5 r5 => asD (.int .i64) a5 fun s4 => asCons r5 fun a6 r6 => asD (.int .i64) a6 fun s5 => asCons r6 fun a7 r7 => asD (.int .i64) a7 fun s6 => asCons r7 fun a8 r8 => asP (.vec 3) a8 <| asCons r8 fun a9 r9 => asD (.int .i64) a9 fun s7 => asNil r9 <| asCons σ fun a10 r10 => asOne (.pair (.sl (.int .i64)) (.pair (.int .i64) (.pair (.int .i64) (.pair (.int .i64) (.pair (.int .i64) (.pair (.int .i64) (.pair (.int .i64) (.pair (.sl (.int .i64)) .unit)))))))) a10 fun a11 => asAgL a11 fun l12 => asCons l12 fun a13 r13 => asP (.vec 1) a13 <| asCons r13 fun a14 r14 => asD (.int .i64) a14 fun s8 => asCons r14 fun a15 r15 => asD (.int .i64) a15 fun s9 => asCons r15 fun a16 r16 => asD (.int .i64) a16 fun s10 => asCons r16 fun a17 r17 => asD (.int .i64) a17 fun s11 => asCons r17 fun a18 r18 => asD (.int .i64) a18 fun s12 => asCons r18 fun a19 r19 => asD (.int .i64) a19 fun s13 => asCons r19 fun a20 r20 => asP (.vec 2) a20 <| asNil r20 <| asCons r10 fun a21 r21 => asRw (.int .i64) false a21 fun s14 => asCons r21 fun a22 r22 => asRw (.int .i64) false a22 fun s15 => asCons r22 fun a23 r23 => asRw (.pair (.int .i64) (.pair (.int .i64) (.pair (.int .i64) .unit))) false a23 fun s16 => asNil r23 <| j3r68 (fun z1 => K .ret [(2, .undef), (3, .undef), (4, .undef), (10, B z1), (11, .undef), (13, .undef), (14, .undef), (15, .undef), (16, .undef), (17, .undef)] []) (fun z1 z2 z3 z4 z5 z6 z7 z8 z9 z10 z11 z12 z13 z14 z15 z16 => K .normal [(2, I z1), (3, .d (.sl (.int .i64)) z2), (4, .d (.sl (.int .i64)) z3), (10, .undef), (11, .ptr 0 0 []), (13, I z4), (14, I z5), (15, I z6), (16, .vec 3), (17, I z7)] [.one (.pair (.sl (.int .i64)) (.pair (.int .i64) (.pair (.int .i64) (.pair (.int .i64) (.pair (.int .i64) (.pair (.int .i64) (.pair (.int .i64) (.pair (.sl (.int .i64)) .unit)))))))) (.agg [.vec 1, I z8, I z9, I z10, I z11, I z12, I z13, .vec 2]), .row (.int .i64) z14 false, .row (.int .i64) z15 false, .row (.pair (.int .i64) (.pair (.int .i64) (.pair (.int .i64) .unit))) z16 false]) s1 s2 s3 s4 s5 s6 s7 s8 s9 s10 s11 s12 s13 s14 s15 s16
theorem j3r68v : JoinV E (inlF (PA (ACall E)) E 8) (E.info 3).keep 0 Try.f3.ntmps 4400068 4000068 (jbody Try.f3 4000068) ([2, 3, 4, 11, 13, 14, 15, 16, 17], lsj3r68) := by
  intro vs σ K (h0 : lsj3r68 vs σ K)
  unfold lsj3r68 at h0
  obtain ⟨a1, r1, rfl, h1⟩ := asCons_inv h0; clear h0
  obtain ⟨s1, rfl, h2⟩ := asD_inv h1; clear h1
  obtain ⟨a2, r2, rfl, h3⟩ := asCons_inv h2; clear h2
  obtain ⟨s2, rfl, h4⟩ := asD_inv h3; clear h3
  obtain ⟨a3, r3, rfl, h5⟩ := asCons_inv h4; clear h4
  obtain ⟨s3, rfl, h6⟩ := asD_inv h5; clear h5
  obtain ⟨a4, r4, rfl, h7⟩ := asCons_inv h6; clear h6
  obtain ⟨rfl, h8⟩ := asP_inv h7; clear h7
  obtain ⟨a5, r5, rfl, h9⟩ := asCons_inv h8; clear h8
  obtain ⟨s4, rfl, h10⟩ := asD_inv h9; clear h9
  obtain ⟨a6, r6, rfl, h11⟩ := asCons_inv h10; clear h10
  obtain ⟨s5, rfl, h12⟩ := asD_inv h11; clear h11
  obtain ⟨a7, r7, rfl, h13⟩ := asCons_inv h12; clear h12
  obtain ⟨s6, rfl, h14⟩ := asD_inv h13; clear h13
  obtain ⟨a8, r8, rfl, h15⟩ := asCons_inv h14; clear h14
  obtain ⟨rfl, h16⟩ := asP_inv h15; clear h15
  obtain ⟨a9, r9, rfl, h17⟩ := asCons_inv h16; clear h16
  obtain ⟨s7, rfl, h18⟩ := asD_inv h17; clear h17
  obtain ⟨rfl, h19⟩ := asNil_inv h18; clear h18
  obtain ⟨a10, r10, rfl, h20⟩ := asCons_inv h19; clear h19
  obtain ⟨a11, rfl, h21⟩ := asOne_inv h20; clear h20
  obtain ⟨l12, rfl, h22⟩ := asAgL_inv h21; clear h21
  obtain ⟨a13, r13, rfl, h23⟩ := asCons_inv h22; clear h22
  obtain ⟨rfl, h24⟩ := asP_inv h23; clear h23
  obtain ⟨a14, r14, rfl, h25⟩ := asCons_inv h24; clear h24
  obtain ⟨s8, rfl, h26⟩ := asD_inv h25; clear h25
  obtain ⟨a15, r15, rfl, h27⟩ := asCons_inv h26; clear h26
  obtain ⟨s9, rfl, h28⟩ := asD_inv h27; clear h27
  obtain ⟨a16, r16, rfl, h29⟩ := asCons_inv h28; clear h28
  obtain ⟨s10, rfl, h30⟩ := asD_inv h29; clear h29
  obtain ⟨a17, r17, rfl, h31⟩ := asCons_inv h30; clear h30
  obtain ⟨s11, rfl, h32⟩ := asD_inv h31; clear h31
  obtain ⟨a18, r18, rfl, h33⟩ := asCons_inv h32; clear h32
  obtain ⟨s12, rfl, h34⟩ := asD_inv h33; clear h33
  obtain ⟨a19, r19, rfl, h35⟩ := asCons_inv h34; clear h34
  obtain ⟨s13, rfl, h36⟩ := asD_inv h35; clear h35
  obtain ⟨a20, r20, rfl, h37⟩ := asCons_inv h36; clear h36
  obtain ⟨rfl, h38⟩ := asP_inv h37; clear h37
  obtain ⟨rfl, h39⟩ := asNil_inv h38; clear h38
  obtain ⟨a21, r21, rfl, h40⟩ := asCons_inv h39; clear h39
  obtain ⟨s14, rfl, h41⟩ := asRw_inv h40; clear h40
  obtain ⟨a22, r22, rfl, h42⟩ := asCons_inv h41; clear h41
  obtain ⟨s15, rfl, h43⟩ := asRw_inv h42; clear h42
  obtain ⟨a23, r23, rfl, h44⟩ := asCons_inv h43; clear h43
  obtain ⟨s16, rfl, h45⟩ := asRw_inv h44; clear h44
  obtain ⟨rfl, h46⟩ := asNil_inv h45; clear h45
  exact join_round2 (S := ofL Sj3r68) (L := lofL Lj3r68) hSj3r68 (inlOK _) (all_eq (by kernel_rfl : subsOf (E.info 3).keep (jbody Try.f3 4000068) = []) (all_nil)) (by kernel_rfl) h46.of

abbrev Sl3r40 : List (Nat × Pat × Sp) := []
theorem hSl3r40 : SpecOK E (ofL Sl3r40) := specOK_nil
abbrev Ll3r40 : List (Nat × List Nat × Pat × LSp) := []
def lsl3r40 : LSp := fun vs σ K => asCons vs fun a1 r1 => asD (.int .i64) a1 fun s1 => asCons r1 fun a2 r2 => asD (.sl (.int .i64)) a2 fun s2 => asCons r2 fun a3 r3 => asD (.sl (.int .i64)) a3 fun s3 => asCons r3 fun a4 r4 => asP (.ptr 0 0 []) a4 <| asCons r4 fun a5 r5 => asD (.int .i64) a5 fun s4 => asCons r5 fun a6 r6 => asD (.int .i64) a6 fun s5 => asCons r6 fun a7 r7 => asD (.int .i64) a7 fun s6 => asCons r7 fun a8 r8 => asSl 3 false a8 fun s7 s8 s9 => asCons r8 fun a9 r9 => asD (.int .i64) a9 fun s10 => asCons r9 fun a10 r10 => asD (.int .i64) a10 fun s11 => asCons r10 fun a11 r11 => asP (.vec 4) a11 <| asCons r11 fun a12 r12 => asD (.int .i64) a12 fun s12 => asCons r12 fun a13 r13 => asD (.int .i64) a13 fun s13 => asCons r13 fun a14 r14 => asSl 3 false a14 fun s14 s15 s16 => asCons r14 fun a15 r15 => asD (.int .i64) a15 fun s17 => asCons r15 fun a16 r16 => asD (.int .i64) a16 fun s18 => asNil r16 <| asCons σ fun a17 r17 => asOne (.pair (.sl (.int .i64)) (.pair (.int .i64) (.pair (.int .i64) (.pair (.int .i64) (.pair (.int .i64) (.pair (.int .i64) (.pair (.int .i64) (.pair (.sl (.int .i64)) .unit)))))))) a17 fun a18 => asAgL a18 fun l19 => asCons l19 fun a20 r20 => asP (.vec 1) a20 <| asCons r20 fun a21 r21 => asD (.int .i64) a21 fun s19 => asCons r21 fun a22 r22 => asD (.int .i64) a22 fun s20 => asCons r22 fun a23 r23 => asD (.int .i64) a23 fun s21 => asCons r23 fun a24 r24 => asD (.int .i64) a24 fun s22 => asCons r24 fun a25 r25 => asD (.int .i64) a25 fun s23 => asCons r25 fun a26 r26 => asD (.int .i64) a26 fun s24 => asCons r26 fun a27 r27 => asP (.vec 2) a27 <| asNil r27 <| asCons r17 fun a28 r28 => asRw (.int .i64) false a28 fun s25 => asCons r28 fun a29 r29 => asRw (.int .i64) false a29 fun s26 => asCons r29 fun a30 r30 => asRw (.pair (.int .i64) (.pair (.int .i64) (.pair (.int .i64) .unit))) false a30 fun s27 => asCons r30 fun a31 r31 => asRw (.int .i64) false a31 fun s28 => asNil r31 <| l3r40 (fun z1 z2 z3 z4 z5 z6 z7 z8 z9 z10 z11 z12 z13 z14 z15 z16 z17 z18 z19 z20 z21 z22 z23 => K (.exit 3) [(2, I z1), (3, .d (.sl (.int .i64)) z2), (4, .d (.sl (.int .i64)) z3), (11, .ptr 0 0 []), (13, I z4), (14, I z5), (15, I z6), (16, .sl 3 z7 z8 z9 false), (17, I z10), (19, I z11), (25, .vec 4), (26, I z12), (27, I z13)] [.one (.pair (.sl (.int .i64)) (.pair (.int .i64) (.pair (.int .i64) (.pair (.int .i64) (.pair (.int .i64) (.pair (.int .i64) (.pair (.int .i64) (.pair (.sl (.int .i64)) .unit)))))))) (.agg [.vec 1, I z14, I z15, I z16, I z17, I z18, I z19, .vec 2]), .row (.int .i64) z20 false, .row (.int .i64) z21 false, .row (.pair (.int .i64) (.pair (.int .i64) (.pair (.int .i64) .unit))) z22 false, .row (.int .i64) z23 false]) s1 s2 s3 s4 s5 s6 s7 s8 s9 s10 s11 s12 s13 s14 s15 s16 s17 s18 s19 s20 s21 s22 s23 s24 s25 s26 s27 s28
theorem l3r40v : LoopV E (inlF (PA (ACall E)) E 8) (E.info 3).keep 0 Try.f3.ntmps 4000040 (body Try.f3 40) ([2, 3, 4, 11, 13, 14, 15, 16, 17, 19, 25, 26, 27, 225, 226, 227], lsl3r40) := by
  intro vs σ K (h0 : lsl3r40 vs σ K)
  unfold lsl3r40 at h0
  obtain ⟨a1, r1, rfl, h1⟩ := asCons_inv h0; clear h0
  obtain ⟨s1, rfl, h2⟩ := asD_inv h1; clear h1
  obtain ⟨a2, r2, rfl, h3⟩ := asCons_inv h2; clear h2
  obtain ⟨s2, rfl, h4⟩ := asD_inv h3; clear h3
  obtain ⟨a3, r3, rfl, h5⟩ := asCons_inv h4; clear h4
  obtain ⟨s3, rfl, h6⟩ := asD_inv h5; clear h5
  obtain ⟨a4, r4, rfl, h7⟩ := asCons_inv h6; clear h6
  obtain ⟨rfl, h8⟩ := asP_inv h7; clear h7
  obtain ⟨a5, r5, rfl, h9⟩ := asCons_inv h8; clear h8
  obtain ⟨s4, rfl, h10⟩ := asD_inv h9; clear h9
  obtain ⟨a6, r6, rfl, h11⟩ := asCons_inv h10; clear h10
  obtain ⟨s5, rfl, h12⟩ := asD_inv h11; clear h11
  obtain ⟨a7, r7, rfl, h13⟩ := asCons_inv h12; clear h12
  obtain ⟨s6, rfl, h14⟩ := asD_inv h13; clear h13
  obtain ⟨a8, r8, rfl, h15⟩ := asCons_inv h14; clear h14
  obtain ⟨s7, s8, s9, rfl, h16⟩ := asSl_inv h15; clear h15
  obtain ⟨a9, r9, rfl, h17⟩ := asCons_inv h16; clear h16
  obtain ⟨s10, rfl, h18⟩ := asD_inv h17; clear h17
  obtain ⟨a10, r10, rfl, h19⟩ := asCons_inv h18; clear h18
  obtain ⟨s11, rfl, h20⟩ := asD_inv h19; clear h19
  obtain ⟨a11, r11, rfl, h21⟩ := asCons_inv h20; clear h20
  obtain ⟨rfl, h22⟩ := asP_inv h21; clear h21
  obtain ⟨a12, r12, rfl, h23⟩ := asCons_inv h22; clear h22
  obtain ⟨s12, rfl, h24⟩ := asD_inv h23; clear h23
  obtain ⟨a13, r13, rfl, h25⟩ := asCons_inv h24; clear h24
  obtain ⟨s13, rfl, h26⟩ := asD_inv h25; clear h25
  obtain ⟨a14, r14, rfl, h27⟩ := asCons_inv h26; clear h26
  obtain ⟨s14, s15, s16, rfl, h28⟩ := asSl_inv h27; clear h27
  obtain ⟨a15, r15, rfl, h29⟩ := asCons_inv h28; clear h28
  obtain ⟨s17, rfl, h30⟩ := asD_inv h29; clear h29
  obtain ⟨a16, r16, rfl, h31⟩ := asCons_inv h30; clear h30
  obtain ⟨s18, rfl, h32⟩ := asD_inv h31; clear h31
  obtain ⟨rfl, h33⟩ := asNil_inv h32; clear h32
  obtain ⟨a17, r17, rfl, h34⟩ := asCons_inv h33; clear h33
  obtain ⟨a18, rfl, h35⟩ := asOne_inv h34; clear h34
  obtain ⟨l19, rfl, h36⟩ := asAgL_inv h35; clear h35
  obtain ⟨a20, r20, rfl, h37⟩ := asCons_inv h36; clear h36
  obtain ⟨rfl, h38⟩ := asP_inv h37; clear h37
  obtain ⟨a21, r21, rfl, h39⟩ := asCons_inv h38; clear h38
  obtain ⟨s19, rfl, h40⟩ := asD_inv h39; clear h39
  obtain ⟨a22, r22, rfl, h41⟩ := asCons_inv h40; clear h40
  obtain ⟨s20, rfl, h42⟩ := asD_inv h41; clear h41
  obtain ⟨a23, r23, rfl, h43⟩ := asCons_inv h42; clear h42
  obtain ⟨s21, rfl, h44⟩ := asD_inv h43; clear h43
  obtain ⟨a24, r24, rfl, h45⟩ := asCons_inv h44; clear h44
  obtain ⟨s22, rfl, h46⟩ := asD_inv h45; clear h45
  obtain ⟨a25, r25, rfl, h47⟩ := asCons_inv h46; clear h46
  obtain ⟨s23, rfl, h48⟩ := asD_inv h47; clear h47
  obtain ⟨a26, r26, rfl, h49⟩ := asCons_inv h48; clear h48
  obtain ⟨s24, rfl, h50⟩ := asD_inv h49; clear h49
  obtain ⟨a27, r27, rfl, h51⟩ := asCons_inv h50; clear h50
  obtain ⟨rfl, h52⟩ := asP_inv h51; clear h51
  obtain ⟨rfl, h53⟩ := asNil_inv h52; clear h52
  obtain ⟨a28, r28, rfl, h54⟩ := asCons_inv h53; clear h53
  obtain ⟨s25, rfl, h55⟩ := asRw_inv h54; clear h54
  obtain ⟨a29, r29, rfl, h56⟩ := asCons_inv h55; clear h55
  obtain ⟨s26, rfl, h57⟩ := asRw_inv h56; clear h56
  obtain ⟨a30, r30, rfl, h58⟩ := asCons_inv h57; clear h57
  obtain ⟨s27, rfl, h59⟩ := asRw_inv h58; clear h58
  obtain ⟨a31, r31, rfl, h60⟩ := asCons_inv h59; clear h59
  obtain ⟨s28, rfl, h61⟩ := asRw_inv h60; clear h60
  obtain ⟨rfl, h62⟩ := asNil_inv h61; clear h61
  intro J hJ
  have hp : ∀ c' ∈ subsOf (E.info 3).keep (body Try.f3 40), SubOK E (inlF (PA (ACall E)) E 8) (E.info 3).keep 0 Try.f3.ntmps (lofL Ll3r40) c' := all_eq (by kernel_rfl : subsOf (E.info 3).keep (body Try.f3 40) = []) (all_nil)
  exact h62.of (fun s1 s2 s3 s4 s5 s6 s7 s8 s9 s10 s11 s12 s13 s14 s15 s16 s17 s18 s19 s20 s21 s22 s23 s24 s25 s26 s27 s28 => J [(4000040, .undef), (2, I s1), (3, .d (.sl (.int .i64)) s2), (4, .d (.sl (.int .i64)) s3), (11, .ptr 0 0 []), (13, I s4), (14, I s5), (15, I s6), (16, .sl 3 s7 s8 s9 false), (17, I s10), (19, I s11), (25, .vec 4), (26, I s12), (27, I s13), (225, .sl 3 s14 s15 s16 false), (226, I s17), (227, I s18)] [.one (.pair (.sl (.int .i64)) (.pair (.int .i64) (.pair (.int .i64) (.pair (.int .i64) (.pair (.int .i64) (.pair (.int .i64) (.pair (.int .i64) (.pair (.sl (.int .i64)) .unit)))))))) (.agg [.vec 1, I s19, I s20, I s21, I s22, I s23, I s24, .vec 2]), .row (.int .i64) s25 false, .row (.int .i64) s26 false, .row (.pair (.int .i64) (.pair (.int .i64) (.pair (.int .i64) .unit))) s27 false, .row (.int .i64) s28 false]) (fun s1 s2 s3 s4 s5 s6 s7 s8 s9 s10 s11 s12 s13 s14 s15 s16 s17 s18 s19 s20 s21 s22 s23 s24 s25 s26 s27 s28 hb => loop_round2 (S := ofL Sl3r40) (L := lofL Ll3r40) hSl3r40 (inlOK _) hp hJ (by kernel_rfl) hb)

abbrev S18 : List (Nat × Pat × Sp) := [(24, none, sp24), (20, none, sp20v2)]
theorem hS18 : SpecOK E (ofL S18) := specOK_cons h24 (specOK_cons h20v2 (specOK_nil))
abbrev L18 : List (Nat × List Nat × Pat × LSp) := []
def sp18 : Sp := fun args τ K => asCons args fun a1 r1 => asP (.ptr 0 0 []) a1 <| asCons r1 fun a2 r2 => asD (.int .i64) a2 fun x1 => asNil r2 <| asCons τ fun a3 r3 => asOne (.pair (.opq .ptr) (.pair (.int .i64) (.pair (.int .i64) (.pair (.opq .map) (.pair .bool (.pair .bool .unit)))))) a3 fun a4 => asAgL a4 fun l5 => asCons l5 fun a6 r6 => asP (.ptr 1 0 []) a6 <| asCons r6 fun a7 r7 => asD (.int .i64) a7 fun x2 => asCons r7 fun a8 r8 => asD (.int .i64) a8 fun x3 => asCons r8 fun a9 r9 => asP (.mp 4) a9 <| asCons r9 fun a10 r10 => asD .bool a10 fun x4 => asCons r10 fun a11 r11 => asD .bool a11 fun x5 => asNil r11 <| asCons r3 fun a12 r12 => asOne (.pair (.sl (.int .i64)) (.pair (.int .i64) (.pair (.int .i64) (.pair (.int .i64) (.pair (.int .i64) (.pair (.int .i64) (.pair (.int .i64) (.pair (.sl (.int .i64)) .unit)))))))) a12 fun a13 => asAgL a13 fun l14 => asCons l14 fun a15 r15 => asP (.vec 2) a15 <| asCons r15 fun a16 r16 => asD (.int .i64) a16 fun x6 => asCons r16 fun a17 r17 => asD (.int .i64) a17 fun x7 => asCons r17 fun a18 r18 => asD (.int .i64) a18 fun x8 => asCons r18 fun a19 r19 => asD (.int .i64) a19 fun x9 => asCons r19 fun a20 r20 => asD (.int .i64) a20 fun x10 => asCons r20 fun a21 r21 => asD (.int .i64) a21 fun x11 => asCons r21 fun a22 r22 => asP (.vec 3) a22 <| asNil r22 <| asCons r12 fun a23 r23 => asRw (.int .i64) false a23 fun x12 => asCons r23 fun a24 r24 => asRw (.int .i64) false a24 fun x13 => asCons r24 fun a25 r25 => asKv (.int .i64) a25 fun x14 => asNil r25 <| c18 x1 x2 x3 x4 x5 x6 x7 x8 x9 x10 x11 x12 x13 x14 (fun z1 z2 z3 z4 z5 z6 z7 z8 z9 z10 z11 z12 z13 z14 => K (I z1) [.one (.pair (.opq .ptr) (.pair (.int .i64) (.pair (.int .i64) (.pair (.opq .map) (.pair .bool (.pair .bool .unit)))))) (.agg [.ptr 1 0 [], I z2, I z3, .mp 4, B z4, B z5]), .one (.pair (.sl (.int .i64)) (.pair (.int .i64) (.pair (.int .i64) (.pair (.int .i64) (.pair (.int .i64) (.pair (.int .i64) (.pair (.int .i64) (.pair (.sl (.int .i64)) .unit)))))))) (.agg [.vec 2, I z6, I z7, I z8, I z9, I z10, I z11, .vec 3]), .row (.int .i64) z12 false, .row (.int .i64) z13 false, .kv (.int .i64) z14])
theorem h18 : ∀ args τ K, sp18 args τ K → ACall E 18 args τ K := by
  intro args τ K h0
  unfold sp18 at h0
  obtain ⟨a1, r1, rfl, h1⟩ := asCons_inv h0; clear h0
  obtain ⟨rfl, h2⟩ := asP_inv h1; clear h1
  obtain ⟨a2, r2, rfl, h3⟩ := asCons_inv h2; clear h2
  obtain ⟨x1, rfl, h4⟩ := asD_inv h3; clear h3
  obtain ⟨rfl, h5⟩ := asNil_inv h4; clear h4
  obtain ⟨a3, r3, rfl, h6⟩ := asCons_inv h5; clear h5
  obtain ⟨a4, rfl, h7⟩ := asOne_inv h6; clear h6
  obtain ⟨l5, rfl, h8⟩ := asAgL_inv h7; clear h7
  obtain ⟨a6, r6, rfl, h9⟩ := asCons_inv h8; clear h8
  obtain ⟨rfl, h10⟩ := asP_inv h9; clear h9
  obtain ⟨a7, r7, rfl, h11⟩ := asCons_inv h10; clear h10
  obtain ⟨x2, rfl, h12⟩ := asD_inv h11; clear h11
  obtain ⟨a8, r8, rfl, h13⟩ := asCons_inv h12; clear h12
  obtain ⟨x3, rfl, h14⟩ := asD_inv h13; clear h13
  obtain ⟨a9, r9, rfl, h15⟩ := asCons_inv h14; clear h14
  obtain ⟨rfl, h16⟩ := asP_inv h15; clear h15
  obtain ⟨a10, r10, rfl, h17⟩ := asCons_inv h16; clear h16
  obtain ⟨x4, rfl, h18⟩ := asD_inv h17; clear h17
  obtain ⟨a11, r11, rfl, h19⟩ := asCons_inv h18; clear h18
  obtain ⟨x5, rfl, h20⟩ := asD_inv h19; clear h19
  obtain ⟨rfl, h21⟩ := asNil_inv h20; clear h20
  obtain ⟨a12, r12, rfl, h22⟩ := asCons_inv h21; clear h21
  obtain ⟨a13, rfl, h23⟩ := asOne_inv h22; clear h22
  obtain ⟨l14, rfl, h24⟩ := asAgL_inv h23; clear h23
  obtain ⟨a15, r15, rfl, h25⟩ := asCons_inv h24; clear h24
  obtain ⟨rfl, h26⟩ := asP_inv h25; clear h25
  obtain ⟨a16, r16, rfl, h27⟩ := asCons_inv h26; clear h26
  obtain ⟨x6, rfl, h28⟩ := asD_inv h27; clear h27
  obtain ⟨a17, r17, rfl, h29⟩ := asCons_inv h28; clear h28
  obtain ⟨x7, rfl, h30⟩ := asD_inv h29; clear h29
  obtain ⟨a18, r18, rfl, h31⟩ := asCons_inv h30; clear h30
  obtain ⟨x8, rfl, h32⟩ := asD_inv h31; clear h31
  obtain ⟨a19, r19, rfl, h33⟩ := asCons_inv h32; clear h32
  obtain ⟨x9, rfl, h34⟩ := asD_inv h33; clear h33
  obtain ⟨a20, r20, rfl, h35⟩ := asCons_inv h34; clear h34
  obtain ⟨x10, rfl, h36⟩ := asD_inv h35; clear h35
  obtain ⟨a21, r21, rfl, h37⟩ := asCons_inv h36; clear h36
  obtain ⟨x11, rfl, h38⟩ := asD_inv h37; clear h37
  obtain ⟨a22, r22, rfl, h39⟩ := asCons_inv h38; clear h38
  obtain ⟨rfl, h40⟩ := asP_inv h39; clear h39
  obtain ⟨rfl, h41⟩ := asNil_inv h40; clear h40
  obtain ⟨a23, r23, rfl, h42⟩ := asCons_inv h41; clear h41
  obtain ⟨x12, rfl, h43⟩ := asRw_inv h42; clear h42
  obtain ⟨a24, r24, rfl, h44⟩ := asCons_inv h43; clear h43
  obtain ⟨x13, rfl, h45⟩ := asRw_inv h44; clear h44
  obtain ⟨a25, r25, rfl, h46⟩ := asCons_inv h45; clear h45
  obtain ⟨x14, rfl, h47⟩ := asKv_inv h46; clear h46
  obtain ⟨rfl, h48⟩ := asNil_inv h47; clear h47
  exact ACall.spec2 (fn := Try.f18) (c := codeOf Try.f18) (S := ofL S18) (L := lofL L18) hS18 (by kernel_rfl) (by kernel_rfl) (inlOK _) (all_eq (by kernel_rfl : subsOf (E.info 18).keep (codeOf Try.f18) = []) (all_nil)) (by kernel_rfl) h48.of

abbrev Sl10r9 : List (Nat × Pat × Sp) := [(18, none, sp18)]
theorem hSl10r9 : SpecOK E (ofL Sl10r9) := specOK_cons h18 (specOK_nil)
abbrev Ll10r9 : List (Nat × List Nat × Pat × LSp) := []
def lsl10r9 : LSp := fun vs σ K => asCons vs fun a1 r1 => asP (.ptr 0 0 []) a1 <| asCons r1 fun a2 r2 => asD (.int .i64) a2 fun s1 => asCons r2 fun a3 r3 => asP (.ptr 3 0 []) a3 <| asCons r3 fun a4 r4 => asP (.vec 5) a4 <| asCons r4 fun a5 r5 => asD (.sl (.int .i64)) a5 fun s2 => asCons r5 fun a6 r6 => asD (.int .i64) a6 fun s3 => asCons r6 fun a7 r7 => asD (.int .i64) a7 fun s4 => asNil r7 <| asCons σ fun a8 r8 => asOne (.pair (.sl (.int .i64)) (.pair (.int .i64) (.pair (.int .i64) (.pair (.int .i64) (.pair (.int .i64) (.pair (.int .i64) (.pair (.int .i64) (.pair (.sl (.int .i64)) .unit)))))))) a8 fun a9 => asAgL a9 fun l10 => asCons l10 fun a11 r11 => asP (.vec 1) a11 <| asCons r11 fun a12 r12 => asD (.int .i64) a12 fun s5 => asCons r12 fun a13 r13 => asD (.int .i64) a13 fun s6 => asCons r13 fun a14 r14 => asD (.int .i64) a14 fun s7 => asCons r14 fun a15 r15 => asD (.int .i64) a15 fun s8 => asCons r15 fun a16 r16 => asD (.int .i64) a16 fun s9 => asCons r16 fun a17 r17 => asD (.int .i64) a17 fun s10 => asCons r17 fun a18 r18 => asP (.vec 2) a18 <| asNil r18 <| asCons r8 fun a19 r19 => asRw (.int .i64) false a19 fun s11 => asCons r19 fun a20 r20 => asRw (.int .i64) false a20 fun s12 => asCons r20 fun a21 r21 => asOne (.pair (.opq .ptr) (.pair (.int .i64) (.pair (.int .i64) (.pair (.opq .map) (.pair .bool (.pair .bool .unit)))))) a21 fun a22 => asAgL a22 fun l23 => asCons l23 fun a24 r24 => asP (.ptr 0 0 []) a24 <| asCons r24 fun a25 r25 => asD (.int .i64) a25 fun s13 => asCons r25 fun a26 r26 => asD (.int .i64) a26 fun s14 => asCons r26 fun a27 r27 => asP (.mp 4) a27 <| asCons r27 fun a28 r28 => asD .bool a28 fun s15 => asCons r28 fun a29 r29 => asD .bool a29 fun s16 => asNil r29 <| asCons r21 fun a30 r30 => asKv (.int .i64) a30 fun s17 => asCons r30 fun a31 r31 => asRw (.int .i64) false a31 fun s18 => asNil r31 <| l10r9 (fun z1 z2 z3 z4 z5 z6 z7 z8 z9 z10 z11 z12 z13 z14 z15 => K (.exit 0) [(0, .ptr 0 0 []), (6, I z1), (7, .ptr 3 0 []), (8, .vec 5)] [.one (.pair (.sl (.int .i64)) (.pair (.int .i64) (.pair (.int .i64) (.pair (.int .i64) (.pair (.int .i64) (.pair (.int .i64) (.pair (.int .i64) (.pair (.sl (.int .i64)) .unit)))))))) (.agg [.vec 1, I z2, I z3, I z4, I z5, I z6, I z7, .vec 2]), .row (.int .i64) z8 false, .row (.int .i64) z9 false, .one (.pair (.opq .ptr) (.pair (.int .i64) (.pair (.int .i64) (.pair (.opq .map) (.pair .bool (.pair .bool .unit)))))) (.agg [.ptr 0 0 [], I z10, I z11, .mp 4, B z12, B z13]), .kv (.int .i64) z14, .row (.int .i64) z15 false]) s1 s2 s3 s4 s5 s6 s7 s8 s9 s10 s11 s12 s13 s14 s15 s16 s17 s18
theorem l10r9v : LoopV E (inlF (PA (ACall E)) E 8) (E.info 10).keep 3 Try.f10.ntmps 11000009 (body Try.f10 9) ([0, 6, 7, 8, 50, 51, 52], lsl10r9) := by
  intro vs σ K (h0 : lsl10r9 vs σ K)
  unfold lsl10r9 at h0
  obtain ⟨a1, r1, rfl, h1⟩ := asCons_inv h0; clear h0
  obtain ⟨rfl, h2⟩ := asP_inv h1; clear h1
  obtain ⟨a2, r2, rfl, h3⟩ := asCons_inv h2; clear h2
  obtain ⟨s1, rfl, h4⟩ := asD_inv h3; clear h3
  obtain ⟨a3, r3, rfl, h5⟩ := asCons_inv h4; clear h4
  obtain ⟨rfl, h6⟩ := asP_inv h5; clear h5
  obtain ⟨a4, r4, rfl, h7⟩ := asCons_inv h6; clear h6
  obtain ⟨rfl, h8⟩ := asP_inv h7; clear h7
  obtain ⟨a5, r5, rfl, h9⟩ := asCons_inv h8; clear h8
  obtain ⟨s2, rfl, h10⟩ := asD_inv h9; clear h9
  obtain ⟨a6, r6, rfl, h11⟩ := asCons_inv h10; clear h10
  obtain ⟨s3, rfl, h12⟩ := asD_inv h11; clear h11
  obtain ⟨a7, r7, rfl, h13⟩ := asCons_inv h12; clear h12
  obtain ⟨s4, rfl, h14⟩ := asD_inv h13; clear h13
  obtain ⟨rfl, h15⟩ := asNil_inv h14; clear h14
  obtain ⟨a8, r8, rfl, h16⟩ := asCons_inv h15; clear h15
  obtain ⟨a9, rfl, h17⟩ := asOne_inv h16; clear h16
  obtain ⟨l10, rfl, h18⟩ := asAgL_inv h17; clear h17
  obtain ⟨a11, r11, rfl, h19⟩ := asCons_inv h18; clear h18
  obtain ⟨rfl, h20⟩ := asP_inv h19; clear h19
  obtain ⟨a12, r12, rfl, h21⟩ := asCons_inv h20; clear h20
  obtain ⟨s5, rfl, h22⟩ := asD_inv h21; clear h21
  obtain ⟨a13, r13, rfl, h23⟩ := asCons_inv h22; clear h22
  obtain ⟨s6, rfl, h24⟩ := asD_inv h23; clear h23
  obtain ⟨a14, r14, rfl, h25⟩ := asCons_inv h24; clear h24
  obtain ⟨s7, rfl, h26⟩ := asD_inv h25; clear h25
  obtain ⟨a15, r15, rfl, h27⟩ := asCons_inv h26; clear h26
  obtain ⟨s8, rfl, h28⟩ := asD_inv h27; clear h27
  obtain ⟨a16, r16, rfl, h29⟩ := asCons_inv h28; clear h28
  obtain ⟨s9, rfl, h30⟩ := asD_inv h29; clear h29
  obtain ⟨a17, r17, rfl, h31⟩ := asCons_inv h30; clear h30
  obtain ⟨s10, rfl, h32⟩ := asD_inv h31; clear h31
  obtain ⟨a18, r18, rfl, h33⟩ := asCons_inv h32; clear h32
  obtain ⟨rfl, h34⟩ := asP_inv h33; clear h33
  obtain ⟨rfl, h35⟩ := asNil_inv h34; clear h34
  obtain ⟨a19, r19, rfl, h36⟩ := asCons_inv h35; clear h35
  obtain ⟨s11, rfl, h37⟩ := asRw_inv h36; clear h36
  obtain ⟨a20, r20, rfl, h38⟩ := asCons_inv h37; clear h37
  obtain ⟨s12, rfl, h39⟩ := asRw_inv h38; clear h38
  obtain ⟨a21, r21, rfl, h40⟩ := asCons_inv h39; clear h39
  obtain ⟨a22, rfl, h41⟩ := asOne_inv h40; clear h40
  obtain ⟨l23, rfl, h42⟩ := asAgL_inv h41; clear h41
  obtain ⟨a24, r24, rfl, h43⟩ := asCons_inv h42; clear h42
  obtain ⟨rfl, h44⟩ := asP_inv h43; clear h43
  obtain ⟨a25, r25, rfl, h45⟩ := asCons_inv h44; clear h44
  obtain ⟨s13, rfl, h46⟩ := asD_inv h45; clear h45
  obtain ⟨a26, r26, rfl, h47⟩ := asCons_inv h46; clear h46
  obtain ⟨s14, rfl, h48⟩ := asD_inv h47; clear h47
  obtain ⟨a27, r27, rfl, h49⟩ := asCons_inv h48; clear h48
  obtain ⟨rfl, h50⟩ := asP_inv h49; clear h49
  obtain ⟨a28, r28, rfl, h51⟩ := asCons_inv h50; clear h50
  obtain ⟨s15, rfl, h52⟩ := asD_inv h51; clear h51
  obtain ⟨a29, r29, rfl, h53⟩ := asCons_inv h52; clear h52
  obtain ⟨s16, rfl, h54⟩ := asD_inv h53; clear h53
  obtain ⟨rfl, h55⟩ := asNil_inv h54; clear h54
  obtain ⟨a30, r30, rfl, h56⟩ := asCons_inv h55; clear h55
  obtain ⟨s17, rfl, h57⟩ := asKv_inv h56; clear h56
  obtain ⟨a31, r31, rfl, h58⟩ := asCons_inv h57; clear h57
  obtain ⟨s18, rfl, h59⟩ := asRw_inv h58; clear h58
  obtain ⟨rfl, h60⟩ := asNil_inv h59; clear h59
  intro J hJ
  have hp : ∀ c' ∈ subsOf (E.info 10).keep (body Try.f10 9), SubOK E (inlF (PA (ACall E)) E 8) (E.info 10).keep 3 Try.f10.ntmps (lofL Ll10r9) c' := all_eq (by kernel_rfl : subsOf (E.info 10).keep (body Try.f10 9) = []) (all_nil)
  exact h60.of (fun s1 s2 s3 s4 s5 s6 s7 s8 s9 s10 s11 s12 s13 s14 s15 s16 s17 s18 => J [(11000009, .undef), (0, .ptr 0 0 []), (6, I s1), (7, .ptr 3 0 []), (8, .vec 5), (50, .d (.sl (.int .i64)) s2), (51, I s3), (52, I s4)] [.one (.pair (.sl (.int .i64)) (.pair (.int .i64) (.pair (.int .i64) (.pair (.int .i64) (.pair (.int .i64) (.pair (.int .i64) (.pair (.int .i64) (.pair (.sl (.int .i64)) .unit)))))))) (.agg [.vec 1, I s5, I s6, I s7, I s8, I s9, I s10, .vec 2]), .row (.int .i64) s11 false, .row (.int .i64) s12 false, .one (.pair (.opq .ptr) (.pair (.int .i64) (.pair (.int .i64) (.pair (.opq .map) (.pair .bool (.pair .bool .unit)))))) (.agg [.ptr 0 0 [], I s13, I s14, .mp 4, B s15, B s16]), .kv (.int .i64) s17, .row (.int .i64) s18 false]) (fun s1 s2 s3 s4 s5 s6 s7 s8 s9 s10 s11 s12 s13 s14 s15 s16 s17 s18 hb => loop_round2 (S := ofL Sl10r9) (L := lofL Ll10r9) hSl10r9 (inlOK _) hp hJ (by kernel_rfl) hb)

abbrev Sl19r3 : List (Nat × Pat × Sp) := [(18, none, sp18)]
theorem hSl19r3 : SpecOK E (ofL Sl19r3) := specOK_cons h18 (specOK_nil)
abbrev Ll19r3 : List (Nat × List Nat × Pat × LSp) := []
def lsl19r3 : LSp := fun vs σ K => asCons vs fun a1 r1 => asP (.ptr 0 0 []) a1 <| asCons r1 fun a2 r2 => asD (.int .i64) a2 fun s1 => asCons r2 fun a3 r3 => asD (.int .i64) a3 fun s2 => asCons r3 fun a4 r4 => asD (.int .i64) a4 fun s3 => asNil r4 <| asCons σ fun a5 r5 => asOne (.pair (.opq .ptr) (.pair (.int .i64) (.pair (.int .i64) (.pair (.opq .map) (.pair .bool (.pair .bool .unit)))))) a5 fun a6 => asAgL a6 fun l7 => asCons l7 fun a8 r8 => asP (.ptr 1 0 []) a8 <| asCons r8 fun a9 r9 => asD (.int .i64) a9 fun s4 => asCons r9 fun a10 r10 => asD (.int .i64) a10 fun s5 => asCons r10 fun a11 r11 => asP (.mp 4) a11 <| asCons r11 fun a12 r12 => asD .bool a12 fun s6 => asCons r12 fun a13 r13 => asD .bool a13 fun s7 => asNil r13 <| asCons r5 fun a14 r14 => asOne (.pair (.sl (.int .i64)) (.pair (.int .i64) (.pair (.int .i64) (.pair (.int .i64) (.pair (.int .i64) (.pair (.int .i64) (.pair (.int .i64) (.pair (.sl (.int .i64)) .unit)))))))) a14 fun a15 => asAgL a15 fun l16 => asCons l16 fun a17 r17 => asP (.vec 2) a17 <| asCons r17 fun a18 r18 => asD (.int .i64) a18 fun s8 => asCons r18 fun a19 r19 => asD (.int .i64) a19 fun s9 => asCons r19 fun a20 r20 => asD (.int .i64) a20 fun s10 => asCons r20 fun a21 r21 => asD (.int .i64) a21 fun s11 => asCons r21 fun a22 r22 => asD (.int .i64) a22 fun s12 => asCons r22 fun a23 r23 => asD (.int .i64) a23 fun s13 => asCons r23 fun a24 r24 => asP (.vec 3) a24 <| asNil r24 <| asCons r14 fun a25 r25 => asRw (.int .i64) false a25 fun s14 => asCons r25 fun a26 r26 => asRw (.int .i64) false a26 fun s15 => asCons r26 fun a27 r27 => asKv (.int .i64) a27 fun s16 => asNil r27 <| l19r3 (fun z1 z2 z3 z4 z5 z6 z7 z8 z9 z10 z11 z12 z13 z14 z15 => K (.exit 2) [(0, .ptr 0 0 []), (1, I z1), (5, I z2)] [.one (.pair (.opq .ptr) (.pair (.int .i64) (.pair (.int .i64) (.pair (.opq .map) (.pair .bool (.pair .bool .unit)))))) (.agg [.ptr 1 0 [], I z3, I z4, .mp 4, B z5, B z6]), .one (.pair (.sl (.int .i64)) (.pair (.int .i64) (.pair (.int .i64) (.pair (.int .i64) (.pair (.int .i64) (.pair (.int .i64) (.pair (.int .i64) (.pair (.sl (.int .i64)) .unit)))))))) (.agg [.vec 2, I z7, I z8, I z9, I z10, I z11, I z12, .vec 3]), .row (.int .i64) z13 false, .row (.int .i64) z14 false, .kv (.int .i64) z15]) s1 s2 s3 s4 s5 s6 s7 s8 s9 s10 s11 s12 s13 s14 s15 s16
theorem l19r3v : LoopV E (inlF (PA (ACall E)) E 8) (E.info 19).keep 5 Try.f19.ntmps 20000003 (body Try.f19 3) ([0, 1, 5, 7], lsl19r3) := by
  intro vs σ K (h0 : lsl19r3 vs σ K)
  unfold lsl19r3 at h0
  obtain ⟨a1, r1, rfl, h1⟩ := asCons_inv h0; clear h0
  obtain ⟨rfl, h2⟩ := asP_inv h1; clear h1
  obtain ⟨a2, r2, rfl, h3⟩ := asCons_inv h2; clear h2
  obtain ⟨s1, rfl, h4⟩ := asD_inv h3; clear h3
  obtain ⟨a3, r3, rfl, h5⟩ := asCons_inv h4; clear h4
  obtain ⟨s2, rfl, h6⟩ := asD_inv h5; clear h5
  obtain ⟨a4, r4, rfl, h7⟩ := asCons_inv h6; clear h6
  obtain ⟨s3, rfl, h8⟩ := asD_inv h7; clear h7
  obtain ⟨rfl, h9⟩ := asNil_inv h8; clear h8
  obtain ⟨a5, r5, rfl, h10⟩ := asCons_inv h9; clear h9
  obtain ⟨a6, rfl, h11⟩ := asOne_inv h10; clear h10
  obtain ⟨l7, rfl, h12⟩ := asAgL_inv h11; clear h11
  obtain ⟨a8, r8, rfl, h13⟩ := asCons_inv h12; clear h12
  obtain ⟨rfl, h14⟩ := asP_inv h13; clear h13
  obtain ⟨a9, r9, rfl, h15⟩ := asCons_inv h14; clear h14
  obtain ⟨s4, rfl, h16⟩ := asD_inv h15; clear h15
  obtain ⟨a10, r10, rfl, h17⟩ := asCons_inv h16; clear h16
  obtain ⟨s5, rfl, h18⟩ := asD_inv h17; clear h17
  obtain ⟨a11, r11, rfl, h19⟩ := asCons_inv h18; clear h18
  obtain ⟨rfl, h20⟩ := asP_inv h19; clear h19
  obtain ⟨a12, r12, rfl, h21⟩ := asCons_inv h20; clear h20
  obtain ⟨s6, rfl, h22⟩ := asD_inv h21; clear h21
  obtain ⟨a13, r13, rfl, h23⟩ := asCons_inv h22; clear h22
  obtain ⟨s7, rfl, h24⟩ := asD_inv h23; clear h23
  obtain ⟨rfl, h25⟩ := asNil_inv h24; clear h24
  obtain ⟨a14, r14, rfl, h26⟩ := asCons_inv h25; clear h25
  obtain ⟨a15, rfl, h27⟩ := asOne_inv h26; clear h26
  obtain ⟨l16, rfl, h28⟩ := asAgL_inv h27; clear h27
  obtain ⟨a17, r17, rfl, h29⟩ := asCons_inv h28; clear h28
  obtain ⟨rfl, h30⟩ := asP_inv h29; clear h29
  obtain ⟨a18, r18, rfl, h31⟩ := asCons_inv h30; clear h30
  obtain ⟨s8, rfl, h32⟩ := asD_inv h31; clear h31
  obtain ⟨a19, r19, rfl, h33⟩ := asCons_inv h32; clear h32
  obtain ⟨s9, rfl, h34⟩ := asD_inv h33; clear h33
  obtain ⟨a20, r20, rfl, h35⟩ := asCons_inv h34; clear h34
  obtain ⟨s10, rfl, h36⟩ := asD_inv h35; clear h35
  obtain ⟨a21, r21, rfl, h37⟩ := asCons_inv h36; clear h36
  obtain ⟨s11, rfl, h38⟩ := asD_inv h37; clear h37
  obtain ⟨a22, r22, rfl, h39⟩ := asCons_inv h38; clear h38
  obtain ⟨s12, rfl, h40⟩ := asD_inv h39; clear h39
  obtain ⟨a23, r23, rfl, h41⟩ := asCons_inv h40; clear h40
  obtain ⟨s13, rfl, h42⟩ := asD_inv h41; clear h41
  obtain ⟨a24, r24, rfl, h43⟩ := asCons_inv h42; clear h42
  obtain ⟨rfl, h44⟩ := asP_inv h43; clear h43
  obtain ⟨rfl, h45⟩ := asNil_inv h44; clear h44
  obtain ⟨a25, r25, rfl, h46⟩ := asCons_inv h45; clear h45
  obtain ⟨s14, rfl, h47⟩ := asRw_inv h46; clear h46
  obtain ⟨a26, r26, rfl, h48⟩ := asCons_inv h47; clear h47
  obtain ⟨s15, rfl, h49⟩ := asRw_inv h48; clear h48
  obtain ⟨a27, r27, rfl, h50⟩ := asCons_inv h49; clear h49
  obtain ⟨s16, rfl, h51⟩ := asKv_inv h50; clear h50
  obtain ⟨rfl, h52⟩ := asNil_inv h51; clear h51
  intro J hJ
  have hp : ∀ c' ∈ subsOf (E.info 19).keep (body Try.f19 3), SubOK E (inlF (PA (ACall E)) E 8) (E.info 19).keep 5 Try.f19.ntmps (lofL Ll19r3) c' := all_eq (by kernel_rfl : subsOf (E.info 19).keep (body Try.f19 3) = []) (all_nil)
  exact h52.of (fun s1 s2 s3 s4 s5 s6 s7 s8 s9 s10 s11 s12 s13 s14 s15 s16 => J [(20000003, .undef), (0, .ptr 0 0 []), (1, I s1), (5, I s2), (7, I s3)] [.one (.pair (.opq .ptr) (.pair (.int .i64) (.pair (.int .i64) (.pair (.opq .map) (.pair .bool (.pair .bool .unit)))))) (.agg [.ptr 1 0 [], I s4, I s5, .mp 4, B s6, B s7]), .one (.pair (.sl (.int .i64)) (.pair (.int .i64) (.pair (.int .i64) (.pair (.int .i64) (.pair (.int .i64) (.pair (.int .i64) (.pair (.int .i64) (.pair (.sl (.int .i64)) .unit)))))))) (.agg [.vec 2, I s8, I s9, I s10, I s11, I s12, I s13, .vec 3]), .row (.int .i64) s14 false, .row (.int .i64) s15 false, .kv (.int .i64) s16]) (fun s1 s2 s3 s4 s5 s6 s7 s8 s9 s10 s11 s12 s13 s14 s15 s16 hb => loop_round2 (S := ofL Sl19r3) (L := lofL Ll19r3) hSl19r3 (inlOK _) hp hJ (by kernel_rfl) hb)

abbrev Sl19r0 : List (Nat × Pat × Sp) := [(21, none, sp21)]
theorem hSl19r0 : SpecOK E (ofL Sl19r0) := specOK_cons h21 (specOK_nil)
abbrev Ll19r0 : List (Nat × List Nat × Pat × LSp) := [(20000003, [0, 1, 5, 7], none, lsl19r3)]
def lsl19r0 : LSp := fun vs σ K => asCons vs fun a1 r1 => asP (.ptr 0 0 []) a1 <| asCons r1 fun a2 r2 => asD (.int .i64) a2 fun s1 => asNil r2 <| asCons σ fun a3 r3 => asOne (.pair (.opq .ptr) (.pair (.int .i64) (.pair (.int .i64) (.pair (.opq .map) (.pair .bool (.pair .bool .unit)))))) a3 fun a4 => asAgL a4 fun l5 => asCons l5 fun a6 r6 => asP (.ptr 1 0 []) a6 <| asCons r6 fun a7 r7 => asD (.int .i64) a7 fun s2 => asCons r7 fun a8 r8 => asD (.int .i64) a8 fun s3 => asCons r8 fun a9 r9 => asP (.mp 4) a9 <| asCons r9 fun a10 r10 => asD .bool a10 fun s4 => asCons r10 fun a11 r11 => asD .bool a11 fun s5 => asNil r11 <| asCons r3 fun a12 r12 => asOne (.pair (.sl (.int .i64)) (.pair (.int .i64) (.pair (.int .i64) (.pair (.int .i64) (.pair (.int .i64) (.pair (.int .i64) (.pair (.int .i64) (.pair (.sl (.int .i64)) .unit)))))))) a12 fun a13 => asAgL a13 fun l14 => asCons l14 fun a15 r15 => asP (.vec 2) a15 <| asCons r15 fun a16 r16 => asD (.int .i64) a16 fun s6 => asCons r16 fun a17 r17 => asD (.int .i64) a17 fun s7 => asCons r17 fun a18 r18 => asD (.int .i64) a18 fun s8 => asCons r18 fun a19 r19 => asD (.int .i64) a19 fun s9 => asCons r19 fun a20 r20 => asD (.int .i64) a20 fun s10 => asCons r20 fun a21 r21 => asD (.int .i64) a21 fun s11 => asCons r21 fun a22 r22 => asP (.vec 3) a22 <| asNil r22 <| asCons r12 fun a23 r23 => asRw (.int .i64) false a23 fun s12 => asCons r23 fun a24 r24 => asRw (.int .i64) false a24 fun s13 => asCons r24 fun a25 r25 => asKv (.int .i64) a25 fun s14 => asNil r25 <| l19r0 (fun z1 z2 z3 z4 z5 z6 z7 z8 z9 z10 z11 z12 z13 => K (.exit 0) [] [.one (.pair (.opq .ptr) (.pair (.int .i64) (.pair (.int .i64) (.pair (.opq .map) (.pair .bool (.pair .bool .unit)))))) (.agg [.ptr 1 0 [], I z1, I z2, .mp 4, B z3, B z4]), .one (.pair (.sl (.int .i64)) (.pair (.int .i64) (.pair (.int .i64) (.pair (.int .i64) (.pair (.int .i64) (.pair (.int .i64) (.pair (.int .i64) (.pair (.sl (.int .i64)) .unit)))))))) (.agg [.vec 2, I z5, I z6, I z7, I z8, I z9, I z10, .vec 3]), .row (.int .i64) z11 false, .row (.int .i64) z12 false, .kv (.int .i64) z13]) s1 s2 s3 s4 s5 s6 s7 s8 s9 s10 s11 s12 s13 s14
theorem l19r0v : LoopV E (inlF (PA (ACall E)) E 8) (E.info 19).keep 5 Try.f19.ntmps 20000000 (body Try.f19 0) ([0, 1], lsl19r0) := by
  intro vs σ K (h0 : lsl19r0 vs σ K)
  unfold lsl19r0 at h0
  obtain ⟨a1, r1, rfl, h1⟩ := asCons_inv h0; clear h0
  obtain ⟨rfl, h2⟩ := asP_inv h1; clear h1
  obtain ⟨a2, r2, rfl, h3⟩ := asCons_inv h2; clear h2
  obtain ⟨s1, rfl, h4⟩ := asD_inv h3; clear h3
  obtain ⟨rfl, h5⟩ := asNil_inv h4; clear h4
  obtain ⟨a3, r3, rfl, h6⟩ := asCons_inv h5; clear h5
  obtain ⟨a4, rfl, h7⟩ := asOne_inv h6; clear h6
  obtain ⟨l5, rfl, h8⟩ := asAgL_inv h7; clear h7
  obtain ⟨a6, r6, rfl, h9⟩ := asCons_inv h8; clear h8
  obtain ⟨rfl, h10⟩ := asP_inv h9; clear h9
  obtain ⟨a7, r7, rfl, h11⟩ := asCons_inv h10; clear h10
  obtain ⟨s2, rfl, h12⟩ := asD_inv h11; clear h11
  obtain ⟨a8, r8, rfl, h13⟩ := asCons_inv h12; clear h12
  obtain ⟨s3, rfl, h14⟩ := asD_inv h13; clear h13
  obtain ⟨a9, r9, rfl, h15⟩ := asCons_inv h14; clear h14
  obtain ⟨rfl, h16⟩ := asP_inv h15; clear h15
  obtain ⟨a10, r10, rfl, h17⟩ := asCons_inv h16; clear h16
  obtain ⟨s4, rfl, h18⟩ := asD_inv h17; clear h17
  obtain ⟨a11, r11, rfl, h19⟩ := asCons_inv h18; clear h18
  obtain ⟨s5, rfl, h20⟩ := asD_inv h19; clear h19
  obtain ⟨rfl, h21⟩ := asNil_inv h20; clear h20
  obtain ⟨a12, r12, rfl, h22⟩ := asCons_inv h21; clear h21
  obtain ⟨a13, rfl, h23⟩ := asOne_inv h22; clear h22
  obtain ⟨l14, rfl, h24⟩ := asAgL_inv h23; clear h23
  obtain ⟨a15, r15, rfl, h25⟩ := asCons_inv h24; clear h24
  obtain ⟨rfl, h26⟩ := asP_inv h25; clear h25
  obtain ⟨a16, r16, rfl, h27⟩ := asCons_inv h26; clear h26
  obtain ⟨s6, rfl, h28⟩ := asD_inv h27; clear h27
  obtain ⟨a17, r17, rfl, h29⟩ := asCons_inv h28; clear h28
  obtain ⟨s7, rfl, h30⟩ := asD_inv h29; clear h29
  obtain ⟨a18, r18, rfl, h31⟩ := asCons_inv h30; clear h30
  obtain ⟨s8, rfl, h32⟩ := asD_inv h31; clear h31
  obtain ⟨a19, r19, rfl, h33⟩ := asCons_inv h32; clear h32
  obtain ⟨s9, rfl, h34⟩ := asD_inv h33; clear h33
  obtain ⟨a20, r20, rfl, h35⟩ := asCons_inv h34; clear h34
  obtain ⟨s10, rfl, h36⟩ := asD_inv h35; clear h35
  obtain ⟨a21, r21, rfl, h37⟩ := asCons_inv h36; clear h36
  obtain ⟨s11, rfl, h38⟩ := asD_inv h37; clear h37
  obtain ⟨a22, r22, rfl, h39⟩ := asCons_inv h38; clear h38
  obtain ⟨rfl, h40⟩ := asP_inv h39; clear h39
  obtain ⟨rfl, h41⟩ := asNil_inv h40; clear h40
  obtain ⟨a23, r23, rfl, h42⟩ := asCons_inv h41; clear h41
  obtain ⟨s12, rfl, h43⟩ := asRw_inv h42; clear h42
  obtain ⟨a24, r24, rfl, h44⟩ := asCons_inv h43; clear h43
  obtain ⟨s13, rfl, h45⟩ := asRw_inv h44; clear h44
  obtain ⟨a25, r25, rfl, h46⟩ := asCons_inv h45; clear h45
  obtain ⟨s14, rfl, h47⟩ := asKv_inv h46; clear h46
  obtain ⟨rfl, h48⟩ := asNil_inv h47; clear h47
  intro J hJ
  have hp : ∀ c' ∈ subsOf (E.info 19).keep (body Try.f19 0), SubOK E (inlF (PA (ACall E)) E 8) (E.info 19).keep 5 Try.f19.ntmps (lofL Ll19r0) c' := all_eq (by kernel_rfl : subsOf (E.info 19).keep (body Try.f19 0) = [.loop (body Try.f19 3)]) (all_cons (loopOK_of (mk := 20000003) (sl := [0, 1, 5, 7]) (ss := [([0, 1, 5, 7], lsl19r3)]) (by kernel_rfl) (by kernel_rfl) (all_cons l19r3v (all_nil))) (all_nil))
  exact h48.of (fun s1 s2 s3 s4 s5 s6 s7 s8 s9 s10 s11 s12 s13 s14 => J [(20000000, .undef), (0, .ptr 0 0 []), (1, I s1)] [.one (.pair (.opq .ptr) (.pair (.int .i64) (.pair (.int .i64) (.pair (.opq .map) (.pair .bool (.pair .bool .unit)))))) (.agg [.ptr 1 0 [], I s2, I s3, .mp 4, B s4, B s5]), .one (.pair (.sl (.int .i64)) (.pair (.int .i64) (.pair (.int .i64) (.pair (.int .i64) (.pair (.int .i64) (.pair (.int .i64) (.pair (.int .i64) (.pair (.sl (.int .i64)) .unit)))))))) (.agg [.vec 2, I s6, I s7, I s8, I s9, I s10, I s11, .vec 3]), .row (.int .i64) s12 false, .row (.int .i64) s13 false, .kv (.int .i64) s14]) (fun s1 s2 s3 s4 s5 s6 s7 s8 s9 s10 s11 s12 s13 s14 hb => loop_round2 (S := ofL Sl19r0) (L := lofL Ll19r0) hSl19r0 (inlOK _) hp hJ (by kernel_rfl) hb)

abbrev S19 : List (Nat × Pat × Sp) := []
theorem hS19 : SpecOK E (ofL S19) := specOK_nil
abbrev L19 : List (Nat × List Nat × Pat × LSp) := [(20000000, [0, 1], none, lsl19r0)]
def sp19 : Sp := fun args τ K => asCons args fun a1 r1 => asP (.ptr 0 0 []) a1 <| asCons r1 fun a2 r2 => asD (.int .i64) a2 fun x1 => asNil r2 <| asCons τ fun a3 r3 => asOne (.pair (.opq .ptr) (.pair (.int .i64) (.pair (.int .i64) (.pair (.opq .map) (.pair .bool (.pair .bool .unit)))))) a3 fun a4 => asAgL a4 fun l5 => asCons l5 fun a6 r6 => asP (.ptr 1 0 []) a6 <| asCons r6 fun a7 r7 => asD (.int .i64) a7 fun x2 => asCons r7 fun a8 r8 => asD (.int .i64) a8 fun x3 => asCons r8 fun a9 r9 => asP (.mp 4) a9 <| asCons r9 fun a10 r10 => asD .bool a10 fun x4 => asCons r10 fun a11 r11 => asD .bool a11 fun x5 => asNil r11 <| asCons r3 fun a12 r12 => asOne (.pair (.sl (.int .i64)) (.pair (.int .i64) (.pair (.int .i64) (.pair (.int .i64) (.pair (.int .i64) (.pair (.int .i64) (.pair (.int .i64) (.pair (.sl (.int .i64)) .unit)))))))) a12 fun a13 => asAgL a13 fun l14 => asCons l14 fun a15 r15 => asP (.vec 2) a15 <| asCons r15 fun a16 r16 => asD (.int .i64) a16 fun x6 => asCons r16 fun a17 r17 => asD (.int .i64) a17 fun x7 => asCons r17 fun a18 r18 => asD (.int .i64) a18 fun x8 => asCons r18 fun a19 r19 => asD (.int .i64) a19 fun x9 => asCons r19 fun a20 r20 => asD (.int .i64) a20 fun x10 => asCons r20 fun a21 r21 => asD (.int .i64) a21 fun x11 => asCons r21 fun a22 r22 => asP (.vec 3) a22 <| asNil r22 <| asCons r12 fun a23 r23 => asRw (.int .i64) false a23 fun x12 => asCons r23 fun a24 r24 => asRw (.int .i64) false a24 fun x13 => asCons r24 fun a25 r25 => asKv (.int .i64) a25 fun x14 => asNil r25 <| c19 x1 x2 x3 x4 x5 x6 x7 x8 x9 x10 x11 x12 x13 x14 (fun z1 z2 z3 z4 z5 z6 z7 z8 z9 z10 z11 z12 z13 => K (.tup []) [.one (.pair (.opq .ptr) (.pair (.int .i64) (.pair (.int .i64) (.pair (.opq .map) (.pair .bool (.pair .bool .unit)))))) (.agg [.ptr 1 0 [], I z1, I z2, .mp 4, B z3, B z4]), .one (.pair (.sl (.int .i64)) (.pair (.int .i64) (.pair (.int .i64) (.pair (.int .i64) (.pair (.int .i64) (.pair (.int .i64) (.pair (.int .i64) (.pair (.sl (.int .i64)) .unit)))))))) (.agg [.vec 2, I z5, I z6, I z7, I z8, I z9, I z10, .vec 3]), .row (.int .i64) z11 false, .row (.int .i64) z12 false, .kv (.int .i64) z13])
theorem h19 : ∀ args τ K, sp19 args τ K → ACall E 19 args τ K := by
  intro args τ K h0
  unfold sp19 at h0
  obtain ⟨a1, r1, rfl, h1⟩ := asCons_inv h0; clear h0
  obtain ⟨rfl, h2⟩ := asP_inv h1; clear h1
  obtain ⟨a2, r2, rfl, h3⟩ := asCons_inv h2; clear h2
  obtain ⟨x1, rfl, h4⟩ := asD_inv h3; clear h3
  obtain ⟨rfl, h5⟩ := asNil_inv h4; clear h4
  obtain ⟨a3, r3, rfl, h6⟩ := asCons_inv h5; clear h5
  obtain ⟨a4, rfl, h7⟩ := asOne_inv h6; clear h6
  obtain ⟨l5, rfl, h8⟩ := asAgL_inv h7; clear h7
  obtain ⟨a6, r6, rfl, h9⟩ := asCons_inv h8; clear h8
  obtain ⟨rfl, h10⟩ := asP_inv h9; clear h9
  obtain ⟨a7, r7, rfl, h11⟩ := asCons_inv h10; clear h10
  obtain ⟨x2, rfl, h12⟩ := asD_inv h11; clear h11
  obtain ⟨a8, r8, rfl, h13⟩ := asCons_inv h12; clear h12
  obtain ⟨x3, rfl, h14⟩ := asD_inv h13; clear h13
  obtain ⟨a9, r9, rfl, h15⟩ := asCons_inv h14; clear h14
  obtain ⟨rfl, h16⟩ := asP_inv h15; clear h15
  obtain ⟨a10, r10, rfl, h17⟩ := asCons_inv h16; clear h16
  obtain ⟨x4, rfl, h18⟩ := asD_inv h17; clear h17
  obtain ⟨a11, r11, rfl, h19⟩ := asCons_inv h18; clear h18
  obtain ⟨x5, rfl, h20⟩ := asD_inv h19; clear h19
  obtain ⟨rfl, h21⟩ := asNil_inv h20; clear h20
  obtain ⟨a12, r12, rfl, h22⟩ := asCons_inv h21; clear h21
  obtain ⟨a13, rfl, h23⟩ := asOne_inv h22; clear h22
  obtain ⟨l14, rfl, h24⟩ := asAgL_inv h23; clear h23
  obtain ⟨a15, r15, rfl, h25⟩ := asCons_inv h24; clear h24
  obtain ⟨rfl, h26⟩ := asP_inv h25; clear h25
  obtain ⟨a16, r16, rfl, h27⟩ := asCons_inv h26; clear h26
  obtain ⟨x6, rfl, h28⟩ := asD_inv h27; clear h27
  obtain ⟨a17, r17, rfl, h29⟩ := asCons_inv h28; clear h28
  obtain ⟨x7, rfl, h30⟩ := asD_inv h29; clear h29
  obtain ⟨a18, r18, rfl, h31⟩ := asCons_inv h30; clear h30
  obtain ⟨x8, rfl, h32⟩ := asD_inv h31; clear h31
  obtain ⟨a19, r19, rfl, h33⟩ := asCons_inv h32; clear h32
  obtain ⟨x9, rfl, h34⟩ := asD_inv h33; clear h33
  obtain ⟨a20, r20, rfl, h35⟩ := asCons_inv h34; clear h34
  obtain ⟨x10, rfl, h36⟩ := asD_inv h35; clear h35
  obtain ⟨a21, r21, rfl, h37⟩ := asCons_inv h36; clear h36
  obtain ⟨x11, rfl, h38⟩ := asD_inv h37; clear h37
  obtain ⟨a22, r22, rfl, h39⟩ := asCons_inv h38; clear h38
  obtain ⟨rfl, h40⟩ := asP_inv h39; clear h39
  obtain ⟨rfl, h41⟩ := asNil_inv h40; clear h40
  obtain ⟨a23, r23, rfl, h42⟩ := asCons_inv h41; clear h41
  obtain ⟨x12, rfl, h43⟩ := asRw_inv h42; clear h42
  obtain ⟨a24, r24, rfl, h44⟩ := asCons_inv h43; clear h43
  obtain ⟨x13, rfl, h45⟩ := asRw_inv h44; clear h44
  obtain ⟨a25, r25, rfl, h46⟩ := asCons_inv h45; clear h45
  obtain ⟨x14, rfl, h47⟩ := asKv_inv h46; clear h46
  obtain ⟨rfl, h48⟩ := asNil_inv h47; clear h47
  exact ACall.spec2 (fn := Try.f19) (c := codeOf Try.f19) (S := ofL S19) (L := lofL L19) hS19 (by kernel_rfl) (by kernel_rfl) (inlOK _) (all_eq (by kernel_rfl : subsOf (E.info 19).keep (codeOf Try.f19) = [.loop (body Try.f19 0)]) (all_cons (loopOK_of (mk := 20000000) (sl := [0, 1]) (ss := [([0, 1], lsl19r0)]) (by kernel_rfl) (by kernel_rfl) (all_cons l19r0v (all_nil))) (all_nil))) (by kernel_rfl) h48.of

abbrev S10 : List (Nat × Pat × Sp) := [(19, none, sp19)]
theorem hS10 : SpecOK E (ofL S10) := specOK_cons h19 (specOK_nil)
abbrev L10 : List (Nat × List Nat × Pat × LSp) := [(11000009, [0, 6, 7, 8, 50, 51, 52], none, lsl10r9)]
def sp10 : Sp := fun args τ K => asCons args fun a1 r1 => asP (.ptr 0 0 []) a1 <| asCons r1 fun a2 r2 => asD (.sl (.int .i64)) a2 fun x1 => asNil r2 <| asCons τ fun a3 r3 => asOne (.pair (.sl (.int .i64)) (.pair (.int .i64) (.pair (.int .i64) (.pair (.int .i64) (.pair (.int .i64) (.pair (.int .i64) (.pair (.int .i64) (.pair (.sl (.int .i64)) .unit)))))))) a3 fun a4 => asAgL a4 fun l5 => asCons l5 fun a6 r6 => asP (.vec 1) a6 <| asCons r6 fun a7 r7 => asD (.int .i64) a7 fun x2 => asCons r7 fun a8 r8 => asD (.int .i64) a8 fun x3 => asCons r8 fun a9 r9 => asD (.int .i64) a9 fun x4 => asCons r9 fun a10 r10 => asD (.int .i64) a10 fun x5 => asCons r10 fun a11 r11 => asD (.int .i64) a11 fun x6 => asCons r11 fun a12 r12 => asD (.int .i64) a12 fun x7 => asCons r12 fun a13 r13 => asP (.vec 2) a13 <| asNil r13 <| asCons r3 fun a14 r14 => asRw (.int .i64) false a14 fun x8 => asCons r14 fun a15 r15 => asRw (.int .i64) false a15 fun x9 => asNil r15 <| c10 x1 x2 x3 x4 x5 x6 x7 x8 x9 (fun z1 z2 z3 z4 z5 z6 z7 z8 z9 z10 => K (.tup [.vec 3, I z1]) [.one (.pair (.sl (.int .i64)) (.pair (.int .i64) (.pair (.int .i64) (.pair (.int .i64) (.pair (.int .i64) (.pair (.int .i64) (.pair (.int .i64) (.pair (.sl (.int .i64)) .unit)))))))) (.agg [.vec 1, I z2, I z3, I z4, I z5, I z6, I z7, .vec 2]), .row (.int .i64) z8 false, .row (.int .i64) z9 false, .row (.int .i64) z10 false]) (fun z1 z2 z3 z4 z5 z6 z7 z8 z9 z10 => K (.tup [.vec 3, I z1]) [.one (.pair (.sl (.int .i64)) (.pair (.int .i64) (.pair (.int .i64) (.pair (.int .i64) (.pair (.int .i64) (.pair (.int .i64) (.pair (.int .i64) (.pair (.sl (.int .i64)) .unit)))))))) (.agg [.vec 1, I z2, I z3, I z4, I z5, I z6, I z7, .nils (.int .i64)]), .row (.int .i64) z8 false, .row (.int .i64) z9 false, .row (.int .i64) z10 false])
theorem h10 : ∀ args τ K, sp10 args τ K → ACall E 10 args τ K := by
  intro args τ K h0
  unfold sp10 at h0
  obtain ⟨a1, r1, rfl, h1⟩ := asCons_inv h0; clear h0
  obtain ⟨rfl, h2⟩ := asP_inv h1; clear h1
  obtain ⟨a2, r2, rfl, h3⟩ := asCons_inv h2; clear h2
  obtain ⟨x1, rfl, h4⟩ := asD_inv h3; clear h3
  obtain ⟨rfl, h5⟩ := asNil_inv h4; clear h4
  obtain ⟨a3, r3, rfl, h6⟩ := asCons_inv h5; clear h5
  obtain ⟨a4, rfl, h7⟩ := asOne_inv h6; clear h6
  obtain ⟨l5, rfl, h8⟩ := asAgL_inv h7; clear h7
  obtain ⟨a6, r6, rfl, h9⟩ := asCons_inv h8; clear h8
  obtain ⟨rfl, h10⟩ := asP_inv h9; clear h9
  obtain ⟨a7, r7, rfl, h11⟩ := asCons_inv h10; clear h10
  obtain ⟨x2, rfl, h12⟩ := asD_inv h11; clear h11
  obtain ⟨a8, r8, rfl, h13⟩ := asCons_inv h12; clear h12
  obtain ⟨x3, rfl, h14⟩ := asD_inv h13; clear h13
  obtain ⟨a9, r9, rfl, h15⟩ := asCons_inv h14; clear h14
  obtain ⟨x4, rfl, h16⟩ := asD_inv h15; clear h15
  obtain ⟨a10, r10, rfl, h17⟩ := asCons_inv h16; clear h16
  obtain ⟨x5, rfl, h18⟩ := asD_inv h17; clear h17
  obtain ⟨a11, r11, rfl, h19⟩ := asCons_inv h18; clear h18
  obtain ⟨x6, rfl, h20⟩ := asD_inv h19; clear h19
  obtain ⟨a12, r12, rfl, h21⟩ := asCons_inv h20; clear h20
  obtain ⟨x7, rfl, h22⟩ := asD_inv h21; clear h21
  obtain ⟨a13, r13, rfl, h23⟩ := asCons_inv h22; clear h22
  obtain ⟨rfl, h24⟩ := asP_inv h23; clear h23
  obtain ⟨rfl, h25⟩ := asNil_inv h24; clear h24
  obtain ⟨a14, r14, rfl, h26⟩ := asCons_inv h25; clear h25
  obtain ⟨x8, rfl, h27⟩ := asRw_inv h26; clear h26
  obtain ⟨a15, r15, rfl, h28⟩ := asCons_inv h27; clear h27
  obtain ⟨x9, rfl, h29⟩ := asRw_inv h28; clear h28
  obtain ⟨rfl, h30⟩ := asNil_inv h29; clear h29
  exact ACall.spec2 (fn := Try.f10) (c := codeOf Try.f10) (S := ofL S10) (L := lofL L10) hS10 (by kernel_rfl) (by kernel_rfl) (inlOK _) (all_eq (by kernel_rfl : subsOf (E.info 10).keep (codeOf Try.f10) = [.loop (body Try.f10 9)]) (all_cons (loopOK_of (mk := 11000009) (sl := [0, 6, 7, 8, 50, 51, 52]) (ss := [([0, 6, 7, 8, 50, 51, 52], lsl10r9)]) (by kernel_rfl) (by kernel_rfl) (all_cons l10r9v (all_nil))) (all_nil))) (by kernel_rfl) h30.of

abbrev Sl3r61 : List (Nat × Pat × Sp) := [(11, none, sp11v2)]
theorem hSl3r61 : SpecOK E (ofL Sl3r61) := specOK_cons h11v2 (specOK_nil)
abbrev Ll3r61 : List (Nat × List Nat × Pat × LSp) := []
def lsl3r61 : LSp := fun vs σ K => asCons vs fun a1 r1 => asD (.int .i64) a1 fun s1 => asCons r1 fun a2 r2 => asD (.sl (.int .i64)) a2 fun s2 => asCons r2 fun a3 r3 => asD (.sl (.int .i64)) a3 fun s3 => asCons r3 fun a4 r4 => asP (.ptr 0 0 []) a4 <| asCons r4 fun a5 r5 => asD (.int .i64) a5 fun s4 => asCons r5 fun a6 r6 => asD (.int .i64) a6 fun s5 => asCons r6 fun a7 r7 => asD (.int .i64) a7 fun s6 => asCons r7 fun a8 r8 => asSl 3 false a8 fun s7 s8 s9 => asCons r8 fun a9 r9 => asD (.int .i64) a9 fun s10 => asCons r9 fun a10 r10 => asP (.vec 4) a10 <| asCons r10 fun a11 r11 => asD (.int .i64) a11 fun s11 => asCons r11 fun a12 r12 => asD (.int .i64) a12 fun s12 => asNil r12 <| asCons σ fun a13 r13 => asOne (.pair (.sl (.int .i64)) (.pair (.int .i64) (.pair (.int .i64) (.pair (.int .i64) (.pair (.int .i64) (.pair (.int .i64) (.pair (.int .i64) (.pair (.sl (.int .i64)) .unit)))))))) a13 fun a14 => asAgL a14 fun l15 => asCons l15 fun a16 r16 => asP (.vec 1) a16 <| asCons r16 fun a17 r17 => asD (.int .i64) a17 fun s13 => asCons r17 fun a18 r18 => asD (.int .i64) a18 fun s14 => asCons r18 fun a19 r19 => asD (.int .i64) a19 fun s15 => asCons r19 fun a20 r20 => asD (.int .i64) a20 fun s16 => asCons r20 fun a21 r21 => asD (.int .i64) a21 fun s17 => asCons r21 fun a22 r22 => asD (.int .i64) a22 fun s18 => asCons r22 fun a23 r23 => asP (.vec 2) a23 <| asNil r23 <| asCons r13 fun a24 r24 => asRw (.int .i64) false a24 fun s19 => asCons r24 fun a25 r25 => asRw (.int .i64) false a25 fun s20 => asCons r25 fun a26 r26 => asRw (.pair (.int .i64) (.pair (.int .i64) (.pair (.int .i64) .unit))) false a26 fun s21 => asCons r26 fun a27 r27 => asRw (.int .i64) false a27 fun s22 => asNil r27 <| l3r61 (fun z1 => K .ret [(2, .undef), (3, .undef), (4, .undef), (10, B z1), (11, .undef), (13, .undef), (14, .undef), (15, .undef), (16, .undef), (17, .undef)] []) (fun z1 z2 z3 z4 z5 z6 z7 z8 z9 z10 z11 z12 z13 z14 z15 z16 z17 z18 z19 => K (.exit 5) [(2, I z1), (3, .d (.sl (.int .i64)) z2), (4, .d (.sl (.int .i64)) z3), (10, .undef), (11, .ptr 0 0 []), (13, I z4), (14, I z5), (15, I z6), (16, .sl 3 z7 z8 z9 false), (17, I z10)] [.one (.pair (.sl (.int .i64)) (.pair (.int .i64) (.pair (.int .i64) (.pair (.int .i64) (.pair (.int .i64) (.pair (.int .i64) (.pair (.int .i64) (.pair (.sl (.int .i64)) .unit)))))))) (.agg [.vec 1, I z11, I z12, I z13, I z14, I z15, I z16, .vec 2]), .row (.int .i64) z17 false, .row (.int .i64) z18 false, .row (.pair (.int .i64) (.pair (.int .i64) (.pair (.int .i64) .unit))) z19 false]) s1 s2 s3 s4 s5 s6 s7 s8 s9 s10 s11 s12 s13 s14 s15 s16 s17 s18 s19 s20 s21 s22
theorem l3r61v : LoopV E (inlF (PA (ACall E)) E 8) (E.info 3).keep 0 Try.f3.ntmps 4000061 (body Try.f3 61) ([2, 3, 4, 11, 13, 14, 15, 16, 17, 32, 294, 295], lsl3r61) := by
  intro vs σ K (h0 : lsl3r61 vs σ K)
  unfold lsl3r61 at h0
  obtain ⟨a1, r1, rfl, h1⟩ := asCons_inv h0; clear h0
  obtain ⟨s1, rfl, h2⟩ := asD_inv h1; clear h1
  obtain ⟨a2, r2, rfl, h3⟩ := asCons_inv h2; clear h2
  obtain ⟨s2, rfl, h4⟩ := asD_inv h3; clear h3
  obtain ⟨a3, r3, rfl, h5⟩ := asCons_inv h4; clear h4
  obtain ⟨s3, rfl, h6⟩ := asD_inv h5; clear h5
  obtain ⟨a4, r4, rfl, h7⟩ := asCons_inv h6; clear h6
  obtain ⟨rfl, h8⟩ := asP_inv h7; clear h7
  obtain ⟨a5, r5, rfl, h9⟩ := asCons_inv h8; clear h8
  obtain ⟨s4, rfl, h10⟩ := asD_inv h9; clear h9
  obtain ⟨a6, r6, rfl, h11⟩ := asCons_inv h10; clear h10
  obtain ⟨s5, rfl, h12⟩ := asD_inv h11; clear h11
  obtain ⟨a7, r7, rfl, h13⟩ := asCons_inv h12; clear h12
  obtain ⟨s6, rfl, h14⟩ := asD_inv h13; clear h13
  obtain ⟨a8, r8, rfl, h15⟩ := asCons_inv h14; clear h14
  obtain ⟨s7, s8, s9, rfl, h16⟩ := asSl_inv h15; clear h15
  obtain ⟨a9, r9, rfl, h17⟩ := asCons_inv h16; clear h16
  obtain ⟨s10, rfl, h18⟩ := asD_inv h17; clear h17
  obtain ⟨a10, r10, rfl, h19⟩ := asCons_inv h18; clear h18
  obtain ⟨rfl, h20⟩ := asP_inv h19; clear h19
  obtain ⟨a11, r11, rfl, h21⟩ := asCons_inv h20; clear h20
  obtain ⟨s11, rfl, h22⟩ := asD_inv h21; clear h21
  obtain ⟨a12, r12, rfl, h23⟩ := asCons_inv h22; clear h22
  obtain ⟨s12, rfl, h24⟩ := asD_inv h23; clear h23
  obtain ⟨rfl, h25⟩ := asNil_inv h24; clear h24
  obtain ⟨a13, r13, rfl, h26⟩ := asCons_inv h25; clear h25
  obtain ⟨a14, rfl, h27⟩ := asOne_inv h26; clear h26
  obtain ⟨l15, rfl, h28⟩ := asAgL_inv h27; clear h27
  obtain ⟨a16, r16, rfl, h29⟩ := asCons_inv h28; clear h28
  obtain ⟨rfl, h30⟩ := asP_inv h29; clear h29
  obtain ⟨a17, r17, rfl, h31⟩ := asCons_inv h30; clear h30
  obtain ⟨s13, rfl, h32⟩ := asD_inv h31; clear h31
  obtain ⟨a18, r18, rfl, h33⟩ := asCons_inv h32; clear h32
  obtain ⟨s14, rfl, h34⟩ := asD_inv h33; clear h33
  obtain ⟨a19, r19, rfl, h35⟩ := asCons_inv h34; clear h34
  obtain ⟨s15, rfl, h36⟩ := asD_inv h35; clear h35
  obtain ⟨a20, r20, rfl, h37⟩ := asCons_inv h36; clear h36
  obtain ⟨s16, rfl, h38⟩ := asD_inv h37; clear h37
  obtain ⟨a21, r21, rfl, h39⟩ := asCons_inv h38; clear h38
  obtain ⟨s17, rfl, h40⟩ := asD_inv h39; clear h39
  obtain ⟨a22, r22, rfl, h41⟩ := asCons_inv h40; clear h40
  obtain ⟨s18, rfl, h42⟩ := asD_inv h41; clear h41
  obtain ⟨a23, r23, rfl, h43⟩ := asCons_inv h42; clear h42
  obtain ⟨rfl, h44⟩ := asP_inv h43; clear h43
  obtain ⟨rfl, h45⟩ := asNil_inv h44; clear h44
  obtain ⟨a24, r24, rfl, h46⟩ := asCons_inv h45; clear h45
  obtain ⟨s19, rfl, h47⟩ := asRw_inv h46; clear h46
  obtain ⟨a25, r25, rfl, h48⟩ := asCons_inv h47; clear h47
  obtain ⟨s20, rfl, h49⟩ := asRw_inv h48; clear h48
  obtain ⟨a26, r26, rfl, h50⟩ := asCons_inv h49; clear h49
  obtain ⟨s21, rfl, h51⟩ := asRw_inv h50; clear h50
  obtain ⟨a27, r27, rfl, h52⟩ := asCons_inv h51; clear h51
  obtain ⟨s22, rfl, h53⟩ := asRw_inv h52; clear h52
  obtain ⟨rfl, h54⟩ := asNil_inv h53; clear h53
  intro J hJ
  have hp : ∀ c' ∈ subsOf (E.info 3).keep (body Try.f3 61), SubOK E (inlF (PA (ACall E)) E 8) (E.info 3).keep 0 Try.f3.ntmps (lofL Ll3r61) c' := all_eq (by kernel_rfl : subsOf (E.info 3).keep (body Try.f3 61) = []) (all_nil)
  exact h54.of (fun s1 s2 s3 s4 s5 s6 s7 s8 s9 s10 s11 s12 s13 s14 s15 s16 s17 s18 s19 s20 s21 s22 => J [(4000061, .undef), (2, I s1), (3, .d (.sl (.int .i64)) s2), (4, .d (.sl (.int .i64)) s3), (11, .ptr 0 0 []), (13, I s4), (14, I s5), (15, I s6), (16, .sl 3 s7 s8 s9 false), (17, I s10), (32, .vec 4), (294, I s11), (295, I s12)] [.one (.pair (.sl (.int .i64)) (.pair (.int .i64) (.pair (.int .i64) (.pair (.int .i64) (.pair (.int .i64) (.pair (.int .i64) (.pair (.int .i64) (.pair (.sl (.int .i64)) .unit)))))))) (.agg [.vec 1, I s13, I s14, I s15, I s16, I s17, I s18, .vec 2]), .row (.int .i64) s19 false, .row (.int .i64) s20 false, .row (.pair (.int .i64) (.pair (.int .i64) (.pair (.int .i64) .unit))) s21 false, .row (.int .i64) s22 false]) (fun s1 s2 s3 s4 s5 s6 s7 s8 s9 s10 s11 s12 s13 s14 s15 s16 s17 s18 s19 s20 s21 s22 hb => loop_round2 (S := ofL Sl3r61) (L := lofL Ll3r61) hSl3r61 (inlOK _) hp hJ (by kernel_rfl) hb)

abbrev Sj3r50 : List (Nat × Pat × Sp) := [(10, none, sp10)]
theorem hSj3r50 : SpecOK E (ofL Sj3r50) := specOK_cons h10 (specOK_nil)
abbrev Lj3r50 : List (Nat × List Nat × Pat × LSp) := [(4000061, [2, 3, 4, 11, 13, 14, 15, 16, 17, 32, 294, 295], none, lsl3r61)]
def lsj3r50 : LSp := fun vs σ K => asCons vs fun a1 r1 => asD (.int .i64) a1 fun s1 => asCons r1 fun a2 r2 => asD (.sl (.int .i64)) a2 fun s2 => asCons r2 fun a3 r3 => asD (.sl (.int .i64)) a3 fun s3 => asCons r3 fun a4 r4 => asP (.ptr 0 0 []) a4 <| asCons r4 fun a5 r5 => asD (.int .i64) a5 fun s4 => asCons r5 fun a6 r6 => asD (.int .i64) a6 fun s5 => asCons r6 fun a7 r7 => asD (.int .i64) a7 fun s6 => asCons r7 fun a8 r8 => asSl 3 false a8 fun s7 s8 s9 => asCons r8 fun a9 r9 => asD (.int .i64) a9 fun s10 => asCons r9 fun a10 r10 => asD (.int .i64) a10 fun s11 => asCons r10 fun a11 r11 => asP (.vec 4) a11 <| asCons r11 fun a12 r12 => asD (.int .i64) a12 fun s12 => asCons r12 fun a13 r13 => asD (.int .i64) a13 fun s13 => asCons r13 fun a14 r14 => asD .bool a14 fun s14 => asCons r14 fun a15 r15 => asFn 10 a15 fun l16 l17 => asCons l16 fun a18 r18 => asP (.ptr 0 0 []) a18 <| asNil r18 <| asNil l17 <| asNil r15 <| asCons σ fun a19 r19 => asOne (.pair (.sl (.int .i64)) (.pair (.int .i64) (.pair (.int .i64) (.pair (.int .i64) (.pair (.int .i64) (.pair (.int .i64) (.pair (.int .i64) (.pair (.sl (.int .i64)) .unit)))))))) a19 fun a20 => asAgL a20 fun l21 => asCons l21 fun a22 r22 => asP (.vec 1) a22 <| asCons r22 fun a23 r23 => asD (.int .i64) a23 fun s15 => asCons r23 fun a24 r24 => asD (.int .i64) a24 fun s16 => asCons r24 fun a25 r25 => asD (.int .i64) a25 fun s17 => asCons r25 fun a26 r26 => asD (.int .i64) a26 fun s18 => asCons r26 fun a27 r27 => asD (.int .i64) a27 fun s19 => asCons r27 fun a28 r28 => asD (.int .i64) a28 fun s20 => asCons r28 fun a29 r29 => asP (.vec 2) a29 <| asNil r29 <| asCons r19 fun a30 r30 => asRw (.int .i64) false a30 fun s21 => asCons r30 fun a31 r31 => asRw (.int .i64) false a31 fun s22 => asCons r31 fun a32 r32 => asRw (.pair (.int .i64) (.pair (.int .i64) (.pair (.int .i64) .unit))) false a32 fun s23 => asCons r32 fun a33 r33 => asRw (.int .i64) false a33 fun s24 => asNil r33 <| j3r50 (fun z1 => K .ret [(2, .undef), (3, .undef), (4, .undef), (10, B z1), (11, .undef), (13, .undef), (14, .undef), (15, .undef), (16, .undef), (17, .undef)] []) (fun z1 z2 z3 z4 z5 z6 z7 z8 z9 z10 z11 z12 z13 z14 z15 z16 z17 z18 z19 => K (.exit 1) [(2, I z1), (3, .d (.sl (.int .i64)) z2), (4, .d (.sl (.int .i64)) z3), (10, .undef), (11, .ptr 0 0 []), (13, I z4), (14, I z5), (15, I z6), (16, .sl 3 z7 z8 z9 false), (17, I z10)] [.one (.pair (.sl (.int .i64)) (.pair (.int .i64) (.pair (.int .i64) (.pair (.int .i64) (.pair (.int .i64) (.pair (.int .i64) (.pair (.int .i64) (.pair (.sl (.int .i64)) .unit)))))))) (.agg [.vec 1, I z11, I z12, I z13, I z14, I z15, I z16, .vec 2]), .row (.int .i64) z17 false, .row (.int .i64) z18 false, .row (.pair (.int .i64) (.pair (.int .i64) (.pair (.int .i64) .unit))) z19 false]) (fun z1 z2 z3 z4 z5 z6 z7 z8 z9 z10 z11 z12 z13 z14 z15 z16 z17 z18 z19 => K .normal [(2, I z1), (3, .d (.sl (.int .i64)) z2), (4, .d (.sl (.int .i64)) z3), (10, .undef), (11, .ptr 0 0 []), (13, I z4), (14, I z5), (15, I z6), (16, .sl 3 z7 z8 z9 false), (17, I z10)] [.one (.pair (.sl (.int .i64)) (.pair (.int .i64) (.pair (.int .i64) (.pair (.int .i64) (.pair (.int .i64) (.pair (.int .i64) (.pair (.int .i64) (.pair (.sl (.int .i64)) .unit)))))))) (.agg [.vec 1, I z11, I z12, I z13, I z14, I z15, I z16, .vec 2]), .row (.int .i64) z17 false, .row (.int .i64) z18 false, .row (.pair (.int .i64) (.pair (.int .i64) (.pair (.int .i64) .unit))) z19 false]) s1 s2 s3 s4 s5 s6 s7 s8 s9 s10 s11 s12 s13 s14 s15 s16 s17 s18 s19 s20 s21 s22 s23 s24
theorem j3r50v : JoinV E (inlF (PA (ACall E)) E 8) (E.info 3).keep 0 Try.f3.ntmps 4400050 4000050 (jbody Try.f3 4000050) ([2, 3, 4, 11, 13, 14, 15, 16, 17, 19, 25, 26, 27, 30, 31], lsj3r50) := by
  intro vs σ K (h0 : lsj3r50 vs σ K)
  unfold lsj3r50 at h0
  obtain ⟨a1, r1, rfl, h1⟩ := asCons_inv h0; clear h0
  obtain ⟨s1, rfl, h2⟩ := asD_inv h1; clear h1
  obtain ⟨a2, r2, rfl, h3⟩ := asCons_inv h2; clear h2
  obtain ⟨s2, rfl, h4⟩ := asD_inv h3; clear h3
  obtain ⟨a3, r3, rfl, h5⟩ := asCons_inv h4; clear h4
  obtain ⟨s3, rfl, h6⟩ := asD_inv h5; clear h5
  obtain ⟨a4, r4, rfl, h7⟩ := asCons_inv h6; clear h6
  obtain ⟨rfl, h8⟩ := asP_inv h7; clear h7
  obtain ⟨a5, r5, rfl, h9⟩ := asCons_inv h8; clear h8
  obtain ⟨s4, rfl, h10⟩ := asD_inv h9; clear h9
  obtain ⟨a6, r6, rfl, h11⟩ := asCons_inv h10; clear h10
  obtain ⟨s5, rfl, h12⟩ := asD_inv h11; clear h11
  obtain ⟨a7, r7, rfl, h13⟩ := asCons_inv h12; clear h12
  obtain ⟨s6, rfl, h14⟩ := asD_inv h13; clear h13
  obtain ⟨a8, r8, rfl, h15⟩ := asCons_inv h14; clear h14
  obtain ⟨s7, s8, s9, rfl, h16⟩ := asSl_inv h15; clear h15
  obtain ⟨a9, r9, rfl, h17⟩ := asCons_inv h16; clear h16
  obtain ⟨s10, rfl, h18⟩ := asD_inv h17; clear h17
  obtain ⟨a10, r10, rfl, h19⟩ := asCons_inv h18; clear h18
  obtain ⟨s11, rfl, h20⟩ := asD_inv h19; clear h19
  obtain ⟨a11, r11, rfl, h21⟩ := asCons_inv h20; clear h20
  obtain ⟨rfl, h22⟩ := asP_inv h21; clear h21
  obtain ⟨a12, r12, rfl, h23⟩ := asCons_inv h22; clear h22
  obtain ⟨s12, rfl, h24⟩ := asD_inv h23; clear h23
  obtain ⟨a13, r13, rfl, h25⟩ := asCons_inv h24; clear h24
  obtain ⟨s13, rfl, h26⟩ := asD_inv h25; clear h25
  obtain ⟨a14, r14, rfl, h27⟩ := asCons_inv h26; clear h26
  obtain ⟨s14, rfl, h28⟩ := asD_inv h27; clear h27
  obtain ⟨a15, r15, rfl, h29⟩ := asCons_inv h28; clear h28
  obtain ⟨l16, l17, rfl, h30⟩ := asFn_inv h29; clear h29
  obtain ⟨a18, r18, rfl, h31⟩ := asCons_inv h30; clear h30
  obtain ⟨rfl, h32⟩ := asP_inv h31; clear h31
  obtain ⟨rfl, h33⟩ := asNil_inv h32; clear h32
  obtain ⟨rfl, h34⟩ := asNil_inv h33; clear h33
  obtain ⟨rfl, h35⟩ := asNil_inv h34; clear h34
  obtain ⟨a19, r19, rfl, h36⟩ := asCons_inv h35; clear h35
  obtain ⟨a20, rfl, h37⟩ := asOne_inv h36; clear h36
  obtain ⟨l21, rfl, h38⟩ := asAgL_inv h37; clear h37
  obtain ⟨a22, r22, rfl, h39⟩ := asCons_inv h38; clear h38
  obtain ⟨rfl, h40⟩ := asP_inv h39; clear h39
  obtain ⟨a23, r23, rfl, h41⟩ := asCons_inv h40; clear h40
  obtain ⟨s15, rfl, h42⟩ := asD_inv h41; clear h41
  obtain ⟨a24, r24, rfl, h43⟩ := asCons_inv h42; clear h42
  obtain ⟨s16, rfl, h44⟩ := asD_inv h43; clear h43
  obtain ⟨a25, r25, rfl, h45⟩ := asCons_inv h44; clear h44
  obtain ⟨s17, rfl, h46⟩ := asD_inv h45; clear h45
  obtain ⟨a26, r26, rfl, h47⟩ := asCons_inv h46; clear h46
  obtain ⟨s18, rfl, h48⟩ := asD_inv h47; clear h47
  obtain ⟨a27, r27, rfl, h49⟩ := asCons_inv h48; clear h48
  obtain ⟨s19, rfl, h50⟩ := asD_inv h49; clear h49
  obtain ⟨a28, r28, rfl, h51⟩ := asCons_inv h50; clear h50
  obtain ⟨s20, rfl, h52⟩ := asD_inv h51; clear h51
  obtain ⟨a29, r29, rfl, h53⟩ := asCons_inv h52; clear h52
  obtain ⟨rfl, h54⟩ := asP_inv h53; clear h53
  obtain ⟨rfl, h55⟩ := asNil_inv h54; clear h54
  obtain ⟨a30, r30, rfl, h56⟩ := asCons_inv h55; clear h55
  obtain ⟨s21, rfl, h57⟩ := asRw_inv h56; clear h56
  obtain ⟨a31, r31, rfl, h58⟩ := asCons_inv h57; clear h57
  obtain ⟨s22, rfl, h59⟩ := asRw_inv h58; clear h58
  obtain ⟨a32, r32, rfl, h60⟩ := asCons_inv h59; clear h59
  obtain ⟨s23, rfl, h61⟩ := asRw_inv h60; clear h60
  obtain ⟨a33, r33, rfl, h62⟩ := asCons_inv h61; clear h61
  obtain ⟨s24, rfl, h63⟩ := asRw_inv h62; clear h62
  obtain ⟨rfl, h64⟩ := asNil_inv h63; clear h63
  exact join_round2 (S := ofL Sj3r50) (L := lofL Lj3r50) hSj3r50 (inlOK _) (all_eq (by kernel_rfl : subsOf (E.info 3).keep (jbody Try.f3 4000050) = [.loop (body Try.f3 61)]) (all_cons (loopOK_of (mk := 4000061) (sl := [2, 3, 4, 11, 13, 14, 15, 16, 17, 32, 294, 295]) (ss := [([2, 3, 4, 11, 13, 14, 15, 16, 17, 32, 294, 295], lsl3r61)]) (by kernel_rfl) (by kernel_rfl) (all_cons l3r61v (all_nil))) (all_nil))) (by kernel_rfl) h64.of

abbrev Sj3r68v2 : List (Nat × Pat × Sp) := [(12, none, sp12)]
theorem hSj3r68v2 : SpecOK E (ofL Sj3r68v2) := specOK_cons h12 (specOK_nil)
abbrev Lj3r68v2 : List (Nat × List Nat × Pat × LSp) := []
def lsj3r68v2 : LSp := fun vs σ K => asCons vs fun a1 r1 => asD (.int .i64) a1 fun s1 => asCons r1 fun a2 r2 => asD (.sl (.int .i64)) a2 fun s2 => asCons r2 fun a3 r3 => asD (.sl (.int .i64)) a3 fun s3 => asCons r3 fun a4 r4 => asP (.ptr 0 0 []) a4 <| asCons r4 fun a5 r5 => asD (.int .i64) a5 fun s4 => asCons r5 fun a6 r6 => asD (.int .i64) a6 fun s5 => asCons r6 fun a7 r7 => asD (.int .i64) a7 fun s6 => asCons r7 fun a8 r8 => asSl 3 false a8 fun s7 s8 s9 => asCons r8 fun a9 r9 => asD (.int .i64) a9 fun s10 => asNil r9 <| asCons σ fun a10 r10 => asOne (.pair (.sl (.int .i64)) (.pair (.int .i64) (.pair (.int .i64) (.pair (.int .i64) (.pair (.int .i64) (.pair (.int .i64) (.pair (.int .i64) (.pair (.sl (.int .i64)) .unit)))))))) a10 fun a11 => asAgL a11 fun l12 => asCons l12 fun a13 r13 => asP (.vec 1) a13 <| asCons r13 fun a14 r14 => asD (.int .i64) a14 fun s11 => asCons r14 fun a15 r15 => asD (.int .i64) a15 fun s12 => asCons r15 fun a16 r16 => asD (.int .i64) a16 fun s13 => asCons r16 fun a17 r17 => asD (.int .i64) a17 fun s14 => asCons r17 fun a18 r18 => asD (.int .i64) a18 fun s15 => asCons r18 fun a19 r19 => asD (.int .i64) a19 fun s16 => asCons r19 fun a20 r20 => asP (.vec 2) a20 <| asNil r20 <| asCons r10 fun a21 r21 => asRw (.int .i64) false a21 fun s17 => asCons r21 fun a22 r22 => asRw (.int .i64) false a22 fun s18 => asCons r22 fun a23 r23 => asRw (.pair (.int .i64) (.pair (.int .i64) (.pair (.int .i64) .unit))) false a23 fun s19 => asNil r23 <| j3r68v2 (fun z1 => K .ret [(2, .undef), (3, .undef), (4, .undef), (10, B z1), (11, .undef), (13, .undef), (14, .undef), (15, .undef), (16, .undef), (17, .undef)] []) (fun z1 z2 z3 z4 z5 z6 z7 z8 z9 z10 z11 z12 z13 z14 z15 z16 z17 z18 z19 => K .normal [(2, I z1), (3, .d (.sl (.int .i64)) z2), (4, .d (.sl (.int .i64)) z3), (10, .undef), (11, .ptr 0 0 []), (13, I z4), (14, I z5), (15, I z6), (16, .sl 3 z7 z8 z9 false), (17, I z10)] [.one (.pair (.sl (.int .i64)) (.pair (.int .i64) (.pair (.int .i64) (.pair (.int .i64) (.pair (.int .i64) (.pair (.int .i64) (.pair (.int .i64) (.pair (.sl (.int .i64)) .unit)))))))) (.agg [.vec 1, I z11, I z12, I z13, I z14, I z15, I z16, .vec 2]), .row (.int .i64) z17 false, .row (.int .i64) z18 false, .row (.pair (.int .i64) (.pair (.int .i64) (.pair (.int .i64) .unit))) z19 false]) s1 s2 s3 s4 s5 s6 s7 s8 s9 s10 s11 s12 s13 s14 s15 s16 s17 s18 s19
theorem j3r68v2v : JoinV E (inlF (PA (ACall E)) E 8) (E.info 3).keep 0 Try.f3.ntmps 4400068 4000068 (jbody Try.f3 4000068) ([2, 3, 4, 11, 13, 14, 15, 16, 17], lsj3r68v2) := by
  intro vs σ K (h0 : lsj3r68v2 vs σ K)
  unfold lsj3r68v2 at h0
  obtain ⟨a1, r1, rfl, h1⟩ := asCons_inv h0; clear h0
  obtain ⟨s1, rfl, h2⟩ := asD_inv h1; clear h1
  obtain ⟨a2, r2, rfl, h3⟩ := asCons_inv h2; clear h2
  obtain ⟨s2, rfl, h4⟩ := asD_inv h3; clear h3
  obtain ⟨a3, r3, rfl, h5⟩ := asCons_inv h4; clear h4
  obtain ⟨s3, rfl, h6⟩ := asD_inv h5; clear h5
  obtain ⟨a4, r4, rfl, h7⟩ := asCons_inv h6; clear h6
  obtain ⟨rfl, h8⟩ := asP_inv h7; clear h7
  obtain ⟨a5, r5, rfl, h9⟩ := asCons_inv h8; clear h8
  obtain ⟨s4, rfl, h10⟩ := asD_inv h9; clear h9
  obtain ⟨a6, r6, rfl, h11⟩ := asCons_inv h10; clear h10
  obtain ⟨s5, rfl, h12⟩ := asD_inv h11; clear h11
  obtain ⟨a7, r7, rfl, h13⟩ := asCons_inv h12; clear h12
  obtain ⟨s6, rfl, h14⟩ := asD_inv h13; clear h13
  obtain ⟨a8, r8, rfl, h15⟩ := asCons_inv h14; clear h14
  obtain ⟨s7, s8, s9, rfl, h16⟩ := asSl_inv h15; clear h15
  obtain ⟨a9, r9, rfl, h17⟩ := asCons_inv h16; clear h16
  obtain ⟨s10, rfl, h18⟩ := asD_inv h17; clear h17
  obtain ⟨rfl, h19⟩ := asNil_inv h18; clear h18
  obtain ⟨a10, r10, rfl, h20⟩ := asCons_inv h19; clear h19
  obtain ⟨a11, rfl, h21⟩ := asOne_inv h20; clear h20
  obtain ⟨l12, rfl, h22⟩ := asAgL_inv h21; clear h21
  obtain ⟨a13, r13, rfl, h23⟩ := asCons_inv h22; clear h22
  obtain ⟨rfl, h24⟩ := asP_inv h23; clear h23
  obtain ⟨a14, r14, rfl, h25⟩ := asCons_inv h24; clear h24
  obtain ⟨s11, rfl, h26⟩ := asD_inv h25; clear h25
  obtain ⟨a15, r15, rfl, h27⟩ := asCons_inv h26; clear h26
  obtain ⟨s12, rfl, h28⟩ := asD_inv h27; clear h27
  obtain ⟨a16, r16, rfl, h29⟩ := asCons_inv h28; clear h28
  obtain ⟨s13, rfl, h30⟩ := asD_inv h29; clear h29
  obtain ⟨a17, r17, rfl, h31⟩ := asCons_inv h30; clear h30
  obtain ⟨s14, rfl, h32⟩ := asD_inv h31; clear h31
  obtain ⟨a18, r18, rfl, h33⟩ := asCons_inv h32; clear h32
  obtain ⟨s15, rfl, h34⟩ := asD_inv h33; clear h33
  obtain ⟨a19, r19, rfl, h35⟩ := asCons_inv h34; clear h34
  obtain ⟨s16, rfl, h36⟩ := asD_inv h35; clear h35
  obtain ⟨a20, r20, rfl, h37⟩ := asCons_inv h36; clear h36
  obtain ⟨rfl, h38⟩ := asP_inv h37; clear h37
  obtain ⟨rfl, h39⟩ := asNil_inv h38; clear h38
  obtain ⟨a21, r21, rfl, h40⟩ := asCons_inv h39; clear h39
  obtain ⟨s17, rfl, h41⟩ := asRw_inv h40; clear h40
  obtain ⟨a22, r22, rfl, h42⟩ := asCons_inv h41; clear h41
  obtain ⟨s18, rfl, h43⟩ := asRw_inv h42; clear h42
  obtain ⟨a23, r23, rfl, h44⟩ := asCons_inv h43; clear h43
  obtain ⟨s19, rfl, h45⟩ := asRw_inv h44; clear h44
  obtain ⟨rfl, h46⟩ := asNil_inv h45; clear h45
  exact join_round2 (S := ofL Sj3r68v2) (L := lofL Lj3r68v2) hSj3r68v2 (inlOK _) (all_eq (by kernel_rfl : subsOf (E.info 3).keep (jbody Try.f3 4000068) = []) (all_nil)) (by kernel_rfl) h46.of

abbrev Sl9r9 : List (Nat × Pat × Sp) := [(18, none, sp18)]
theorem hSl9r9 : SpecOK E (ofL Sl9r9) := specOK_cons h18 (specOK_nil)
abbrev Ll9r9 : List (Nat × List Nat × Pat × LSp) := []
def lsl9r9 : LSp := fun vs σ K => asCons vs fun a1 r1 => asP (.ptr 0 0 []) a1 <| asCons r1 fun a2 r2 => asP (.ptr 3 0 []) a2 <| asCons r2 fun a3 r3 => asD (.int .i64) a3 fun s1 => asCons r3 fun a4 r4 => asP (.vec 5) a4 <| asCons r4 fun a5 r5 => asD (.sl (.int .i64)) a5 fun s2 => asCons r5 fun a6 r6 => asD (.int .i64) a6 fun s3 => asCons r6 fun a7 r7 => asD (.int .i64) a7 fun s4 => asNil r7 <| asCons σ fun a8 r8 => asOne (.pair (.sl (.int .i64)) (.pair (.int .i64) (.pair (.int .i64) (.pair (.int .i64) (.pair (.int .i64) (.pair (.int .i64) (.pair (.int .i64) (.pair (.sl (.int .i64)) .unit)))))))) a8 fun a9 => asAgL a9 fun l10 => asCons l10 fun a11 r11 => asP (.vec 1) a11 <| asCons r11 fun a12 r12 => asD (.int .i64) a12 fun s5 => asCons r12 fun a13 r13 => asD (.int .i64) a13 fun s6 => asCons r13 fun a14 r14 => asD (.int .i64) a14 fun s7 => asCons r14 fun a15 r15 => asD (.int .i64) a15 fun s8 => asCons r15 fun a16 r16 => asD (.int .i64) a16 fun s9 => asCons r16 fun a17 r17 => asD (.int .i64) a17 fun s10 => asCons r17 fun a18 r18 => asP (.vec 2) a18 <| asNil r18 <| asCons r8 fun a19 r19 => asRw (.int .i64) false a19 fun s11 => asCons r19 fun a20 r20 => asRw (.int .i64) false a20 fun s12 => asCons r20 fun a21 r21 => asOne (.pair (.opq .ptr) (.pair (.int .i64) (.pair (.int .i64) (.pair (.opq .map) (.pair .bool (.pair .bool .unit)))))) a21 fun a22 => asAgL a22 fun l23 => asCons l23 fun a24 r24 => asP (.ptr 0 0 []) a24 <| asCons r24 fun a25 r25 => asD (.int .i64) a25 fun s13 => asCons r25 fun a26 r26 => asD (.int .i64) a26 fun s14 => asCons r26 fun a27 r27 => asP (.mp 4) a27 <| asCons r27 fun a28 r28 => asD .bool a28 fun s15 => asCons r28 fun a29 r29 => asD .bool a29 fun s16 => asNil r29 <| asCons r21 fun a30 r30 => asKv (.int .i64) a30 fun s17 => asCons r30 fun a31 r31 => asRw (.int .i64) false a31 fun s18 => asNil r31 <| l9r9 (fun z1 z2 z3 z4 z5 z6 z7 z8 z9 z10 z11 z12 z13 z14 z15 => K (.exit 0) [(0, .ptr 0 0 []), (6, .ptr 3 0 []), (7, I z1), (8, .vec 5)] [.one (.pair (.sl (.int .i64)) (.pair (.int .i64) (.pair (.int .i64) (.pair (.int .i64) (.pair (.int .i64) (.pair (.int .i64) (.pair (.int .i64) (.pair (.sl (.int .i64)) .unit)))))))) (.agg [.vec 1, I z2, I z3, I z4, I z5, I z6, I z7, .vec 2]), .row (.int .i64) z8 false, .row (.int .i64) z9 false, .one (.pair (.opq .ptr) (.pair (.int .i64) (.pair (.int .i64) (.pair (.opq .map) (.pair .bool (.pair .bool .unit)))))) (.agg [.ptr 0 0 [], I z10, I z11, .mp 4, B z12, B z13]), .kv (.int .i64) z14, .row (.int .i64) z15 false]) s1 s2 s3 s4 s5 s6 s7 s8 s9 s10 s11 s12 s13 s14 s15 s16 s17 s18
theorem l9r9v : LoopV E (inlF (PA (ACall E)) E 8) (E.info 9).keep 3 Try.f9.ntmps 10000009 (body Try.f9 9) ([0, 6, 7, 8, 60, 61, 62], lsl9r9) := by
  intro vs σ K (h0 : lsl9r9 vs σ K)
  unfold lsl9r9 at h0
  obtain ⟨a1, r1, rfl, h1⟩ := asCons_inv h0; clear h0
  obtain ⟨rfl, h2⟩ := asP_inv h1; clear h1
  obtain ⟨a2, r2, rfl, h3⟩ := asCons_inv h2; clear h2
  obtain ⟨rfl, h4⟩ := asP_inv h3; clear h3
  obtain ⟨a3, r3, rfl, h5⟩ := asCons_inv h4; clear h4
  obtain ⟨s1, rfl, h6⟩ := asD_inv h5; clear h5
  obtain ⟨a4, r4, rfl, h7⟩ := asCons_inv h6; clear h6
  obtain ⟨rfl, h8⟩ := asP_inv h7; clear h7
  obtain ⟨a5, r5, rfl, h9⟩ := asCons_inv h8; clear h8
  obtain ⟨s2, rfl, h10⟩ := asD_inv h9; clear h9
  obtain ⟨a6, r6, rfl, h11⟩ := asCons_inv h10; clear h10
  obtain ⟨s3, rfl, h12⟩ := asD_inv h11; clear h11
  obtain ⟨a7, r7, rfl, h13⟩ := asCons_inv h12; clear h12
  obtain ⟨s4, rfl, h14⟩ := asD_inv h13; clear h13
  obtain ⟨rfl, h15⟩ := asNil_inv h14; clear h14
  obtain ⟨a8, r8, rfl, h16⟩ := asCons_inv h15; clear h15
  obtain ⟨a9, rfl, h17⟩ := asOne_inv h16; clear h16
  obtain ⟨l10, rfl, h18⟩ := asAgL_inv h17; clear h17
  obtain ⟨a11, r11, rfl, h19⟩ := asCons_inv h18; clear h18
  obtain ⟨rfl, h20⟩ := asP_inv h19; clear h19
  obtain ⟨a12, r12, rfl, h21⟩ := asCons_inv h20; clear h20
  obtain ⟨s5, rfl, h22⟩ := asD_inv h21; clear h21
  obtain ⟨a13, r13, rfl, h23⟩ := asCons_inv h22; clear h22
  obtain ⟨s6, rfl, h24⟩ := asD_inv h23; clear h23
  obtain ⟨a14, r14, rfl, h25⟩ := asCons_inv h24; clear h24
  obtain ⟨s7, rfl, h26⟩ := asD_inv h25; clear h25
  obtain ⟨a15, r15, rfl, h27⟩ := asCons_inv h26; clear h26
  obtain ⟨s8, rfl, h28⟩ := asD_inv h27; clear h27
  obtain ⟨a16, r16, rfl, h29⟩ := asCons_inv h28; clear h28
  obtain ⟨s9, rfl, h30⟩ := asD_inv h29; clear h29
  obtain ⟨a17, r17, rfl, h31⟩ := asCons_inv h30; clear h30
  obtain ⟨s10, rfl, h32⟩ := asD_inv h31; clear h31
  obtain ⟨a18, r18, rfl, h33⟩ := asCons_inv h32; clear h32
  obtain ⟨rfl, h34⟩ := asP_inv h33; clear h33
  obtain ⟨rfl, h35⟩ := asNil_inv h34; clear h34
  obtain ⟨a19, r19, rfl, h36⟩ := asCons_inv h35; clear h35
  obtain ⟨s11, rfl, h37⟩ := asRw_inv h36; clear h36
  obtain ⟨a20, r20, rfl, h38⟩ := asCons_inv h37; clear h37
  obtain ⟨s12, rfl, h39⟩ := asRw_inv h38; clear h38
  obtain ⟨a21, r21, rfl, h40⟩ := asCons_inv h39; clear h39
  obtain ⟨a22, rfl, h41⟩ := asOne_inv h40; clear h40
  obtain ⟨l23, rfl, h42⟩ := asAgL_inv h41; clear h41
  obtain ⟨a24, r24, rfl, h43⟩ := asCons_inv h42; clear h42
  obtain ⟨rfl, h44⟩ := asP_inv h43; clear h43
  obtain ⟨a25, r25, rfl, h45⟩ := asCons_inv h44; clear h44
  obtain ⟨s13, rfl, h46⟩ := asD_inv h45; clear h45
  obtain ⟨a26, r26, rfl, h47⟩ := asCons_inv h46; clear h46
  obtain ⟨s14, rfl, h48⟩ := asD_inv h47; clear h47
  obtain ⟨a27, r27, rfl, h49⟩ := asCons_inv h48; clear h48
  obtain ⟨rfl, h50⟩ := asP_inv h49; clear h49
  obtain ⟨a28, r28, rfl, h51⟩ := asCons_inv h50; clear h50
  obtain ⟨s15, rfl, h52⟩ := asD_inv h51; clear h51
  obtain ⟨a29, r29, rfl, h53⟩ := asCons_inv h52; clear h52
  obtain ⟨s16, rfl, h54⟩ := asD_inv h53; clear h53
  obtain ⟨rfl, h55⟩ := asNil_inv h54; clear h54
  obtain ⟨a30, r30, rfl, h56⟩ := asCons_inv h55; clear h55
  obtain ⟨s17, rfl, h57⟩ := asKv_inv h56; clear h56
  obtain ⟨a31, r31, rfl, h58⟩ := asCons_inv h57; clear h57
  obtain ⟨s18, rfl, h59⟩ := asRw_inv h58; clear h58
  obtain ⟨rfl, h60⟩ := asNil_inv h59; clear h59
  intro J hJ
  have hp : ∀ c' ∈ subsOf (E.info 9).keep (body Try.f9 9), SubOK E (inlF (PA (ACall E)) E 8) (E.info 9).keep 3 Try.f9.ntmps (lofL Ll9r9) c' := all_eq (by kernel_rfl : subsOf (E.info 9).keep (body Try.f9 9) = []) (all_nil)
  exact h60.of (fun s1 s2 s3 s4 s5 s6 s7 s8 s9 s10 s11 s12 s13 s14 s15 s16 s17 s18 => J [(10000009, .undef), (0, .ptr 0 0 []), (6, .ptr 3 0 []), (7, I s1), (8, .vec 5), (60, .d (.sl (.int .i64)) s2), (61, I s3), (62, I s4)] [.one (.pair (.sl (.int .i64)) (.pair (.int .i64) (.pair (.int .i64) (.pair (.int .i64) (.pair (.int .i64) (.pair (.int .i64) (.pair (.int .i64) (.pair (.sl (.int .i64)) .unit)))))))) (.agg [.vec 1, I s5, I s6, I s7, I s8, I s9, I s10, .vec 2]), .row (.int .i64) s11 false, .row (.int .i64) s12 false, .one (.pair (.opq .ptr) (.pair (.int .i64) (.pair (.int .i64) (.pair (.opq .map) (.pair .bool (.pair .bool .unit)))))) (.agg [.ptr 0 0 [], I s13, I s14, .mp 4, B s15, B s16]), .kv (.int .i64) s17, .row (.int .i64) s18 false]) (fun s1 s2 s3 s4 s5 s6 s7 s8 s9 s10 s11 s12 s13 s14 s15 s16 s17 s18 hb => loop_round2 (S := ofL Sl9r9) (L := lofL Ll9r9) hSl9r9 (inlOK _) hp hJ (by kernel_rfl) hb)

abbrev Sl9r14 : List (Nat × Pat × Sp) := [(18, none, sp18)]
theorem hSl9r14 : SpecOK E (ofL Sl9r14) := specOK_cons h18 (specOK_nil)
abbrev Ll9r14 : List (Nat × List Nat × Pat × LSp) := []
def lsl9r14 : LSp := fun vs σ K => asCons vs fun a1 r1 => asP (.ptr 0 0 []) a1 <| asCons r1 fun a2 r2 => asP (.ptr 3 0 []) a2 <| asCons r2 fun a3 r3 => asD (.int .i64) a3 fun s1 => asCons r3 fun a4 r4 => asP (.vec 5) a4 <| asCons r4 fun a5 r5 => asP (.vec 2) a5 <| asCons r5 fun a6 r6 => asD (.int .i64) a6 fun s2 => asCons r6 fun a7 r7 => asD (.int .i64) a7 fun s3 => asNil r7 <| asCons σ fun a8 r8 => asOne (.pair (.sl (.int .i64)) (.pair (.int .i64) (.pair (.int .i64) (.pair (.int .i64) (.pair (.int .i64) (.pair (.int .i64) (.pair (.int .i64) (.pair (.sl (.int .i64)) .unit)))))))) a8 fun a9 => asAgL a9 fun l10 => asCons l10 fun a11 r11 => asP (.vec 1) a11 <| asCons r11 fun a12 r12 => asD (.int .i64) a12 fun s4 => asCons r12 fun a13 r13 => asD (.int .i64) a13 fun s5 => asCons r13 fun a14 r14 => asD (.int .i64) a14 fun s6 => asCons r14 fun a15 r15 => asD (.int .i64) a15 fun s7 => asCons r15 fun a16 r16 => asD (.int .i64) a16 fun s8 => asCons r16 fun a17 r17 => asD (.int .i64) a17 fun s9 => asCons r17 fun a18 r18 => asP (.vec 2) a18 <| asNil r18 <| asCons r8 fun a19 r19 => asRw (.int .i64) false a19 fun s10 => asCons r19 fun a20 r20 => asRw (.int .i64) false a20 fun s11 => asCons r20 fun a21 r21 => asOne (.pair (.opq .ptr) (.pair (.int .i64) (.pair (.int .i64) (.pair (.opq .map) (.pair .bool (.pair .bool .unit)))))) a21 fun a22 => asAgL a22 fun l23 => asCons l23 fun a24 r24 => asP (.ptr 0 0 []) a24 <| asCons r24 fun a25 r25 => asD (.int .i64) a25 fun s12 => asCons r25 fun a26 r26 => asD (.int .i64) a26 fun s13 => asCons r26 fun a27 r27 => asP (.mp 4) a27 <| asCons r27 fun a28 r28 => asD .bool a28 fun s14 => asCons r28 fun a29 r29 => asD .bool a29 fun s15 => asNil r29 <| asCons r21 fun a30 r30 => asKv (.int .i64) a30 fun s16 => asCons r30 fun a31 r31 => asRw (.int .i64) false a31 fun s17 => asNil r31 <| l9r14 (fun z1 z2 z3 z4 z5 z6 z7 z8 z9 z10 z11 z12 z13 z14 z15 => K (.exit 2) [(0, .ptr 0 0 []), (6, .ptr 3 0 []), (7, I z1), (8, .vec 5)] [.one (.pair (.sl (.int .i64)) (.pair (.int .i64) (.pair (.int .i64) (.pair (.int .i64) (.pair (.int .i64) (.pair (.int .i64) (.pair (.int .i64) (.pair (.sl (.int .i64)) .unit)))))))) (.agg [.vec 1, I z2, I z3, I z4, I z5, I z6, I z7, .vec 2]), .row (.int .i64) z8 false, .row (.int .i64) z9 false, .one (.pair (.opq .ptr) (.pair (.int .i64) (.pair (.int .i64) (.pair (.opq .map) (.pair .bool (.pair .bool .unit)))))) (.agg [.ptr 0 0 [], I z10, I z11, .mp 4, B z12, B z13]), .kv (.int .i64) z14, .row (.int .i64) z15 false]) s1 s2 s3 s4 s5 s6 s7 s8 s9 s10 s11 s12 s13 s14 s15 s16 s17
theorem l9r14v : LoopV E (inlF (PA (ACall E)) E 8) (E.info 9).keep 3 Try.f9.ntmps 10000014 (body Try.f9 14) ([0, 6, 7, 8, 77, 78, 79], lsl9r14) := by
  intro vs σ K (h0 : lsl9r14 vs σ K)
  unfold lsl9r14 at h0
  obtain ⟨a1, r1, rfl, h1⟩ := asCons_inv h0; clear h0
  obtain ⟨rfl, h2⟩ := asP_inv h1; clear h1
  obtain ⟨a2, r2, rfl, h3⟩ := asCons_inv h2; clear h2
  obtain ⟨rfl, h4⟩ := asP_inv h3; clear h3
  obtain ⟨a3, r3, rfl, h5⟩ := asCons_inv h4; clear h4
  obtain ⟨s1, rfl, h6⟩ := asD_inv h5; clear h5
  obtain ⟨a4, r4, rfl, h7⟩ := asCons_inv h6; clear h6
  obtain ⟨rfl, h8⟩ := asP_inv h7; clear h7
  obtain ⟨a5, r5, rfl, h9⟩ := asCons_inv h8; clear h8
  obtain ⟨rfl, h10⟩ := asP_inv h9; clear h9
  obtain ⟨a6, r6, rfl, h11⟩ := asCons_inv h10; clear h10
  obtain ⟨s2, rfl, h12⟩ := asD_inv h11; clear h11
  obtain ⟨a7, r7, rfl, h13⟩ := asCons_inv h12; clear h12
  obtain ⟨s3, rfl, h14⟩ := asD_inv h13; clear h13
  obtain ⟨rfl, h15⟩ := asNil_inv h14; clear h14
  obtain ⟨a8, r8, rfl, h16⟩ := asCons_inv h15; clear h15
  obtain ⟨a9, rfl, h17⟩ := asOne_inv h16; clear h16
  obtain ⟨l10, rfl, h18⟩ := asAgL_inv h17; clear h17
  obtain ⟨a11, r11, rfl, h19⟩ := asCons_inv h18; clear h18
  obtain ⟨rfl, h20⟩ := asP_inv h19; clear h19
  obtain ⟨a12, r12, rfl, h21⟩ := asCons_inv h20; clear h20
  obtain ⟨s4, rfl, h22⟩ := asD_inv h21; clear h21
  obtain ⟨a13, r13, rfl, h23⟩ := asCons_inv h22; clear h22
  obtain ⟨s5, rfl, h24⟩ := asD_inv h23; clear h23
  obtain ⟨a14, r14, rfl, h25⟩ := asCons_inv h24; clear h24
  obtain ⟨s6, rfl, h26⟩ := asD_inv h25; clear h25
  obtain ⟨a15, r15, rfl, h27⟩ := asCons_inv h26; clear h26
  obtain ⟨s7, rfl, h28⟩ := asD_inv h27; clear h27
  obtain ⟨a16, r16, rfl, h29⟩ := asCons_inv h28; clear h28
  obtain ⟨s8, rfl, h30⟩ := asD_inv h29; clear h29
  obtain ⟨a17, r17, rfl, h31⟩ := asCons_inv h30; clear h30
  obtain ⟨s9, rfl, h32⟩ := asD_inv h31; clear h31
  obtain ⟨a18, r18, rfl, h33⟩ := asCons_inv h32; clear h32
  obtain ⟨rfl, h34⟩ := asP_inv h33; clear h33
  obtain ⟨rfl, h35⟩ := asNil_inv h34; clear h34
  obtain ⟨a19, r19, rfl, h36⟩ := asCons_inv h35; clear h35
  obtain ⟨s10, rfl, h37⟩ := asRw_inv h36; clear h36
  obtain ⟨a20, r20, rfl, h38⟩ := asCons_inv h37; clear h37
  obtain ⟨s11, rfl, h39⟩ := asRw_inv h38; clear h38
  obtain ⟨a21, r21, rfl, h40⟩ := asCons_inv h39; clear h39
  obtain ⟨a22, rfl, h41⟩ := asOne_inv h40; clear h40
  obtain ⟨l23, rfl, h42⟩ := asAgL_inv h41; clear h41
  obtain ⟨a24, r24, rfl, h43⟩ := asCons_inv h42; clear h42
  obtain ⟨rfl, h44⟩ := asP_inv h43; clear h43
  obtain ⟨a25, r25, rfl, h45⟩ := asCons_inv h44; clear h44
  obtain ⟨s12, rfl, h46⟩ := asD_inv h45; clear h45
  obtain ⟨a26, r26, rfl, h47⟩ := asCons_inv h46; clear h46
  obtain ⟨s13, rfl, h48⟩ := asD_inv h47; clear h47
  obtain ⟨a27, r27, rfl, h49⟩ := asCons_inv h48; clear h48
  obtain ⟨rfl, h50⟩ := asP_inv h49; clear h49
  obtain ⟨a28, r28, rfl, h51⟩ := asCons_inv h50; clear h50
  obtain ⟨s14, rfl, h52⟩ := asD_inv h51; clear h51
  obtain ⟨a29, r29, rfl, h53⟩ := asCons_inv h52; clear h52
  obtain ⟨s15, rfl, h54⟩ := asD_inv h53; clear h53
  obtain ⟨rfl, h55⟩ := asNil_inv h54; clear h54
  obtain ⟨a30, r30, rfl, h56⟩ := asCons_inv h55; clear h55
  obtain ⟨s16, rfl, h57⟩ := asKv_inv h56; clear h56
  obtain ⟨a31, r31, rfl, h58⟩ := asCons_inv h57; clear h57
  obtain ⟨s17, rfl, h59⟩ := asRw_inv h58; clear h58
  obtain ⟨rfl, h60⟩ := asNil_inv h59; clear h59
  intro J hJ
  have hp : ∀ c' ∈ subsOf (E.info 9).keep (body Try.f9 14), SubOK E (inlF (PA (ACall E)) E 8) (E.info 9).keep 3 Try.f9.ntmps (lofL Ll9r14) c' := all_eq (by kernel_rfl : subsOf (E.info 9).keep (body Try.f9 14) = []) (all_nil)
  exact h60.of (fun s1 s2 s3 s4 s5 s6 s7 s8 s9 s10 s11 s12 s13 s14 s15 s16 s17 => J [(10000014, .undef), (0, .ptr 0 0 []), (6, .ptr 3 0 []), (7, I s1), (8, .vec 5), (77, .vec 2), (78, I s2), (79, I s3)] [.one (.pair (.sl (.int .i64)) (.pair (.int .i64) (.pair (.int .i64) (.pair (.int .i64) (.pair (.int .i64) (.pair (.int .i64) (.pair (.int .i64) (.pair (.sl (.int .i64)) .unit)))))))) (.agg [.vec 1, I s4, I s5, I s6, I s7, I s8, I s9, .vec 2]), .row (.int .i64) s10 false, .row (.int .i64) s11 false, .one (.pair (.opq .ptr) (.pair (.int .i64) (.pair (.int .i64) (.pair (.opq .map) (.pair .bool (.pair .bool .unit)))))) (.agg [.ptr 0 0 [], I s12, I s13, .mp 4, B s14, B s15]), .kv (.int .i64) s16, .row (.int .i64) s17 false]) (fun s1 s2 s3 s4 s5 s6 s7 s8 s9 s10 s11 s12 s13 s14 s15 s16 s17 hb => loop_round2 (S := ofL Sl9r14) (L := lofL Ll9r14) hSl9r14 (inlOK _) hp hJ (by kernel_rfl) hb)

abbrev S9 : List (Nat × Pat × Sp) := [(19, none, sp19)]
theorem hS9 : SpecOK E (ofL S9) := specOK_cons h19 (specOK_nil)
abbrev L9 : List (Nat × List Nat × Pat × LSp) := [(10000009, [0, 6, 7, 8, 60, 61, 62], none, lsl9r9), (10000014, [0, 6, 7, 8, 77, 78, 79], none, lsl9r14)]
def sp9 : Sp := fun args τ K => asCons args fun a1 r1 => asP (.ptr 0 0 []) a1 <| asCons r1 fun a2 r2 => asD (.sl (.int .i64)) a2 fun x1 => asNil r2 <| asCons τ fun a3 r3 => asOne (.pair (.sl (.int .i64)) (.pair (.int .i64) (.pair (.int .i64) (.pair (.int .i64) (.pair (.int .i64) (.pair (.int .i64) (.pair (.int .i64) (.pair (.sl (.int .i64)) .unit)))))))) a3 fun a4 => asAgL a4 fun l5 => asCons l5 fun a6 r6 => asP (.vec 1) a6 <| asCons r6 fun a7 r7 => asD (.int .i64) a7 fun x2 => asCons r7 fun a8 r8 => asD (.int .i64) a8 fun x3 => asCons r8 fun a9 r9 => asD (.int .i64) a9 fun x4 => asCons r9 fun a10 r10 => asD (.int .i64) a10 fun x5 => asCons r10 fun a11 r11 => asD (.int .i64) a11 fun x6 => asCons r11 fun a12 r12 => asD (.int .i64) a12 fun x7 => asCons r12 fun a13 r13 => asP (.vec 2) a13 <| asNil r13 <| asCons r3 fun a14 r14 => asRw (.int .i64) false a14 fun x8 => asCons r14 fun a15 r15 => asRw (.int .i64) false a15 fun x9 => asNil r15 <| c9 x1 x2 x3 x4 x5 x6 x7 x8 x9 (fun z1 z2 z3 z4 z5 z6 z7 z8 z9 z10 => K (.tup [.vec 3, I z1]) [.one (.pair (.sl (.int .i64)) (.pair (.int .i64) (.pair (.int .i64) (.pair (.int .i64) (.pair (.int .i64) (.pair (.int .i64) (.pair (.int .i64) (.pair (.sl (.int .i64)) .unit)))))))) (.agg [.vec 1, I z2, I z3, I z4, I z5, I z6, I z7, .vec 2]), .row (.int .i64) z8 false, .row (.int .i64) z9 false, .row (.int .i64) z10 false]) (fun z1 z2 z3 z4 z5 z6 z7 z8 z9 z10 => K (.tup [.vec 3, I z1]) [.one (.pair (.sl (.int .i64)) (.pair (.int .i64) (.pair (.int .i64) (.pair (.int .i64) (.pair (.int .i64) (.pair (.int .i64) (.pair (.int .i64) (.pair (.sl (.int .i64)) .unit)))))))) (.agg [.vec 1, I z2, I z3, I z4, I z5, I z6, I z7, .nils (.int .i64)]), .row (.int .i64) z8 false, .row (.int .i64) z9 false, .row (.int .i64) z10 false])
theorem h9 : ∀ args τ K, sp9 args τ K → ACall E 9 args τ K := by
  intro args τ K h0
  unfold sp9 at h0
  obtain ⟨a1, r1, rfl, h1⟩ := asCons_inv h0; clear h0
  obtain ⟨rfl, h2⟩ := asP_inv h1; clear h1
  obtain ⟨a2, r2, rfl, h3⟩ := asCons_inv h2; clear h2
  obtain ⟨x1, rfl, h4⟩ := asD_inv h3; clear h3
  obtain ⟨rfl, h5⟩ := asNil_inv h4; clear h4
  obtain ⟨a3, r3, rfl, h6⟩ := asCons_inv h5; clear h5
  obtain ⟨a4, rfl, h7⟩ := asOne_inv h6; clear h6
  obtain ⟨l5, rfl, h8⟩ := asAgL_inv h7; clear h7
  obtain ⟨a6, r6, rfl, h9⟩ := asCons_inv h8; clear h8
  obtain ⟨rfl, h10⟩ := asP_inv h9; clear h9
  obtain ⟨a7, r7, rfl, h11⟩ := asCons_inv h10; clear h10
  obtain ⟨x2, rfl, h12⟩ := asD_inv h11; clear h11
  obtain ⟨a8, r8, rfl, h13⟩ := asCons_inv h12; clear h12
  obtain ⟨x3, rfl, h14⟩ := asD_inv h13; clear h13
  obtain ⟨a9, r9, rfl, h15⟩ := asCons_inv h14; clear h14
  obtain ⟨x4, rfl, h16⟩ := asD_inv h15; clear h15
  obtain ⟨a10, r10, rfl, h17⟩ := asCons_inv h16; clear h16
  obtain ⟨x5, rfl, h18⟩ := asD_inv h17; clear h17
  obtain ⟨a11, r11, rfl, h19⟩ := asCons_inv h18; clear h18
  obtain ⟨x6, rfl, h20⟩ := asD_inv h19; clear h19
  obtain ⟨a12, r12, rfl, h21⟩ := asCons_inv h20; clear h20
  obtain ⟨x7, rfl, h22⟩ := asD_inv h21; clear h21
  obtain ⟨a13, r13, rfl, h23⟩ := asCons_inv h22; clear h22
  obtain ⟨rfl, h24⟩ := asP_inv h23; clear h23
  obtain ⟨rfl, h25⟩ := asNil_inv h24; clear h24
  obtain ⟨a14, r14, rfl, h26⟩ := asCons_inv h25; clear h25
  obtain ⟨x8, rfl, h27⟩ := asRw_inv h26; clear h26
  obtain ⟨a15, r15, rfl, h28⟩ := asCons_inv h27; clear h27
  obtain ⟨x9, rfl, h29⟩ := asRw_inv h28; clear h28
  obtain ⟨rfl, h30⟩ := asNil_inv h29; clear h29
  exact ACall.spec2 (fn := Try.f9) (c := codeOf Try.f9) (S := ofL S9) (L := lofL L9) hS9 (by kernel_rfl) (by kernel_rfl) (inlOK _) (all_eq (by kernel_rfl : subsOf (E.info 9).keep (codeOf Try.f9) = [.loop (body Try.f9 9), .loop (body Try.f9 14)]) (all_cons (loopOK_of (mk := 10000009) (sl := [0, 6, 7, 8, 60, 61, 62]) (ss := [([0, 6, 7, 8, 60, 61, 62], lsl9r9)]) (by kernel_rfl) (by kernel_rfl) (all_cons l9r9v (all_nil))) (all_cons (loopOK_of (mk := 10000014) (sl := [0, 6, 7, 8, 77, 78, 79]) (ss := [([0, 6, 7, 8, 77, 78, 79], lsl9r14)]) (by kernel_rfl) (by kernel_rfl) (all_cons l9r14v (all_nil))) (all_nil)))) (by kernel_rfl) h30.of

abbrev Sj3r50v2 : List (Nat × Pat × Sp) := [(9, none, sp9)]
theorem hSj3r50v2 : SpecOK E (ofL Sj3r50v2) := specOK_cons h9 (specOK_nil)
abbrev Lj3r50v2 : List (Nat × List Nat × Pat × LSp) := [(4000061, [2, 3, 4, 11, 13, 14, 15, 16, 17, 32, 294, 295], none, lsl3r61)]
def lsj3r50v2 : LSp := fun vs σ K => asCons vs fun a1 r1 => asD (.int .i64) a1 fun s1 => asCons r1 fun a2 r2 => asD (.sl (.int .i64)) a2 fun s2 => asCons r2 fun a3 r3 => asD (.sl (.int .i64)) a3 fun s3 => asCons r3 fun a4 r4 => asP (.ptr 0 0 []) a4 <| asCons r4 fun a5 r5 => asD (.int .i64) a5 fun s4 => asCons r5 fun a6 r6 => asD (.int .i64) a6 fun s5 => asCons r6 fun a7 r7 => asD (.int .i64) a7 fun s6 => asCons r7 fun a8 r8 => asSl 3 false a8 fun s7 s8 s9 => asCons r8 fun a9 r9 => asD (.int .i64) a9 fun s10 => asCons r9 fun a10 r10 => asD (.int .i64) a10 fun s11 => asCons r10 fun a11 r11 => asP (.vec 4) a11 <| asCons r11 fun a12 r12 => asD (.int .i64) a12 fun s12 => asCons r12 fun a13 r13 => asD (.int .i64) a13 fun s13 => asCons r13 fun a14 r14 => asD .bool a14 fun s14 => asCons r14 fun a15 r15 => asFn 9 a15 fun l16 l17 => asCons l16 fun a18 r18 => asP (.ptr 0 0 []) a18 <| asNil r18 <| asNil l17 <| asNil r15 <| asCons σ fun a19 r19 => asOne (.pair (.sl (.int .i64)) (.pair (.int .i64) (.pair (.int .i64) (.pair (.int .i64) (.pair (.int .i64) (.pair (.int .i64) (.pair (.int .i64) (.pair (.sl (.int .i64)) .unit)))))))) a19 fun a20 => asAgL a20 fun l21 => asCons l21 fun a22 r22 => asP (.vec 1) a22 <| asCons r22 fun a23 r23 => asD (.int .i64) a23 fun s15 => asCons r23 fun a24 r24 => asD (.int .i64) a24 fun s16 => asCons r24 fun a25 r25 => asD (.int .i64) a25 fun s17 => asCons r25 fun a26 r26 => asD (.int .i64) a26 fun s18 => asCons r26 fun a27 r27 => asD (.int .i64) a27 fun s19 => asCons r27 fun a28 r28 => asD (.int .i64) a28 fun s20 => asCons r28 fun a29 r29 => asP (.vec 2) a29 <| asNil r29 <| asCons r19 fun a30 r30 => asRw (.int .i64) false a30 fun s21 => asCons r30 fun a31 r31 => asRw (.int .i64) false a31 fun s22 => asCons r31 fun a32 r32 => asRw (.pair (.int .i64) (.pair (.int .i64) (.pair (.int .i64) .unit))) false a32 fun s23 => asCons r32 fun a33 r33 => asRw (.int .i64) false a33 fun s24 => asNil r33 <| j3r50v2 (fun z1 => K .ret [(2, .undef), (3, .undef), (4, .undef), (10, B z1), (11, .undef), (13, .undef), (14, .undef), (15, .undef), (16, .undef), (17, .undef)] []) (fun z1 z2 z3 z4 z5 z6 z7 z8 z9 z10 z11 z12 z13 z14 z15 z16 z17 z18 z19 => K (.exit 1) [(2, I z1), (3, .d (.sl (.int .i64)) z2), (4, .d (.sl (.int .i64)) z3), (10, .undef), (11, .ptr 0 0 []), (13, I z4), (14, I z5), (15, I z6), (16, .sl 3 z7 z8 z9 false), (17, I z10)] [.one (.pair (.sl (.int .i64)) (.pair (.int .i64) (.pair (.int .i64) (.pair (.int .i64) (.pair (.int .i64) (.pair (.int .i64) (.pair (.int .i64) (.pair (.sl (.int .i64)) .unit)))))))) (.agg [.vec 1, I z11, I z12, I z13, I z14, I z15, I z16, .vec 2]), .row (.int .i64) z17 false, .row (.int .i64) z18 false, .row (.pair (.int .i64) (.pair (.int .i64) (.pair (.int .i64) .unit))) z19 false]) (fun z1 z2 z3 z4 z5 z6 z7 z8 z9 z10 z11 z12 z13 z14 z15 z16 z17 z18 z19 => K .normal [(2, I z1), (3, .d (.sl (.int .i64)) z2), (4, .d (.sl (.int .i64)) z3), (10, .undef), (11, .ptr 0 0 []), (13, I z4), (14, I z5), (15, I z6), (16, .sl 3 z7 z8 z9 false), (17, I z10)] [.one (.pair (.sl (.int .i64)) (.pair (.int .i64) (.pair (.int .i64) (.pair (.int .i64) (.pair (.int .i64) (.pair (.int .i64) (.pair (.int .i64) (.pair (.sl (.int .i64)) .unit)))))))) (.agg [.vec 1, I z11, I z12, I z13, I z14, I z15, I z16, .vec 2]), .row (.int .i64) z17 false, .row (.int .i64) z18 false, .row (.pair (.int .i64) (.pair (.int .i64) (.pair (.int .i64) .unit))) z19 false]) s1 s2 s3 s4 s5 s6 s7 s8 s9 s10 s11 s12 s13 s14 s15 s16 s17 s18 s19 s20 s21 s22 s23 s24
theorem j3r50v2v : JoinV E (inlF (PA (ACall E)) E 8) (E.info 3).keep 0 Try.f3.ntmps 4400050 4000050 (jbody Try.f3 4000050) ([2, 3, 4, 11, 13, 14, 15, 16, 17, 19, 25, 26, 27, 30, 31], lsj3r50v2) := by
  intro vs σ K (h0 : lsj3r50v2 vs σ K)
  unfold lsj3r50v2 at h0
  obtain ⟨a1, r1, rfl, h1⟩ := asCons_inv h0; clear h0
  obtain ⟨s1, rfl, h2⟩ := asD_inv h1; clear h1
  obtain ⟨a2, r2, rfl, h3⟩ := asCons_inv h2; clear h2
  obtain ⟨s2, rfl, h4⟩ := asD_inv h3; clear h3
  obtain ⟨a3, r3, rfl, h5⟩ := asCons_inv h4; clear h4
  obtain ⟨s3, rfl, h6⟩ := asD_inv h5; clear h5
  obtain ⟨a4, r4, rfl, h7⟩ := asCons_inv h6; clear h6
  obtain ⟨rfl, h8⟩ := asP_inv h7; clear h7
  obtain ⟨a5, r5, rfl, h9⟩ := asCons_inv h8; clear h8
  obtain ⟨s4, rfl, h10⟩ := asD_inv h9; clear h9
  obtain ⟨a6, r6, rfl, h11⟩ := asCons_inv h10; clear h10
  obtain ⟨s5, rfl, h12⟩ := asD_inv h11; clear h11
  obtain ⟨a7, r7, rfl, h13⟩ := asCons_inv h12; clear h12
  obtain ⟨s6, rfl, h14⟩ := asD_inv h13; clear h13
  obtain ⟨a8, r8, rfl, h15⟩ := asCons_inv h14; clear h14
  obtain ⟨s7, s8, s9, rfl, h16⟩ := asSl_inv h15; clear h15
  obtain ⟨a9, r9, rfl, h17⟩ := asCons_inv h16; clear h16
  obtain ⟨s10, rfl, h18⟩ := asD_inv h17; clear h17
  obtain ⟨a10, r10, rfl, h19⟩ := asCons_inv h18; clear h18
  obtain ⟨s11, rfl, h20⟩ := asD_inv h19; clear h19
  obtain ⟨a11, r11, rfl, h21⟩ := asCons_inv h20; clear h20
  obtain ⟨rfl, h22⟩ := asP_inv h21; clear h21
  obtain ⟨a12, r12, rfl, h23⟩ := asCons_inv h22; clear h22
  obtain ⟨s12, rfl, h24⟩ := asD_inv h23; clear h23
  obtain ⟨a13, r13, rfl, h25⟩ := asCons_inv h24; clear h24
  obtain ⟨s13, rfl, h26⟩ := asD_inv h25; clear h25
  obtain ⟨a14, r14, rfl, h27⟩ := asCons_inv h26; clear h26
  obtain ⟨s14, rfl, h28⟩ := asD_inv h27; clear h27
  obtain ⟨a15, r15, rfl, h29⟩ := asCons_inv h28; clear h28
  obtain ⟨l16, l17, rfl, h30⟩ := asFn_inv h29; clear h29
  obtain ⟨a18, r18, rfl, h31⟩ := asCons_inv h30; clear h30
  obtain ⟨rfl, h32⟩ := asP_inv h31; clear h31
  obtain ⟨rfl, h33⟩ := asNil_inv h32; clear h32
  obtain ⟨rfl, h34⟩ := asNil_inv h33; clear h33
  obtain ⟨rfl, h35⟩ := asNil_inv h34; clear h34
  obtain ⟨a19, r19, rfl, h36⟩ := asCons_inv h35; clear h35
  obtain ⟨a20, rfl, h37⟩ := asOne_inv h36; clear h36
  obtain ⟨l21, rfl, h38⟩ := asAgL_inv h37; clear h37
  obtain ⟨a22, r22, rfl, h39⟩ := asCons_inv h38; clear h38
  obtain ⟨rfl, h40⟩ := asP_inv h39; clear h39
  obtain ⟨a23, r23, rfl, h41⟩ := asCons_inv h40; clear h40
  obtain ⟨s15, rfl, h42⟩ := asD_inv h41; clear h41
  obtain ⟨a24, r24, rfl, h43⟩ := asCons_inv h42; clear h42
  obtain ⟨s16, rfl, h44⟩ := asD_inv h43; clear h43
  obtain ⟨a25, r25, rfl, h45⟩ := asCons_inv h44; clear h44
  obtain ⟨s17, rfl, h46⟩ := asD_inv h45; clear h45
  obtain ⟨a26, r26, rfl, h47⟩ := asCons_inv h46; clear h46
  obtain ⟨s18, rfl, h48⟩ := asD_inv h47; clear h47
  obtain ⟨a27, r27, rfl, h49⟩ := asCons_inv h48; clear h48
  obtain ⟨s19, rfl, h50⟩ := asD_inv h49; clear h49
  obtain ⟨a28, r28, rfl, h51⟩ := asCons_inv h50; clear h50
  obtain ⟨s20, rfl, h52⟩ := asD_inv h51; clear h51
  obtain ⟨a29, r29, rfl, h53⟩ := asCons_inv h52; clear h52
  obtain ⟨rfl, h54⟩ := asP_inv h53; clear h53
  obtain ⟨rfl, h55⟩ := asNil_inv h54; clear h54
  obtain ⟨a30, r30, rfl, h56⟩ := asCons_inv h55; clear h55
  obtain ⟨s21, rfl, h57⟩ := asRw_inv h56; clear h56
  obtain ⟨a31, r31, rfl, h58⟩ := asCons_inv h57; clear h57
  obtain ⟨s22, rfl, h59⟩ := asRw_inv h58; clear h58
  obtain ⟨a32, r32, rfl, h60⟩ := asCons_inv h59; clear h59
  obtain ⟨s23, rfl, h61⟩ := asRw_inv h60; clear h60
  obtain ⟨a33, r33, rfl, h62⟩ := asCons_inv h61; clear h61
  obtain ⟨s24, rfl, h63⟩ := asRw_inv h62; clear h62
  obtain ⟨rfl, h64⟩ := asNil_inv h63; clear h63
  exact join_round2 (S := ofL Sj3r50v2) (L := lofL Lj3r50v2) hSj3r50v2 (inlOK _) (all_eq (by kernel_rfl : subsOf (E.info 3).keep (jbody Try.f3 4000050) = [.loop (body Try.f3 61)]) (all_cons (loopOK_of (mk := 4000061) (sl := [2, 3, 4, 11, 13, 14, 15, 16, 17, 32, 294, 295]) (ss := [([2, 3, 4, 11, 13, 14, 15, 16, 17, 32, 294, 295], lsl3r61)]) (by kernel_rfl) (by kernel_rfl) (all_cons l3r61v (all_nil))) (all_nil))) (by kernel_rfl) h64.of

abbrev Sj3r34v2 : List (Nat × Pat × Sp) := [(8, none, sp8v2)]
theorem hSj3r34v2 : SpecOK E (ofL Sj3r34v2) := specOK_cons h8v2 (specOK_nil)
abbrev Lj3r34v2 : List (Nat × List Nat × Pat × LSp) := []
def lsj3r34v2 : LSp := fun vs σ K => asCons vs fun a1 r1 => asD (.int .i64) a1 fun s1 => asCons r1 fun a2 r2 => asD (.sl (.int .i64)) a2 fun s2 => asCons r2 fun a3 r3 => asD (.sl (.int .i64)) a3 fun s3 => asCons r3 fun a4 r4 => asP (.ptr 0 0 []) a4 <| asCons r4 fun a5 r5 => asD (.int .i64) a5 fun s4 => asCons r5 fun a6 r6 => asD (.int .i64) a6 fun s5 => asCons r6 fun a7 r7 => asD (.int .i64) a7 fun s6 => asCons r7 fun a8 r8 => asSl 3 false a8 fun s7 s8 s9 => asCons r8 fun a9 r9 => asD (.int .i64) a9 fun s10 => asCons r9 fun a10 r10 => asD (.int .i64) a10 fun s11 => asCons r10 fun a11 r11 => asD .bool a11 fun s12 => asNil r11 <| asCons σ fun a12 r12 => asOne (.pair (.sl (.int .i64)) (.pair (.int .i64) (.pair (.int .i64) (.pair (.int .i64) (.pair (.int .i64) (.pair (.int .i64) (.pair (.int .i64) (.pair (.sl (.int .i64)) .unit)))))))) a12 fun a13 => asAgL a13 fun l14 => asCons l14 fun a15 r15 => asP (.vec 1) a15 <| asCons r15 fun a16 r16 => asD (.int .i64) a16 fun s13 => asCons r16 fun a17 r17 => asD (.int .i64) a17 fun s14 => asCons r17 fun a18 r18 => asD (.int .i64) a18 fun s15 => asCons r18 fun a19 r19 => asD (.int .i64) a19 fun s16 => asCons r19 fun a20 r20 => asD (.int .i64) a20 fun s17 => asCons r20 fun a21 r21 => asD (.int .i64) a21 fun s18 => asCons r21 fun a22 r22 => asP (.vec 2) a22 <| asNil r22 <| asCons r12 fun a23 r23 => asRw (.int .i64) false a23 fun s19 => asCons r23 fun a24 r24 => asRw (.int .i64) false a24 fun s20 => asCons r24 fun a25 r25 => asRw (.pair (.int .i64) (.pair (.int .i64) (.pair (.int .i64) .unit))) false a25 fun s21 => asNil r25 <| j3r34v2 (fun z1 => K .ret [(2, .undef), (3, .undef), (4, .undef), (10, B z1), (11, .undef), (13, .undef), (14, .undef), (15, .undef), (16, .undef), (17, .undef)] []) (fun z1 z2 z3 z4 z5 z6 z7 z8 z9 z10 z11 z12 z13 z14 z15 z16 z17 z18 z19 => K .normal [(2, I z1), (3, .d (.sl (.int .i64)) z2), (4, .d (.sl (.int .i64)) z3), (10, .undef), (11, .ptr 0 0 []), (13, I z4), (14, I z5), (15, I z6), (16, .sl 3 z7 z8 z9 false), (17, I z10)] [.one (.pair (.sl (.int .i64)) (.pair (.int .i64) (.pair (.int .i64) (.pair (.int .i64) (.pair (.int .i64) (.pair (.int .i64) (.pair (.int .i64) (.pair (.sl (.int .i64)) .unit)))))))) (.agg [.vec 1, I z11, I z12, I z13, I z14, I z15, I z16, .vec 2]), .row (.int .i64) z17 false, .row (.int .i64) z18 false, .row (.pair (.int .i64) (.pair (.int .i64) (.pair (.int .i64) .unit))) z19 false]) s1 s2 s3 s4 s5 s6 s7 s8 s9 s10 s11 s12 s13 s14 s15 s16 s17 s18 s19 s20 s21
theorem j3r34v2v : JoinV E (inlF (PA (ACall E)) E 8) (E.info 3).keep 0 Try.f3.ntmps 4400034 4000034 (jbody Try.f3 4000034) ([2, 3, 4, 11, 13, 14, 15, 16, 17, 20, 21], lsj3r34v2) := by
  intro vs σ K (h0 : lsj3r34v2 vs σ K)
  unfold lsj3r34v2 at h0
  obtain ⟨a1, r1, rfl, h1⟩ := asCons_inv h0; clear h0
  obtain ⟨s1, rfl, h2⟩ := asD_inv h1; clear h1
  obtain ⟨a2, r2, rfl, h3⟩ := asCons_inv h2; clear h2
  obtain ⟨s2, rfl, h4⟩ := asD_inv h3; clear h3
  obtain ⟨a3, r3, rfl, h5⟩ := asCons_inv h4; clear h4
  obtain ⟨s3, rfl, h6⟩ := asD_inv h5; clear h5
  obtain ⟨a4, r4, rfl, h7⟩ := asCons_inv h6; clear h6
  obtain ⟨rfl, h8⟩ := asP_inv h7; clear h7
  obtain ⟨a5, r5, rfl, h9⟩ := asCons_inv h8; clear h8
  obtain ⟨s4, rfl, h10⟩ := asD_inv h9; clear h9
  obtain ⟨a6, r6, rfl, h11⟩ := asCons_inv h10; clear h10
  obtain ⟨s5, rfl, h12⟩ := asD_inv h11; clear h11
  obtain ⟨a7, r7, rfl, h13⟩ := asCons_inv h12; clear h12
  obtain ⟨s6, rfl, h14⟩ := asD_inv h13; clear h13
  obtain ⟨a8, r8, rfl, h15⟩ := asCons_inv h14; clear h14
  obtain ⟨s7, s8, s9, rfl, h16⟩ := asSl_inv h15; clear h15
  obtain ⟨a9, r9, rfl, h17⟩ := asCons_inv h16; clear h16
  obtain ⟨s10, rfl, h18⟩ := asD_inv h17; clear h17
  obtain ⟨a10, r10, rfl, h19⟩ := asCons_inv h18; clear h18
  obtain ⟨s11, rfl, h20⟩ := asD_inv h19; clear h19
  obtain ⟨a11, r11, rfl, h21⟩ := asCons_inv h20; clear h20
  obtain ⟨s12, rfl, h22⟩ := asD_inv h21; clear h21
  obtain ⟨rfl, h23⟩ := asNil_inv h22; clear h22
  obtain ⟨a12, r12, rfl, h24⟩ := asCons_inv h23; clear h23
  obtain ⟨a13, rfl, h25⟩ := asOne_inv h24; clear h24
  obtain ⟨l14, rfl, h26⟩ := asAgL_inv h25; clear h25
  obtain ⟨a15, r15, rfl, h27⟩ := asCons_inv h26; clear h26
  obtain ⟨rfl, h28⟩ := asP_inv h27; clear h27
  obtain ⟨a16, r16, rfl, h29⟩ := asCons_inv h28; clear h28
  obtain ⟨s13, rfl, h30⟩ := asD_inv h29; clear h29
  obtain ⟨a17, r17, rfl, h31⟩ := asCons_inv h30; clear h30
  obtain ⟨s14, rfl, h32⟩ := asD_inv h31; clear h31
  obtain ⟨a18, r18, rfl, h33⟩ := asCons_inv h32; clear h32
  obtain ⟨s15, rfl, h34⟩ := asD_inv h33; clear h33
  obtain ⟨a19, r19, rfl, h35⟩ := asCons_inv h34; clear h34
  obtain ⟨s16, rfl, h36⟩ := asD_inv h35; clear h35
  obtain ⟨a20, r20, rfl, h37⟩ := asCons_inv h36; clear h36
  obtain ⟨s17, rfl, h38⟩ := asD_inv h37; clear h37
  obtain ⟨a21, r21, rfl, h39⟩ := asCons_inv h38; clear h38
  obtain ⟨s18, rfl, h40⟩ := asD_inv h39; clear h39
  obtain ⟨a22, r22, rfl, h41⟩ := asCons_inv h40; clear h40
  obtain ⟨rfl, h42⟩ := asP_inv h41; clear h41
  obtain ⟨rfl, h43⟩ := asNil_inv h42; clear h42
  obtain ⟨a23, r23, rfl, h44⟩ := asCons_inv h43; clear h43
  obtain ⟨s19, rfl, h45⟩ := asRw_inv h44; clear h44
  obtain ⟨a24, r24, rfl, h46⟩ := asCons_inv h45; clear h45
  obtain ⟨s20, rfl, h47⟩ := asRw_inv h46; clear h46
  obtain ⟨a25, r25, rfl, h48⟩ := asCons_inv h47; clear h47
  obtain ⟨s21, rfl, h49⟩ := asRw_inv h48; clear h48
  obtain ⟨rfl, h50⟩ := asNil_inv h49; clear h49
  exact join_round2 (S := ofL Sj3r34v2) (L := lofL Lj3r34v2) hSj3r34v2 (inlOK _) (all_eq (by kernel_rfl : subsOf (E.info 3).keep (jbody Try.f3 4000034) = []) (all_nil)) (by kernel_rfl) h50.of

abbrev Sj3r21v2 : List (Nat × Pat × Sp) := [(4, none, sp4), (7, none, sp7v2)]
theorem hSj3r21v2 : SpecOK E (ofL Sj3r21v2) := specOK_cons h4 (specOK_cons h7v2 (specOK_nil))
abbrev Lj3r21v2 : List (Nat × List Nat × Pat × LSp) := [(4400034, [2, 3, 4, 11, 13, 14, 15, 16, 17, 20, 21], some ([.d (.int .i64), .d (.sl (.int .i64)), .d (.sl (.int .i64)), .fix (.ptr 0 0 []), .d (.int .i64), .d (.int .i64), .d (.int .i64), .sl 3 false, .d (.int .i64), .d (.int .i64), .d .bool], [.one (.pair (.sl (.int .i64)) (.pair (.int .i64) (.pair (.int .i64) (.pair (.int .i64) (.pair (.int .i64) (.pair (.int .i64) (.pair (.int .i64) (.pair (.sl (.int .i64)) .unit)))))))) (.agg [.fix (.vec 1), .d (.int .i64), .d (.int .i64), .d (.int .i64), .d (.int .i64), .d (.int .i64), .d (.int .i64), .fix (.vec 2)]), .row (.int .i64) false, .row (.int .i64) false, .row (.pair (.int .i64) (.pair (.int .i64) (.pair (.int .i64) .unit))) false]), lsj3r34v2), (4400034, [2, 3, 4, 11, 13, 14, 15, 16, 17, 20, 21], some ([.d (.int .i64), .d (.sl (.int .i64)), .d (.sl (.int .i64)), .fix (.ptr 0 0 []), .d (.int .i64), .d (.int .i64), .d (.int .i64), .fix (.vec 3), .d (.int .i64), .d (.int .i64), .d .bool], [.one (.pair (.sl (.int .i64)) (.pair (.int .i64) (.pair (.int .i64) (.pair (.int .i64) (.pair (.int .i64) (.pair (.int .i64) (.pair (.int .i64) (.pair (.sl (.int .i64)) .unit)))))))) (.agg [.fix (.vec 1), .d (.int .i64), .d (.int .i64), .d (.int .i64), .d (.int .i64), .d (.int .i64), .d (.int .i64), .fix (.vec 2)]), .row (.int .i64) false, .row (.int .i64) false, .row (.pair (.int .i64) (.pair (.int .i64) (.pair (.int .i64) .unit))) false]), lsj3r34)]
def lsj3r21v2 : LSp := fun vs σ K => asCons vs fun a1 r1 => asD (.int .i64) a1 fun s1 => asCons r1 fun a2 r2 => asD (.sl (.int .i64)) a2 fun s2 => asCons r2 fun a3 r3 => asD (.sl (.int .i64)) a3 fun s3 => asCons r3 fun a4 r4 => asP (.ptr 0 0 []) a4 <| asCons r4 fun a5 r5 => asD (.int .i64) a5 fun s4 => asCons r5 fun a6 r6 => asD (.int .i64) a6 fun s5 => asCons r6 fun a7 r7 => asD (.int .i64) a7 fun s6 => asCons r7 fun a8 r8 => asSl 3 false a8 fun s7 s8 s9 => asCons r8 fun a9 r9 => asD (.int .i64) a9 fun s10 => asCons r9 fun a10 r10 => asD (.int .i64) a10 fun s11 => asCons r10 fun a11 r11 => asD (.int .i64) a11 fun s12 => asCons r11 fun a12 r12 => asD .bool a12 fun s13 => asCons r12 fun a13 r13 => asD .bool a13 fun s14 => asNil r13 <| asCons σ fun a14 r14 => asOne (.pair (.sl (.int .i64)) (.pair (.int .i64) (.pair (.int .i64) (.pair (.int .i64) (.pair (.int .i64) (.pair (.int .i64) (.pair (.int .i64) (.pair (.sl (.int .i64)) .unit)))))))) a14 fun a15 => asAgL a15 fun l16 => asCons l16 fun a17 r17 => asP (.vec 1) a17 <| asCons r17 fun a18 r18 => asD (.int .i64) a18 fun s15 => asCons r18 fun a19 r19 => asD (.int .i64) a19 fun s16 => asCons r19 fun a20 r20 => asD (.int .i64) a20 fun s17 => asCons r20 fun a21 r21 => asD (.int .i64) a21 fun s18 => asCons r21 fun a22 r22 => asD (.int .i64) a22 fun s19 => asCons r22 fun a23 r23 => asD (.int .i64) a23 fun s20 => asCons r23 fun a24 r24 => asP (.vec 2) a24 <| asNil r24 <| asCons r14 fun a25 r25 => asRw (.int .i64) false a25 fun s21 => asCons r25 fun a26 r26 => asRw (.int .i64) false a26 fun s22 => asCons r26 fun a27 r27 => asRw (.pair (.int .i64) (.pair (.int .i64) (.pair (.int .i64) .unit))) false a27 fun s23 => asNil r27 <| j3r21v2 (fun z1 => K .ret [(2, .undef), (3, .undef), (4, .undef), (10, B z1), (11, .undef), (13, .undef), (14, .undef), (15, .undef), (16, .undef), (17, .undef)] []) (fun z1 z2 z3 z4 z5 z6 z7 z8 z9 z10 z11 z12 z13 z14 z15 z16 z17 z18 z19 => K .normal [(2, I z1), (3, .d (.sl (.int .i64)) z2), (4, .d (.sl (.int .i64)) z3), (10, .undef), (11, .ptr 0 0 []), (13, I z4), (14, I z5), (15, I z6), (16, .sl 3 z7 z8 z9 false), (17, I z10)] [.one (.pair (.sl (.int .i64)) (.pair (.int .i64) (.pair (.int .i64) (.pair (.int .i64) (.pair (.int .i64) (.pair (.int .i64) (.pair (.int .i64) (.pair (.sl (.int .i64)) .unit)))))))) (.agg [.vec 1, I z11, I z12, I z13, I z14, I z15, I z16, .vec 2]), .row (.int .i64) z17 false, .row (.int .i64) z18 false, .row (.pair (.int .i64) (.pair (.int .i64) (.pair (.int .i64) .unit))) z19 false]) (fun z1 z2 z3 z4 z5 z6 z7 z8 z9 z10 z11 z12 z13 z14 z15 z16 => K .normal [(2, I z1), (3, .d (.sl (.int .i64)) z2), (4, .d (.sl (.int .i64)) z3), (10, .undef), (11, .ptr 0 0 []), (13, I z4), (14, I z5), (15, I z6), (16, .vec 3), (17, I z7)] [.one (.pair (.sl (.int .i64)) (.pair (.int .i64) (.pair (.int .i64) (.pair (.int .i64) (.pair (.int .i64) (.pair (.int .i64) (.pair (.int .i64) (.pair (.sl (.int .i64)) .unit)))))))) (.agg [.vec 1, I z8, I z9, I z10, I z11, I z12, I z13, .vec 2]), .row (.int .i64) z14 false, .row (.int .i64) z15 false, .row (.pair (.int .i64) (.pair (.int .i64) (.pair (.int .i64) .unit))) z16 false]) s1 s2 s3 s4 s5 s6 s7 s8 s9 s10 s11 s12 s13 s14 s15 s16 s17 s18 s19 s20 s21 s22 s23
theorem j3r21v2v : JoinV E (inlF (PA (ACall E)) E 8) (E.info 3).keep 0 Try.f3.ntmps 4400021 4000021 (jbody Try.f3 4000021) ([2, 3, 4, 11, 13, 14, 15, 16, 17, 18, 20, 21, 22], lsj3r21v2) := by
  intro vs σ K (h0 : lsj3r21v2 vs σ K)
  unfold lsj3r21v2 at h0
  obtain ⟨a1, r1, rfl, h1⟩ := asCons_inv h0; clear h0
  obtain ⟨s1, rfl, h2⟩ := asD_inv h1; clear h1
  obtain ⟨a2, r2, rfl, h3⟩ := asCons_inv h2; clear h2
  obtain ⟨s2, rfl, h4⟩ := asD_inv h3; clear h3
  obtain ⟨a3, r3, rfl, h5⟩ := asCons_inv h4; clear h4
  obtain ⟨s3, rfl, h6⟩ := asD_inv h5; clear h5
  obtain ⟨a4, r4, rfl, h7⟩ := asCons_inv h6; clear h6
  obtain ⟨rfl, h8⟩ := asP_inv h7; clear h7
  obtain ⟨a5, r5, rfl, h9⟩ := asCons_inv h8; clear h8
  obtain ⟨s4, rfl, h10⟩ := asD_inv h9; clear h9
  obtain ⟨a6, r6, rfl, h11⟩ := asCons_inv h10; clear h10
  obtain ⟨s5, rfl, h12⟩ := asD_inv h11; clear h11
  obtain ⟨a7, r7, rfl, h13⟩ := asCons_inv h12; clear h12
  obtain ⟨s6, rfl, h14⟩ := asD_inv h13; clear h13
  obtain ⟨a8, r8, rfl, h15⟩ := asCons_inv h14; clear h14
  obtain ⟨s7, s8, s9, rfl, h16⟩ := asSl_inv h15; clear h15
  obtain ⟨a9, r9, rfl, h17⟩ := asCons_inv h16; clear h16
  obtain ⟨s10, rfl, h18⟩ := asD_inv h17; clear h17
  obtain ⟨a10, r10, rfl, h19⟩ := asCons_inv h18; clear h18
  obtain ⟨s11, rfl, h20⟩ := asD_inv h19; clear h19
  obtain ⟨a11, r11, rfl, h21⟩ := asCons_inv h20; clear h20
  obtain ⟨s12, rfl, h22⟩ := asD_inv h21; clear h21
  obtain ⟨a12, r12, rfl, h23⟩ := asCons_inv h22; clear h22
  obtain ⟨s13, rfl, h24⟩ := asD_inv h23; clear h23
  obtain ⟨a13, r13, rfl, h25⟩ := asCons_inv h24; clear h24
  obtain ⟨s14, rfl, h26⟩ := asD_inv h25; clear h25
  obtain ⟨rfl, h27⟩ := asNil_inv h26; clear h26
  obtain ⟨a14, r14, rfl, h28⟩ := asCons_inv h27; clear h27
  obtain ⟨a15, rfl, h29⟩ := asOne_inv h28; clear h28
  obtain ⟨l16, rfl, h30⟩ := asAgL_inv h29; clear h29
  obtain ⟨a17, r17, rfl, h31⟩ := asCons_inv h30; clear h30
  obtain ⟨rfl, h32⟩ := asP_inv h31; clear h31
  obtain ⟨a18, r18, rfl, h33⟩ := asCons_inv h32; clear h32
  obtain ⟨s15, rfl, h34⟩ := asD_inv h33; clear h33
  obtain ⟨a19, r19, rfl, h35⟩ := asCons_inv h34; clear h34
  obtain ⟨s16, rfl, h36⟩ := asD_inv h35; clear h35
  obtain ⟨a20, r20, rfl, h37⟩ := asCons_inv h36; clear h36
  obtain ⟨s17, rfl, h38⟩ := asD_inv h37; clear h37
  obtain ⟨a21, r21, rfl, h39⟩ := asCons_inv h38; clear h38
  obtain ⟨s18, rfl, h40⟩ := asD_inv h39; clear h39
  obtain ⟨a22, r22, rfl, h41⟩ := asCons_inv h40; clear h40
  obtain ⟨s19, rfl, h42⟩ := asD_inv h41; clear h41
  obtain ⟨a23, r23, rfl, h43⟩ := asCons_inv h42; clear h42
  obtain ⟨s20, rfl, h44⟩ := asD_inv h43; clear h43
  obtain ⟨a24, r24, rfl, h45⟩ := asCons_inv h44; clear h44
  obtain ⟨rfl, h46⟩ := asP_inv h45; clear h45
  obtain ⟨rfl, h47⟩ := asNil_inv h46; clear h46
  obtain ⟨a25, r25, rfl, h48⟩ := asCons_inv h47; clear h47
  obtain ⟨s21, rfl, h49⟩ := asRw_inv h48; clear h48
  obtain ⟨a26, r26, rfl, h50⟩ := asCons_inv h49; clear h49
  obtain ⟨s22, rfl, h51⟩ := asRw_inv h50; clear h50
  obtain ⟨a27, r27, rfl, h52⟩ := asCons_inv h51; clear h51
  obtain ⟨s23, rfl, h53⟩ := asRw_inv h52; clear h52
  obtain ⟨rfl, h54⟩ := asNil_inv h53; clear h53
  exact join_round2 (S := ofL Sj3r21v2) (L := lofL Lj3r21v2) hSj3r21v2 (inlOK _) (all_eq (by kernel_rfl : subsOf (E.info 3).keep (jbody Try.f3 4000021) = [.join 4000034 (jbody Try.f3 4000034)]) (all_cons (joinOK_of (mk := 4400034) (sl := [2, 3, 4, 11, 13, 14, 15, 16, 17, 20, 21]) (ss := [([2, 3, 4, 11, 13, 14, 15, 16, 17, 20, 21], lsj3r34v2), ([2, 3, 4, 11, 13, 14, 15, 16, 17, 20, 21], lsj3r34)]) (by kernel_rfl) (by kernel_rfl) (all_cons j3r34v2v (all_cons j3r34v (all_nil)))) (all_nil))) (by kernel_rfl) h54.of

abbrev Sj3r19v2 : List (Nat × Pat × Sp) := []
theorem hSj3r19v2 : SpecOK E (ofL Sj3r19v2) := specOK_nil
abbrev Lj3r19v2 : List (Nat × List Nat × Pat × LSp) := [(4400021, [2, 3, 4, 11, 13, 14, 15, 16, 17, 18, 20, 21, 22], none, lsj3r21v2)]
def lsj3r19v2 : LSp := fun vs σ K => asCons vs fun a1 r1 => asD (.int .i64) a1 fun s1 => asCons r1 fun a2 r2 => asD (.sl (.int .i64)) a2 fun s2 => asCons r2 fun a3 r3 => asD (.sl (.int .i64)) a3 fun s3 => asCons r3 fun a4 r4 => asP (.ptr 0 0 []) a4 <| asCons r4 fun a5 r5 => asD (.int .i64) a5 fun s4 => asCons r5 fun a6 r6 => asD (.int .i64) a6 fun s5 => asCons r6 fun a7 r7 => asD (.int .i64) a7 fun s6 => asCons r7 fun a8 r8 => asSl 3 false a8 fun s7 s8 s9 => asCons r8 fun a9 r9 => asD (.int .i64) a9 fun s10 => asCons r9 fun a10 r10 => asD (.int .i64) a10 fun s11 => asCons r10 fun a11 r11 => asD (.int .i64) a11 fun s12 => asNil r11 <| asCons σ fun a12 r12 => asOne (.pair (.sl (.int .i64)) (.pair (.int .i64) (.pair (.int .i64) (.pair (.int .i64) (.pair (.int .i64) (.pair (.int .i64) (.pair (.int .i64) (.pair (.sl (.int .i64)) .unit)))))))) a12 fun a13 => asAgL a13 fun l14 => asCons l14 fun a15 r15 => asP (.vec 1) a15 <| asCons r15 fun a16 r16 => asD (.int .i64) a16 fun s13 => asCons r16 fun a17 r17 => asD (.int .i64) a17 fun s14 => asCons r17 fun a18 r18 => asD (.int .i64) a18 fun s15 => asCons r18 fun a19 r19 => asD (.int .i64) a19 fun s16 => asCons r19 fun a20 r20 => asD (.int .i64) a20 fun s17 => asCons r20 fun a21 r21 => asD (.int .i64) a21 fun s18 => asCons r21 fun a22 r22 => asP (.vec 2) a22 <| asNil r22 <| asCons r12 fun a23 r23 => asRw (.int .i64) false a23 fun s19 => asCons r23 fun a24 r24 => asRw (.int .i64) false a24 fun s20 => asCons r24 fun a25 r25 => asRw (.pair (.int .i64) (.pair (.int .i64) (.pair (.int .i64) .unit))) false a25 fun s21 => asNil r25 <| j3r19v2 (fun z1 => K .ret [(2, .undef), (3, .undef), (4, .undef), (10, B z1), (11, .undef), (13, .undef), (14, .undef), (15, .undef), (16, .undef), (17, .undef)] []) (fun z1 z2 z3 z4 z5 z6 z7 z8 z9 z10 z11 z12 z13 z14 z15 z16 z17 z18 z19 => K .normal [(2, I z1), (3, .d (.sl (.int .i64)) z2), (4, .d (.sl (.int .i64)) z3), (10, .undef), (11, .ptr 0 0 []), (13, I z4), (14, I z5), (15, I z6), (16, .sl 3 z7 z8 z9 false), (17, I z10)] [.one (.pair (.sl (.int .i64)) (.pair (.int .i64) (.pair (.int .i64) (.pair (.int .i64) (.pair (.int .i64) (.pair (.int .i64) (.pair (.int .i64) (.pair (.sl (.int .i64)) .unit)))))))) (.agg [.vec 1, I z11, I z12, I z13, I z14, I z15, I z16, .vec 2]), .row (.int .i64) z17 false, .row (.int .i64) z18 false, .row (.pair (.int .i64) (.pair (.int .i64) (.pair (.int .i64) .unit))) z19 false]) (fun z1 z2 z3 z4 z5 z6 z7 z8 z9 z10 z11 z12 z13 z14 z15 z16 => K .normal [(2, I z1), (3, .d (.sl (.int .i64)) z2), (4, .d (.sl (.int .i64)) z3), (10, .undef), (11, .ptr 0 0 []), (13, I z4), (14, I z5), (15, I z6), (16, .vec 3), (17, I z7)] [.one (.pair (.sl (.int .i64)) (.pair (.int .i64) (.pair (.int .i64) (.pair (.int .i64) (.pair (.int .i64) (.pair (.int .i64) (.pair (.int .i64) (.pair (.sl (.int .i64)) .unit)))))))) (.agg [.vec 1, I z8, I z9, I z10, I z11, I z12, I z13, .vec 2]), .row (.int .i64) z14 false, .row (.int .i64) z15 false, .row (.pair (.int .i64) (.pair (.int .i64) (.pair (.int .i64) .unit))) z16 false]) s1 s2 s3 s4 s5 s6 s7 s8 s9 s10 s11 s12 s13 s14 s15 s16 s17 s18 s19 s20 s21
theorem j3r19v2v : JoinV E (inlF (PA (ACall E)) E 8) (E.info 3).keep 0 Try.f3.ntmps 4400019 4000019 (jbody Try.f3 4000019) ([2, 3, 4, 11, 13, 14, 15, 16, 17, 18, 20], lsj3r19v2) := by
  intro vs σ K (h0 : lsj3r19v2 vs σ K)
  unfold lsj3r19v2 at h0
  obtain ⟨a1, r1, rfl, h1⟩ := asCons_inv h0; clear h0
  obtain ⟨s1, rfl, h2⟩ := asD_inv h1; clear h1
  obtain ⟨a2, r2, rfl, h3⟩ := asCons_inv h2; clear h2
  obtain ⟨s2, rfl, h4⟩ := asD_inv h3; clear h3
  obtain ⟨a3, r3, rfl, h5⟩ := asCons_inv h4; clear h4
  obtain ⟨s3, rfl, h6⟩ := asD_inv h5; clear h5
  obtain ⟨a4, r4, rfl, h7⟩ := asCons_inv h6; clear h6
  obtain ⟨rfl, h8⟩ := asP_inv h7; clear h7
  obtain ⟨a5, r5, rfl, h9⟩ := asCons_inv h8; clear h8
  obtain ⟨s4, rfl, h10⟩ := asD_inv h9; clear h9
  obtain ⟨a6, r6, rfl, h11⟩ := asCons_inv h10; clear h10
  obtain ⟨s5, rfl, h12⟩ := asD_inv h11; clear h11
  obtain ⟨a7, r7, rfl, h13⟩ := asCons_inv h12; clear h12
  obtain ⟨s6, rfl, h14⟩ := asD_inv h13; clear h13
  obtain ⟨a8, r8, rfl, h15⟩ := asCons_inv h14; clear h14
  obtain ⟨s7, s8, s9, rfl, h16⟩ := asSl_inv h15; clear h15
  obtain ⟨a9, r9, rfl, h17⟩ := asCons_inv h16; clear h16
  obtain ⟨s10, rfl, h18⟩ := asD_inv h17; clear h17
  obtain ⟨a10, r10, rfl, h19⟩ := asCons_inv h18; clear h18
  obtain ⟨s11, rfl, h20⟩ := asD_inv h19; clear h19
  obtain ⟨a11, r11, rfl, h21⟩ := asCons_inv h20; clear h20
  obtain ⟨s12, rfl, h22⟩ := asD_inv h21; clear h21
  obtain ⟨rfl, h23⟩ := asNil_inv h22; clear h22
  obtain ⟨a12, r12, rfl, h24⟩ := asCons_inv h23; clear h23
  obtain ⟨a13, rfl, h25⟩ := asOne_inv h24; clear h24
  obtain ⟨l14, rfl, h26⟩ := asAgL_inv h25; clear h25
  obtain ⟨a15, r15, rfl, h27⟩ := asCons_inv h26; clear h26
  obtain ⟨rfl, h28⟩ := asP_inv h27; clear h27
  obtain ⟨a16, r16, rfl, h29⟩ := asCons_inv h28; clear h28
  obtain ⟨s13, rfl, h30⟩ := asD_inv h29; clear h29
  obtain ⟨a17, r17, rfl, h31⟩ := asCons_inv h30; clear h30
  obtain ⟨s14, rfl, h32⟩ := asD_inv h31; clear h31
  obtain ⟨a18, r18, rfl, h33⟩ := asCons_inv h32; clear h32
  obtain ⟨s15, rfl, h34⟩ := asD_inv h33; clear h33
  obtain ⟨a19, r19, rfl, h35⟩ := asCons_inv h34; clear h34
  obtain ⟨s16, rfl, h36⟩ := asD_inv h35; clear h35
  obtain ⟨a20, r20, rfl, h37⟩ := asCons_inv h36; clear h36
  obtain ⟨s17, rfl, h38⟩ := asD_inv h37; clear h37
  obtain ⟨a21, r21, rfl, h39⟩ := asCons_inv h38; clear h38
  obtain ⟨s18, rfl, h40⟩ := asD_inv h39; clear h39
  obtain ⟨a22, r22, rfl, h41⟩ := asCons_inv h40; clear h40
  obtain ⟨rfl, h42⟩ := asP_inv h41; clear h41
  obtain ⟨rfl, h43⟩ := asNil_inv h42; clear h42
  obtain ⟨a23, r23, rfl, h44⟩ := asCons_inv h43; clear h43
  obtain ⟨s19, rfl, h45⟩ := asRw_inv h44; clear h44
  obtain ⟨a24, r24, rfl, h46⟩ := asCons_inv h45; clear h45
  obtain ⟨s20, rfl, h47⟩ := asRw_inv h46; clear h46
  obtain ⟨a25, r25, rfl, h48⟩ := asCons_inv h47; clear h47
  obtain ⟨s21, rfl, h49⟩ := asRw_inv h48; clear h48
  obtain ⟨rfl, h50⟩ := asNil_inv h49; clear h49
  exact join_round2 (S := ofL Sj3r19v2) (L := lofL Lj3r19v2) hSj3r19v2 (inlOK _) (all_eq (by kernel_rfl : subsOf (E.info 3).keep (jbody Try.f3 4000019) = [.join 4000021 (jbody Try.f3 4000021)]) (all_cons (joinOK_of (mk := 4400021) (sl := [2, 3, 4, 11, 13, 14, 15, 16, 17, 18, 20, 21, 22]) (ss := [([2, 3, 4, 11, 13, 14, 15, 16, 17, 18, 20, 21, 22], lsj3r21v2)]) (by kernel_rfl) (by kernel_rfl) (all_cons j3r21v2v (all_nil))) (all_nil))) (by kernel_rfl) h50.of

abbrev Sl3r11 : List (Nat × Pat × Sp) := [(4, none, sp4)]
theorem hSl3r11 : SpecOK E (ofL Sl3r11) := specOK_cons h4 (specOK_nil)
abbrev Ll3r11 : List (Nat × List Nat × Pat × LSp) := [(4400019, [2, 3, 4, 11, 13, 14, 15, 16, 17, 18, 20], some ([.d (.int .i64), .d (.sl (.int .i64)), .d (.sl (.int .i64)), .fix (.ptr 0 0 []), .d (.int .i64), .d (.int .i64), .d (.int .i64), .fix (.vec 3), .d (.int .i64), .d (.int .i64), .d (.int .i64)], [.one (.pair (.sl (.int .i64)) (.pair (.int .i64) (.pair (.int .i64) (.pair (.int .i64) (.pair (.int .i64) (.pair (.int .i64) (.pair (.int .i64) (.pair (.sl (.int .i64)) .unit)))))))) (.agg [.fix (.vec 1), .d (.int .i64), .d (.int .i64), .d (.int .i64), .d (.int .i64), .d (.int .i64), .d (.int .i64), .fix (.vec 2)]), .row (.int .i64) false, .row (.int .i64) false, .row (.pair (.int .i64) (.pair (.int .i64) (.pair (.int .i64) .unit))) false]), lsj3r19), (4400068, [2, 3, 4, 11, 13, 14, 15, 16, 17], some ([.d (.int .i64), .d (.sl (.int .i64)), .d (.sl (.int .i64)), .fix (.ptr 0 0 []), .d (.int .i64), .d (.int .i64), .d (.int .i64), .fix (.vec 3), .d (.int .i64)], [.one (.pair (.sl (.int .i64)) (.pair (.int .i64) (.pair (.int .i64) (.pair (.int .i64) (.pair (.int .i64) (.pair (.int .i64) (.pair (.int .i64) (.pair (.sl (.int .i64)) .unit)))))))) (.agg [.fix (.vec 1), .d (.int .i64), .d (.int .i64), .d (.int .i64), .d (.int .i64), .d (.int .i64), .d (.int .i64), .fix (.vec 2)]), .row (.int .i64) false, .row (.int .i64) false, .row (.pair (.int .i64) (.pair (.int .i64) (.pair (.int .i64) .unit))) false]), lsj3r68), (4000040, [2, 3, 4, 11, 13, 14, 15, 16, 17, 19, 25, 26, 27, 225, 226, 227], none, lsl3r40), (4400050, [2, 3, 4, 11, 13, 14, 15, 16, 17, 19, 25, 26, 27, 30, 31], some ([.d (.int .i64), .d (.sl (.int .i64)), .d (.sl (.int .i64)), .fix (.ptr 0 0 []), .d (.int .i64), .d (.int .i64), .d (.int .i64), .sl 3 false, .d (.int .i64), .d (.int .i64), .fix (.vec 4), .d (.int .i64), .d (.int .i64), .d .bool, .fn 10 [.fix (.ptr 0 0 [])] []], [.one (.pair (.sl (.int .i64)) (.pair (.int .i64) (.pair (.int .i64) (.pair (.int .i64) (.pair (.int .i64) (.pair (.int .i64) (.pair (.int .i64) (.pair (.sl (.int .i64)) .unit)))))))) (.agg [.fix (.vec 1), .d (.int .i64), .d (.int .i64), .d (.int .i64), .d (.int .i64), .d (.int .i64), .d (.int .i64), .fix (.vec 2)]), .row (.int .i64) false, .row (.int .i64) false, .row (.pair (.int .i64) (.pair (.int .i64) (.pair (.int .i64) .unit))) false, .row (.int .i64) false]), lsj3r50), (4400068, [2, 3, 4, 11, 13, 14, 15, 16, 17], some ([.d (.int .i64), .d (.sl (.int .i64)), .d (.sl (.int .i64)), .fix (.ptr 0 0 []), .d (.int .i64), .d (.int .i64), .d (.int .i64), .sl 3 false, .d (.int .i64)], [.one (.pair (.sl (.int .i64)) (.pair (.int .i64) (.pair (.int .i64) (.pair (.int .i64) (.pair (.int .i64) (.pair (.int .i64) (.pair (.int .i64) (.pair (.sl (.int .i64)) .unit)))))))) (.agg [.fix (.vec 1), .d (.int .i64), .d (.int .i64), .d (.int .i64), .d (.int .i64), .d (.int .i64), .d (.int .i64), .fix (.vec 2)]), .row (.int .i64) false, .row (.int .i64) false, .row (.pair (.int .i64) (.pair (.int .i64) (.pair (.int .i64) .unit))) false]), lsj3r68v2), (4400050, [2, 3, 4, 11, 13, 14, 15, 16, 17, 19, 25, 26, 27, 30, 31], some ([.d (.int .i64), .d (.sl (.int .i64)), .d (.sl (.int .i64)), .fix (.ptr 0 0 []), .d (.int .i64), .d (.int .i64), .d (.int .i64), .sl 3 false, .d (.int .i64), .d (.int .i64), .fix (.vec 4), .d (.int .i64), .d (.int .i64), .d .bool, .fn 9 [.fix (.ptr 0 0 [])] []], [.one (.pair (.sl (.int .i64)) (.pair (.int .i64) (.pair (.int .i64) (.pair (.int .i64) (.pair (.int .i64) (.pair (.int .i64) (.pair (.int .i64) (.pair (.sl (.int .i64)) .unit)))))))) (.agg [.fix (.vec 1), .d (.int .i64), .d (.int .i64), .d (.int .i64), .d (.int .i64), .d (.int .i64), .d (.int .i64), .fix (.vec 2)]), .row (.int .i64) false, .row (.int .i64) false, .row (.pair (.int .i64) (.pair (.int .i64) (.pair (.int .i64) .unit))) false, .row (.int .i64) false]), lsj3r50v2), (4400019, [2, 3, 4, 11, 13, 14, 15, 16, 17, 18, 20], some ([.d (.int .i64), .d (.sl (.int .i64)), .d (.sl (.int .i64)), .fix (.ptr 0 0 []), .d (.int .i64), .d (.int .i64), .d (.int .i64), .sl 3 false, .d (.int .i64), .d (.int .i64), .d (.int .i64)], [.one (.pair (.sl (.int .i64)) (.pair (.int .i64) (.pair (.int .i64) (.pair (.int .i64) (.pair (.int .i64) (.pair (.int .i64) (.pair (.int .i64) (.pair (.sl (.int .i64)) .unit)))))))) (.agg [.fix (.vec 1), .d (.int .i64), .d (.int .i64), .d (.int .i64), .d (.int .i64), .d (.int .i64), .d (.int .i64), .fix (.vec 2)]), .row (.int .i64) false, .row (.int .i64) false, .row (.pair (.int .i64) (.pair (.int .i64) (.pair (.int .i64) .unit))) false]), lsj3r19v2)]
def lsl3r11 : LSp := fun vs σ K => asCons vs fun a1 r1 => asD (.int .i64) a1 fun s1 => asCons r1 fun a2 r2 => asD (.sl (.int .i64)) a2 fun s2 => asCons r2 fun a3 r3 => asD (.sl (.int .i64)) a3 fun s3 => asCons r3 fun a4 r4 => asP (.ptr 0 0 []) a4 <| asCons r4 fun a5 r5 => asD (.int .i64) a5 fun s4 => asCons r5 fun a6 r6 => asD (.int .i64) a6 fun s5 => asCons r6 fun a7 r7 => asD (.int .i64) a7 fun s6 => asCons r7 fun a8 r8 => asP (.vec 3) a8 <| asCons r8 fun a9 r9 => asD (.int .i64) a9 fun s7 => asNil r9 <| asCons σ fun a10 r10 => asOne (.pair (.sl (.int .i64)) (.pair (.int .i64) (.pair (.int .i64) (.pair (.int .i64) (.pair (.int .i64) (.pair (.int .i64) (.pair (.int .i64) (.pair (.sl (.int .i64)) .unit)))))))) a10 fun a11 => asAgL a11 fun l12 => asCons l12 fun a13 r13 => asP (.vec 1) a13 <| asCons r13 fun a14 r14 => asD (.int .i64) a14 fun s8 => asCons r14 fun a15 r15 => asD (.int .i64) a15 fun s9 => asCons r15 fun a16 r16 => asD (.int .i64) a16 fun s10 => asCons r16 fun a17 r17 => asD (.int .i64) a17 fun s11 => asCons r17 fun a18 r18 => asD (.int .i64) a18 fun s12 => asCons r18 fun a19 r19 => asD (.int .i64) a19 fun s13 => asCons r19 fun a20 r20 => asP (.vec 2) a20 <| asNil r20 <| asCons r10 fun a21 r21 => asRw (.int .i64) false a21 fun s14 => asCons r21 fun a22 r22 => asRw (.int .i64) false a22 fun s15 => asCons r22 fun a23 r23 => asRw (.pair (.int .i64) (.pair (.int .i64) (.pair (.int .i64) .unit))) false a23 fun s16 => asNil r23 <| l3r11 (fun z1 => K .ret [(10, B z1), (11, .undef)] []) (fun z1 z2 z3 z4 z5 z6 z7 z8 => K (.exit 0) [(10, .undef), (11, .ptr 0 0 [])] [.one (.pair (.sl (.int .i64)) (.pair (.int .i64) (.pair (.int .i64) (.pair (.int .i64) (.pair (.int .i64) (.pair (.int .i64) (.pair (.int .i64) (.pair (.sl (.int .i64)) .unit)))))))) (.agg [.vec 1, I z1, I z2, I z3, I z4, I z5, I z6, .vec 2]), .row (.int .i64) z7 false, .row (.int .i64) z8 false]) s1 s2 s3 s4 s5 s6 s7 s8 s9 s10 s11 s12 s13 s14 s15 s16
theorem l3r11v : LoopV E (inlF (PA (ACall E)) E 8) (E.info 3).keep 0 Try.f3.ntmps 4000011 (body Try.f3 11) ([2, 3, 4, 11, 13, 14, 15, 16, 17], lsl3r11) := by
  intro vs σ K (h0 : lsl3r11 vs σ K)
  unfold lsl3r11 at h0
  obtain ⟨a1, r1, rfl, h1⟩ := asCons_inv h0; clear h0
  obtain ⟨s1, rfl, h2⟩ := asD_inv h1; clear h1
  obtain ⟨a2, r2, rfl, h3⟩ := asCons_inv h2; clear h2
  obtain ⟨s2, rfl, h4⟩ := asD_inv h3; clear h3
  obtain ⟨a3, r3, rfl, h5⟩ := asCons_inv h4; clear h4
  obtain ⟨s3, rfl, h6⟩ := asD_inv h5; clear h5
  obtain ⟨a4, r4, rfl, h7⟩ := asCons_inv h6; clear h6
  obtain ⟨rfl, h8⟩ := asP_inv h7; clear h7
  obtain ⟨a5, r5, rfl, h9⟩ := asCons_inv h8; clear h8
  obtain ⟨s4, rfl, h10⟩ := asD_inv h9; clear h9
  obtain ⟨a6, r6, rfl, h11⟩ := asCons_inv h10; clear h10
  obtain ⟨s5, rfl, h12⟩ := asD_inv h11; clear h11
  obtain ⟨a7, r7, rfl, h13⟩ := asCons_inv h12; clear h12
  obtain ⟨s6, rfl, h14⟩ := asD_inv h13; clear h13
  obtain ⟨a8, r8, rfl, h15⟩ := asCons_inv h14; clear h14
  obtain ⟨rfl, h16⟩ := asP_inv h15; clear h15
  obtain ⟨a9, r9, rfl, h17⟩ := asCons_inv h16; clear h16
  obtain ⟨s7, rfl, h18⟩ := asD_inv h17; clear h17
  obtain ⟨rfl, h19⟩ := asNil_inv h18; clear h18
  obtain ⟨a10, r10, rfl, h20⟩ := asCons_inv h19; clear h19
  obtain ⟨a11, rfl, h21⟩ := asOne_inv h20; clear h20
  obtain ⟨l12, rfl, h22⟩ := asAgL_inv h21; clear h21
  obtain ⟨a13, r13, rfl, h23⟩ := asCons_inv h22; clear h22
  obtain ⟨rfl, h24⟩ := asP_inv h23; clear h23
  obtain ⟨a14, r14, rfl, h25⟩ := asCons_inv h24; clear h24
  obtain ⟨s8, rfl, h26⟩ := asD_inv h25; clear h25
  obtain ⟨a15, r15, rfl, h27⟩ := asCons_inv h26; clear h26
  obtain ⟨s9, rfl, h28⟩ := asD_inv h27; clear h27
  obtain ⟨a16, r16, rfl, h29⟩ := asCons_inv h28; clear h28
  obtain ⟨s10, rfl, h30⟩ := asD_inv h29; clear h29
  obtain ⟨a17, r17, rfl, h31⟩ := asCons_inv h30; clear h30
  obtain ⟨s11, rfl, h32⟩ := asD_inv h31; clear h31
  obtain ⟨a18, r18, rfl, h33⟩ := asCons_inv h32; clear h32
  obtain ⟨s12, rfl, h34⟩ := asD_inv h33; clear h33
  obtain ⟨a19, r19, rfl, h35⟩ := asCons_inv h34; clear h34
  obtain ⟨s13, rfl, h36⟩ := asD_inv h35; clear h35
  obtain ⟨a20, r20, rfl, h37⟩ := asCons_inv h36; clear h36
  obtain ⟨rfl, h38⟩ := asP_inv h37; clear h37
  obtain ⟨rfl, h39⟩ := asNil_inv h38; clear h38
  obtain ⟨a21, r21, rfl, h40⟩ := asCons_inv h39; clear h39
  obtain ⟨s14, rfl, h41⟩ := asRw_inv h40; clear h40
  obtain ⟨a22, r22, rfl, h42⟩ := asCons_inv h41; clear h41
  obtain ⟨s15, rfl, h43⟩ := asRw_inv h42; clear h42
  obtain ⟨a23, r23, rfl, h44⟩ := asCons_inv h43; clear h43
  obtain ⟨s16, rfl, h45⟩ := asRw_inv h44; clear h44
  obtain ⟨rfl, h46⟩ := asNil_inv h45; clear h45
  intro J hJ
  have hp : ∀ c' ∈ subsOf (E.info 3).keep (body Try.f3 11), SubOK E (inlF (PA (ACall E)) E 8) (E.info 3).keep 0 Try.f3.ntmps (lofL Ll3r11) c' := all_eq (by kernel_rfl : subsOf (E.info 3).keep (body Try.f3 11) = [.join 4000068 (jbody Try.f3 4000068), .join 4000019 (jbody Try.f3 4000019), .loop (body Try.f3 40), .join 4000050 (jbody Try.f3 4000050)]) (all_cons (joinOK_of (mk := 4400068) (sl := [2, 3, 4, 11, 13, 14, 15, 16, 17]) (ss := [([2, 3, 4, 11, 13, 14, 15, 16, 17], lsj3r68), ([2, 3, 4, 11, 13, 14, 15, 16, 17], lsj3r68v2)]) (by kernel_rfl) (by kernel_rfl) (all_cons j3r68v (all_cons j3r68v2v (all_nil)))) (all_cons (joinOK_of (mk := 4400019) (sl := [2, 3, 4, 11, 13, 14, 15, 16, 17, 18, 20]) (ss := [([2, 3, 4, 11, 13, 14, 15, 16, 17, 18, 20], lsj3r19), ([2, 3, 4, 11, 13, 14, 15, 16, 17, 18, 20], lsj3r19v2)]) (by kernel_rfl) (by kernel_rfl) (all_cons j3r19v (all_cons j3r19v2v (all_nil)))) (all_cons (loopOK_of (mk := 4000040) (sl := [2, 3, 4, 11, 13, 14, 15, 16, 17, 19, 25, 26, 27, 225, 226, 227]) (ss := [([2, 3, 4, 11, 13, 14, 15, 16, 17, 19, 25, 26, 27, 225, 226, 227], lsl3r40)]) (by kernel_rfl) (by kernel_rfl) (all_cons l3r40v (all_nil))) (all_cons (joinOK_of (mk := 4400050) (sl := [2, 3, 4, 11, 13, 14, 15, 16, 17, 19, 25, 26, 27, 30, 31]) (ss := [([2, 3, 4, 11, 13, 14, 15, 16, 17, 19, 25, 26, 27, 30, 31], lsj3r50), ([2, 3, 4, 11, 13, 14, 15, 16, 17, 19, 25, 26, 27, 30, 31], lsj3r50v2)]) (by kernel_rfl) (by kernel_rfl) (all_cons j3r50v (all_cons j3r50v2v (all_nil)))) (all_nil)))))
  exact h46.of (fun s1 s2 s3 s4 s5 s6 s7 s8 s9 s10 s11 s12 s13 s14 s15 s16 => J [(4000011, .undef), (2, I s1), (3, .d (.sl (.int .i64)) s2), (4, .d (.sl (.int .i64)) s3), (11, .ptr 0 0 []), (13, I s4), (14, I s5), (15, I s6), (16, .vec 3), (17, I s7)] [.one (.pair (.sl (.int .i64)) (.pair (.int .i64) (.pair (.int .i64) (.pair (.int .i64) (.pair (.int .i64) (.pair (.int .i64) (.pair (.int .i64) (.pair (.sl (.int .i64)) .unit)))))))) (.agg [.vec 1, I s8, I s9, I s10, I s11, I s12, I s13, .vec 2]), .row (.int .i64) s14 false, .row (.int .i64) s15 false, .row (.pair (.int .i64) (.pair (.int .i64) (.pair (.int .i64) .unit))) s16 false]) (fun s233 s234 s235 s236 s237 s238 s239 s240 s241 s242 s243 s244 s245 s246 s247 s248 s249 s250 s251 => J [(4000011, .undef), (2, I s233), (3, .d (.sl (.int .i64)) s234), (4, .d (.sl (.int .i64)) s235), (11, .ptr 0 0 []), (13, I s236), (14, I s237), (15, I s238), (16, .sl 3 s239 s240 s241 false), (17, I s242)] [.one (.pair (.sl (.int .i64)) (.pair (.int .i64) (.pair (.int .i64) (.pair (.int .i64) (.pair (.int .i64) (.pair (.int .i64) (.pair (.int .i64) (.pair (.sl (.int .i64)) .unit)))))))) (.agg [.vec 1, I s243, I s244, I s245, I s246, I s247, I s248, .vec 2]), .row (.int .i64) s249 false, .row (.int .i64) s250 false, .row (.pair (.int .i64) (.pair (.int .i64) (.pair (.int .i64) .unit))) s251 false]) (fun s1 s2 s3 s4 s5 s6 s7 s8 s9 s10 s11 s12 s13 s14 s15 s16 hb => loop_round2 (S := ofL Sl3r11) (L := lofL Ll3r11) hSl3r11 (inlOK _) hp hJ (by kernel_rfl) hb) (fun s233 s234 s235 s236 s237 s238 s239 s240 s241 s242 s243 s244 s245 s246 s247 s248 s249 s250 s251 hb => loop_round2 (S := ofL Sl3r11) (L := lofL Ll3r11) hSl3r11 (inlOK _) hp hJ (by kernel_rfl) hb)

abbrev Sl22r3 : List (Nat × Pat × Sp) := [(21, none, sp21)]
theorem hSl22r3 : SpecOK E (ofL Sl22r3) := specOK_cons h21 (specOK_nil)
abbrev Ll22r3 : List (Nat × List Nat × Pat × LSp) := []
def lsl22r3 : LSp := fun vs σ K => asCons vs fun a1 r1 => asP (.ptr 0 0 []) a1 <| asCons r1 fun a2 r2 => asD (.int .i64) a2 fun s1 => asCons r2 fun a3 r3 => asP (.vec 3) a3 <| asCons r3 fun a4 r4 => asD (.int .i64) a4 fun s2 => asNil r4 <| asCons σ fun a5 r5 => asOne (.pair (.sl (.int .i64)) (.pair (.int .i64) (.pair (.int .i64) (.pair (.int .i64) (.pair (.int .i64) (.pair (.int .i64) (.pair (.int .i64) (.pair (.sl (.int .i64)) .unit)))))))) a5 fun a6 => asAgL a6 fun l7 => asCons l7 fun a8 r8 => asP (.vec 1) a8 <| asCons r8 fun a9 r9 => asD (.int .i64) a9 fun s3 => asCons r9 fun a10 r10 => asD (.int .i64) a10 fun s4 => asCons r10 fun a11 r11 => asD (.int .i64) a11 fun s5 => asCons r11 fun a12 r12 => asD (.int .i64) a12 fun s6 => asCons r12 fun a13 r13 => asD (.int .i64) a13 fun s7 => asCons r13 fun a14 r14 => asD (.int .i64) a14 fun s8 => asCons r14 fun a15 r15 => asP (.vec 2) a15 <| asNil r15 <| asCons r5 fun a16 r16 => asRw (.int .i64) false a16 fun s9 => asCons r16 fun a17 r17 => asRw (.int .i64) false a17 fun s10 => asCons r17 fun a18 r18 => asRw (.int .i64) false a18 fun s11 => asNil r18 <| l22r3 (fun z1 z2 z3 z4 z5 z6 z7 z8 z9 z10 => K .ret [(6, .vec 3), (7, B z1), (8, .undef)] [.one (.pair (.sl (.int .i64)) (.pair (.int .i64) (.pair (.int .i64) (.pair (.int .i64) (.pair (.int .i64) (.pair (.int .i64) (.pair (.int .i64) (.pair (.sl (.int .i64)) .unit)))))))) (.agg [.vec 1, I z2, I z3, I z4, I z5, I z6, I z7, .vec 2]), .row (.int .i64) z8 false, .row (.int .i64) z9 false, .row (.int .i64) z10 false]) (fun z1 z2 z3 z4 z5 z6 z7 z8 z9 => K (.exit 0) [(6, .undef), (7, .undef), (8, .vec 3)] [.one (.pair (.sl (.int .i64)) (.pair (.int .i64) (.pair (.int .i64) (.pair (.int .i64) (.pair (.int .i64) (.pair (.int .i64) (.pair (.int .i64) (.pair (.sl (.int .i64)) .unit)))))))) (.agg [.vec 1, I z1, I z2, I z3, I z4, I z5, I z6, .vec 2]), .row (.int .i64) z7 false, .row (.int .i64) z8 false, .row (.int .i64) z9 false]) s1 s2 s3 s4 s5 s6 s7 s8 s9 s10 s11
theorem l22r3v : LoopV E (inlF (PA (ACall E)) E 8) (E.info 22).keep 3 Try.f22.ntmps 23000003 (body Try.f22 3) ([0, 2, 8, 9], lsl22r3) := by
  intro vs σ K (h0 : lsl22r3 vs σ K)
  unfold lsl22r3 at h0
  obtain ⟨a1, r1, rfl, h1⟩ := asCons_inv h0; clear h0
  obtain ⟨rfl, h2⟩ := asP_inv h1; clear h1
  obtain ⟨a2, r2, rfl, h3⟩ := asCons_inv h2; clear h2
  obtain ⟨s1, rfl, h4⟩ := asD_inv h3; clear h3
  obtain ⟨a3, r3, rfl, h5⟩ := asCons_inv h4; clear h4
  obtain ⟨rfl, h6⟩ := asP_inv h5; clear h5
  obtain ⟨a4, r4, rfl, h7⟩ := asCons_inv h6; clear h6
  obtain ⟨s2, rfl, h8⟩ := asD_inv h7; clear h7
  obtain ⟨rfl, h9⟩ := asNil_inv h8; clear h8
  obtain ⟨a5, r5, rfl, h10⟩ := asCons_inv h9; clear h9
  obtain ⟨a6, rfl, h11⟩ := asOne_inv h10; clear h10
  obtain ⟨l7, rfl, h12⟩ := asAgL_inv h11; clear h11
  obtain ⟨a8, r8, rfl, h13⟩ := asCons_inv h12; clear h12
  obtain ⟨rfl, h14⟩ := asP_inv h13; clear h13
  obtain ⟨a9, r9, rfl, h15⟩ := asCons_inv h14; clear h14
  obtain ⟨s3, rfl, h16⟩ := asD_inv h15; clear h15
  obtain ⟨a10, r10, rfl, h17⟩ := asCons_inv h16; clear h16
  obtain ⟨s4, rfl, h18⟩ := asD_inv h17; clear h17
  obtain ⟨a11, r11, rfl, h19⟩ := asCons_inv h18; clear h18
  obtain ⟨s5, rfl, h20⟩ := asD_inv h19; clear h19
  obtain ⟨a12, r12, rfl, h21⟩ := asCons_inv h20; clear h20
  obtain ⟨s6, rfl, h22⟩ := asD_inv h21; clear h21
  obtain ⟨a13, r13, rfl, h23⟩ := asCons_inv h22; clear h22
  obtain ⟨s7, rfl, h24⟩ := asD_inv h23; clear h23
  obtain ⟨a14, r14, rfl, h25⟩ := asCons_inv h24; clear h24
  obtain ⟨s8, rfl, h26⟩ := asD_inv h25; clear h25
  obtain ⟨a15, r15, rfl, h27⟩ := asCons_inv h26; clear h26
  obtain ⟨rfl, h28⟩ := asP_inv h27; clear h27
  obtain ⟨rfl, h29⟩ := asNil_inv h28; clear h28
  obtain ⟨a16, r16, rfl, h30⟩ := asCons_inv h29; clear h29
  obtain ⟨s9, rfl, h31⟩ := asRw_inv h30; clear h30
  obtain ⟨a17, r17, rfl, h32⟩ := asCons_inv h31; clear h31
  obtain ⟨s10, rfl, h33⟩ := asRw_inv h32; clear h32
  obtain ⟨a18, r18, rfl, h34⟩ := asCons_inv h33; clear h33
  obtain ⟨s11, rfl, h35⟩ := asRw_inv h34; clear h34
  obtain ⟨rfl, h36⟩ := asNil_inv h35; clear h35
  intro J hJ
  have hp : ∀ c' ∈ subsOf (E.info 22).keep (body Try.f22 3), SubOK E (inlF (PA (ACall E)) E 8) (E.info 22).keep 3 Try.f22.ntmps (lofL Ll22r3) c' := all_eq (by kernel_rfl : subsOf (E.info 22).keep (body Try.f22 3) = []) (all_nil)
  exact h36.of (fun s1 s2 s3 s4 s5 s6 s7 s8 s9 s10 s11 => J [(23000003, .undef), (0, .ptr 0 0 []), (2, I s1), (8, .vec 3), (9, I s2)] [.one (.pair (.sl (.int .i64)) (.pair (.int .i64) (.pair (.int .i64) (.pair (.int .i64) (.pair (.int .i64) (.pair (.int .i64) (.pair (.int .i64) (.pair (.sl (.int .i64)) .unit)))))))) (.agg [.vec 1, I s3, I s4, I s5, I s6, I s7, I s8, .vec 2]), .row (.int .i64) s9 false, .row (.int .i64) s10 false, .row (.int .i64) s11 false]) (fun s1 s2 s3 s4 s5 s6 s7 s8 s9 s10 s11 hb => loop_round2 (S := ofL Sl22r3) (L := lofL Ll22r3) hSl22r3 (inlOK _) hp hJ (by kernel_rfl) hb)

abbrev S22 : List (Nat × Pat × Sp) := []
theorem hS22 : SpecOK E (ofL S22) := specOK_nil
abbrev L22 : List (Nat × List Nat × Pat × LSp) := [(23000003, [0, 2, 8, 9], none, lsl22r3)]
def sp22 : Sp := fun args τ K => asCons args fun a1 r1 => asP (.ptr 0 0 []) a1 <| asCons r1 fun a2 r2 => asD (.int .i64) a2 fun x1 => asCons r2 fun a3 r3 => asD (.int .i64) a3 fun x2 => asNil r3 <| asCons τ fun a4 r4 => asOne (.pair (.sl (.int .i64)) (.pair (.int .i64) (.pair (.int .i64) (.pair (.int .i64) (.pair (.int .i64) (.pair (.int .i64) (.pair (.int .i64) (.pair (.sl (.int .i64)) .unit)))))))) a4 fun a5 => asAgL a5 fun l6 => asCons l6 fun a7 r7 => asP (.vec 1) a7 <| asCons r7 fun a8 r8 => asD (.int .i64) a8 fun x3 => asCons r8 fun a9 r9 => asD (.int .i64) a9 fun x4 => asCons r9 fun a10 r10 => asD (.int .i64) a10 fun x5 => asCons r10 fun a11 r11 => asD (.int .i64) a11 fun x6 => asCons r11 fun a12 r12 => asD (.int .i64) a12 fun x7 => asCons r12 fun a13 r13 => asD (.int .i64) a13 fun x8 => asCons r13 fun a14 r14 => asP (.vec 2) a14 <| asNil r14 <| asCons r4 fun a15 r15 => asRw (.int .i64) false a15 fun x9 => asCons r15 fun a16 r16 => asRw (.int .i64) false a16 fun x10 => asNil r16 <| c22 x1 x2 x3 x4 x5 x6 x7 x8 x9 x10 (fun z1 z2 z3 z4 z5 z6 z7 z8 z9 z10 => K (.tup [.vec 3, B z1]) [.one (.pair (.sl (.int .i64)) (.pair (.int .i64) (.pair (.int .i64) (.pair (.int .i64) (.pair (.int .i64) (.pair (.int .i64) (.pair (.int .i64) (.pair (.sl (.int .i64)) .unit)))))))) (.agg [.vec 1, I z2, I z3, I z4, I z5, I z6, I z7, .vec 2]), .row (.int .i64) z8 false, .row (.int .i64) z9 false, .row (.int .i64) z10 false])
theorem h22 : ∀ args τ K, sp22 args τ K → ACall E 22 args τ K := by
  intro args τ K h0
  unfold sp22 at h0
  obtain ⟨a1, r1, rfl, h1⟩ := asCons_inv h0; clear h0
  obtain ⟨rfl, h2⟩ := asP_inv h1; clear h1
  obtain ⟨a2, r2, rfl, h3⟩ := asCons_inv h2; clear h2
  obtain ⟨x1, rfl, h4⟩ := asD_inv h3; clear h3
  obtain ⟨a3, r3, rfl, h5⟩ := asCons_inv h4; clear h4
  obtain ⟨x2, rfl, h6⟩ := asD_inv h5; clear h5
  obtain ⟨rfl, h7⟩ := asNil_inv h6; clear h6
  obtain ⟨a4, r4, rfl, h8⟩ := asCons_inv h7; clear h7
  obtain ⟨a5, rfl, h9⟩ := asOne_inv h8; clear h8
  obtain ⟨l6, rfl, h10⟩ := asAgL_inv h9; clear h9
  obtain ⟨a7, r7, rfl, h11⟩ := asCons_inv h10; clear h10
  obtain ⟨rfl, h12⟩ := asP_inv h11; clear h11
  obtain ⟨a8, r8, rfl, h13⟩ := asCons_inv h12; clear h12
  obtain ⟨x3, rfl, h14⟩ := asD_inv h13; clear h13
  obtain ⟨a9, r9, rfl, h15⟩ := asCons_inv h14; clear h14
  obtain ⟨x4, rfl, h16⟩ := asD_inv h15; clear h15
  obtain ⟨a10, r10, rfl, h17⟩ := asCons_inv h16; clear h16
  obtain ⟨x5, rfl, h18⟩ := asD_inv h17; clear h17
  obtain ⟨a11, r11, rfl, h19⟩ := asCons_inv h18; clear h18
  obtain ⟨x6, rfl, h20⟩ := asD_inv h19; clear h19
  obtain ⟨a12, r12, rfl, h21⟩ := asCons_inv h20; clear h20
  obtain ⟨x7, rfl, h22⟩ := asD_inv h21; clear h21
  obtain ⟨a13, r13, rfl, h23⟩ := asCons_inv h22; clear h22
  obtain ⟨x8, rfl, h24⟩ := asD_inv h23; clear h23
  obtain ⟨a14, r14, rfl, h25⟩ := asCons_inv h24; clear h24
  obtain ⟨rfl, h26⟩ := asP_inv h25; clear h25
  obtain ⟨rfl, h27⟩ := asNil_inv h26; clear h26
  obtain ⟨a15, r15, rfl, h28⟩ := asCons_inv h27; clear h27
  obtain ⟨x9, rfl, h29⟩ := asRw_inv h28; clear h28
  obtain ⟨a16, r16, rfl, h30⟩ := asCons_inv h29; clear h29
  obtain ⟨x10, rfl, h31⟩ := asRw_inv h30; clear h30
  obtain ⟨rfl, h32⟩ := asNil_inv h31; clear h31
  exact ACall.spec2 (fn := Try.f22) (c := codeOf Try.f22) (S := ofL S22) (L := lofL L22) hS22 (by kernel_rfl) (by kernel_rfl) (inlOK _) (all_eq (by kernel_rfl : subsOf (E.info 22).keep (codeOf Try.f22) = [.loop (body Try.f22 3)]) (all_cons (loopOK_of (mk := 23000003) (sl := [0, 2, 8, 9]) (ss := [([0, 2, 8, 9], lsl22r3)]) (by kernel_rfl) (by kernel_rfl) (all_cons l22r3v (all_nil))) (all_nil))) (by kernel_rfl) h32.of

abbrev S29 : List (Nat × Pat × Sp) := []
theorem hS29 : SpecOK E (ofL S29) := specOK_nil
abbrev L29 : List (Nat × List Nat × Pat × LSp) := []
def sp29 : Sp := fun args τ K => asCons args fun a1 r1 => asD (.int .i64) a1 fun x1 => asNil r1 <| asNil τ <| c29 x1 (fun z1 => K (B z1) [])
theorem h29 : ∀ args τ K, sp29 args τ K → ACall E 29 args τ K := by
  intro args τ K h0
  unfold sp29 at h0
  obtain ⟨a1, r1, rfl, h1⟩ := asCons_inv h0; clear h0
  obtain ⟨x1, rfl, h2⟩ := asD_inv h1; clear h1
  obtain ⟨rfl, h3⟩ := asNil_inv h2; clear h2
  obtain ⟨rfl, h4⟩ := asNil_inv h3; clear h3
  exact ACall.spec2 (fn := Try.f29) (c := codeOf Try.f29) (S := ofL S29) (L := lofL L29) hS29 (by kernel_rfl) (by kernel_rfl) (inlOK _) (all_eq (by kernel_rfl : subsOf (E.info 29).keep (codeOf Try.f29) = []) (all_nil)) (by kernel_rfl) h4.of

abbrev S26 : List (Nat × Pat × Sp) := [(29, none, sp29)]
theorem hS26 : SpecOK E (ofL S26) := specOK_cons h29 (specOK_nil)
abbrev L26 : List (Nat × List Nat × Pat × LSp) := []
def sp26 : Sp := fun args τ K => asCons args fun a1 r1 => asD (.int .i64) a1 fun x1 => asCons r1 fun a2 r2 => asD (.int .i64) a2 fun x2 => asNil r2 <| asNil τ <| c26 x1 x2 (fun z1 => K (B z1) [])
theorem h26 : ∀ args τ K, sp26 args τ K → ACall E 26 args τ K := by
  intro args τ K h0
  unfold sp26 at h0
  obtain ⟨a1, r1, rfl, h1⟩ := asCons_inv h0; clear h0
  obtain ⟨x1, rfl, h2⟩ := asD_inv h1; clear h1
  obtain ⟨a2, r2, rfl, h3⟩ := asCons_inv h2; clear h2
  obtain ⟨x2, rfl, h4⟩ := asD_inv h3; clear h3
  obtain ⟨rfl, h5⟩ := asNil_inv h4; clear h4
  obtain ⟨rfl, h6⟩ := asNil_inv h5; clear h5
  exact ACall.spec2 (fn := Try.f26) (c := codeOf Try.f26) (S := ofL S26) (L := lofL L26) hS26 (by kernel_rfl) (by kernel_rfl) (inlOK _) (all_eq (by kernel_rfl : subsOf (E.info 26).keep (codeOf Try.f26) = []) (all_nil)) (by kernel_rfl) h6.of

abbrev Sl23r3 : List (Nat × Pat × Sp) := [(26, none, sp26)]
theorem hSl23r3 : SpecOK E (ofL Sl23r3) := specOK_cons h26 (specOK_nil)
abbrev Ll23r3 : List (Nat × List Nat × Pat × LSp) := []
def lsl23r3 : LSp := fun vs σ K => asCons vs fun a1 r1 => asD (.sl (.int .i64)) a1 fun s1 => asCons r1 fun a2 r2 => asD (.int .i64) a2 fun s2 => asCons r2 fun a3 r3 => asD (.int .i64) a3 fun s3 => asCons r3 fun a4 r4 => asD (.int .i64) a4 fun s4 => asCons r4 fun a5 r5 => asD (.int .i64) a5 fun s5 => asNil r5 <| asNil σ <| l23r3 (fun z1 z2 z3 z4 => K (.exit 0) [(0, .d (.sl (.int .i64)) z1), (1, I z2), (6, I z3), (7, I z4)] []) s1 s2 s3 s4 s5
theorem l23r3v : LoopV E (inlF (PA (ACall E)) E 8) (E.info 23).keep 0 Try.f23.ntmps 24000003 (body Try.f23 3) ([0, 1, 6, 7, 8], lsl23r3) := by
  intro vs σ K (h0 : lsl23r3 vs σ K)
  unfold lsl23r3 at h0
  obtain ⟨a1, r1, rfl, h1⟩ := asCons_inv h0; clear h0
  obtain ⟨s1, rfl, h2⟩ := asD_inv h1; clear h1
  obtain ⟨a2, r2, rfl, h3⟩ := asCons_inv h2; clear h2
  obtain ⟨s2, rfl, h4⟩ := asD_inv h3; clear h3
  obtain ⟨a3, r3, rfl, h5⟩ := asCons_inv h4; clear h4
  obtain ⟨s3, rfl, h6⟩ := asD_inv h5; clear h5
  obtain ⟨a4, r4, rfl, h7⟩ := asCons_inv h6; clear h6
  obtain ⟨s4, rfl, h8⟩ := asD_inv h7; clear h7
  obtain ⟨a5, r5, rfl, h9⟩ := asCons_inv h8; clear h8
  obtain ⟨s5, rfl, h10⟩ := asD_inv h9; clear h9
  obtain ⟨rfl, h11⟩ := asNil_inv h10; clear h10
  obtain ⟨rfl, h12⟩ := asNil_inv h11; clear h11
  intro J hJ
  have hp : ∀ c' ∈ subsOf (E.info 23).keep (body Try.f23 3), SubOK E (inlF (PA (ACall E)) E 8) (E.info 23).keep 0 Try.f23.ntmps (lofL Ll23r3) c' := all_eq (by kernel_rfl : subsOf (E.info 23).keep (body Try.f23 3) = []) (all_nil)
  exact h12.of (fun s1 s2 s3 s4 s5 => J [(24000003, .undef), (0, .d (.sl (.int .i64)) s1), (1, I s2), (6, I s3), (7, I s4), (8, I s5)] []) (fun s1 s2 s3 s4 s5 hb => loop_round2 (S := ofL Sl23r3) (L := lofL Ll23r3) hSl23r3 (inlOK _) hp hJ (by kernel_rfl) hb)

abbrev S27 : List (Nat × Pat × Sp) := []
theorem hS27 : SpecOK E (ofL S27) := specOK_nil
abbrev L27 : List (Nat × List Nat × Pat × LSp) := []
def sp27 : Sp := fun args τ K => asCons args fun a1 r1 => asD (.int .i64) a1 fun x1 => asNil r1 <| asNil τ <| c27 x1 (fun z1 => K (B z1) [])
theorem h27 : ∀ args τ K, sp27 args τ K → ACall E 27 args τ K := by
  intro args τ K h0
  unfold sp27 at h0
  obtain ⟨a1, r1, rfl, h1⟩ := asCons_inv h0; clear h0
  obtain ⟨x1, rfl, h2⟩ := asD_inv h1; clear h1
  obtain ⟨rfl, h3⟩ := asNil_inv h2; clear h2
  obtain ⟨rfl, h4⟩ := asNil_inv h3; clear h3
  exact ACall.spec2 (fn := Try.f27) (c := codeOf Try.f27) (S := ofL S27) (L := lofL L27) hS27 (by kernel_rfl) (by kernel_rfl) (inlOK _) (all_eq (by kernel_rfl : subsOf (E.info 27).keep (codeOf Try.f27) = []) (all_nil)) (by kernel_rfl) h4.of

abbrev S23 : List (Nat × Pat × Sp) := [(27, none, sp27)]
theorem hS23 : SpecOK E (ofL S23) := specOK_cons h27 (specOK_nil)
abbrev L23 : List (Nat × List Nat × Pat × LSp) := [(24000003, [0, 1, 6, 7, 8], none, lsl23r3)]
def sp23 : Sp := fun args τ K => asCons args fun a1 r1 => asD (.sl (.int .i64)) a1 fun x1 => asCons r1 fun a2 r2 => asD (.int .i64) a2 fun x2 => asNil r2 <| asNil τ <| c23 x1 x2 (fun z1 z2 => K (.tup [I z1, B z2]) [])
theorem h23 : ∀ args τ K, sp23 args τ K → ACall E 23 args τ K := by
  intro args τ K h0
  unfold sp23 at h0
  obtain ⟨a1, r1, rfl, h1⟩ := asCons_inv h0; clear h0
  obtain ⟨x1, rfl, h2⟩ := asD_inv h1; clear h1
  obtain ⟨a2, r2, rfl, h3⟩ := asCons_inv h2; clear h2
  obtain ⟨x2, rfl, h4⟩ := asD_inv h3; clear h3
  obtain ⟨rfl, h5⟩ := asNil_inv h4; clear h4
  obtain ⟨rfl, h6⟩ := asNil_inv h5; clear h5
  exact ACall.spec2 (fn := Try.f23) (c := codeOf Try.f23) (S := ofL S23) (L := lofL L23) hS23 (by kernel_rfl) (by kernel_rfl) (inlOK _) (all_eq (by kernel_rfl : subsOf (E.info 23).keep (codeOf Try.f23) = [.loop (body Try.f23 3)]) (all_cons (loopOK_of (mk := 24000003) (sl := [0, 1, 6, 7, 8]) (ss := [([0, 1, 6, 7, 8], lsl23r3)]) (by kernel_rfl) (by kernel_rfl) (all_cons l23r3v (all_nil))) (all_nil))) (by kernel_rfl) h6.of

abbrev Sl13r11 : List (Nat × Pat × Sp) := [(23, none, sp23)]
theorem hSl13r11 : SpecOK E (ofL Sl13r11) := specOK_cons h23 (specOK_nil)
abbrev Ll13r11 : List (Nat × List Nat × Pat × LSp) := []
def lsl13r11 : LSp := fun vs σ K => asCons vs fun a1 r1 => asP (.ptr 0 0 []) a1 <| asCons r1 fun a2 r2 => asP (.vec 3) a2 <| asCons r2 fun a3 r3 => asD (.int .i64) a3 fun s1 => asCons r3 fun a4 r4 => asD (.int .i64) a4 fun s2 => asCons r4 fun a5 r5 => asD (.int .i64) a5 fun s3 => asCons r5 fun a6 r6 => asP (.vec 3) a6 <| asCons r6 fun a7 r7 => asD (.int .i64) a7 fun s4 => asCons r7 fun a8 r8 => asD (.int .i64) a8 fun s5 => asNil r8 <| asCons σ fun a9 r9 => asOne (.pair (.sl (.int .i64)) (.pair (.int .i64) (.pair (.int .i64) (.pair (.int .i64) (.pair (.int .i64) (.pair (.int .i64) (.pair (.int .i64) (.pair (.sl (.int .i64)) .unit)))))))) a9 fun a10 => asAgL a10 fun l11 => asCons l11 fun a12 r12 => asP (.vec 1) a12 <| asCons r12 fun a13 r13 => asD (.int .i64) a13 fun s6 => asCons r13 fun a14 r14 => asD (.int .i64) a14 fun s7 => asCons r14 fun a15 r15 => asD (.int .i64) a15 fun s8 => asCons r15 fun a16 r16 => asD (.int .i64) a16 fun s9 => asCons r16 fun a17 r17 => asD (.int .i64) a17 fun s10 => asCons r17 fun a18 r18 => asD (.int .i64) a18 fun s11 => asCons r18 fun a19 r19 => asP (.vec 2) a19 <| asNil r19 <| asCons r9 fun a20 r20 => asRw (.int .i64) false a20 fun s12 => asCons r20 fun a21 r21 => asRw (.int .i64) false a21 fun s13 => asCons r21 fun a22 r22 => asRw (.int .i64) false a22 fun s14 => asNil r22 <| l13r11 (fun z1 z2 z3 z4 z5 z6 z7 z8 z9 => K .ret [(0, .undef), (2, B z1), (7, .undef), (48, .undef), (49, .undef), (50, .undef)] [.one (.pair (.sl (.int .i64)) (.pair (.int .i64) (.pair (.int .i64) (.pair (.int .i64) (.pair (.int .i64) (.pair (.int .i64) (.pair (.int .i64) (.pair (.sl (.int .i64)) .unit)))))))) (.agg [.vec 1, I z2, I z3, I z4, I z5, I z6, I z7, .vec 2]), .row (.int .i64) z8 false, .row (.int .i64) z9 false]) (fun z1 z2 z3 z4 z5 z6 z7 z8 z9 z10 z11 => K (.exit 2) [(0, .ptr 0 0 []), (2, .undef), (7, .vec 3), (48, .vec 3), (49, I z1), (50, I z2)] [.one (.pair (.sl (.int .i64)) (.pair (.int .i64) (.pair (.int .i64) (.pair (.int .i64) (.pair (.int .i64) (.pair (.int .i64) (.pair (.int .i64) (.pair (.sl (.int .i64)) .unit)))))))) (.agg [.vec 1, I z3, I z4, I z5, I z6, I z7, I z8, .vec 2]), .row (.int .i64) z9 false, .row (.int .i64) z10 false, .row (.int .i64) z11 false]) s1 s2 s3 s4 s5 s6 s7 s8 s9 s10 s11 s12 s13 s14
theorem l13r11v : LoopV E (inlF (PA (ACall E)) E 8) (E.info 13).keep 3 Try.f13.ntmps 14000011 (body Try.f13 11) ([0, 7, 9, 11, 13, 48, 49, 50], lsl13r11) := by
  intro vs σ K (h0 : lsl13r11 vs σ K)
  unfold lsl13r11 at h0
  obtain ⟨a1, r1, rfl, h1⟩ := asCons_inv h0; clear h0
  obtain ⟨rfl, h2⟩ := asP_inv h1; clear h1
  obtain ⟨a2, r2, rfl, h3⟩ := asCons_inv h2; clear h2
  obtain ⟨rfl, h4⟩ := asP_inv h3; clear h3
  obtain ⟨a3, r3, rfl, h5⟩ := asCons_inv h4; clear h4
  obtain ⟨s1, rfl, h6⟩ := asD_inv h5; clear h5
  obtain ⟨a4, r4, rfl, h7⟩ := asCons_inv h6; clear h6
  obtain ⟨s2, rfl, h8⟩ := asD_inv h7; clear h7
  obtain ⟨a5, r5, rfl, h9⟩ := asCons_inv h8; clear h8
  obtain ⟨s3, rfl, h10⟩ := asD_inv h9; clear h9
  obtain ⟨a6, r6, rfl, h11⟩ := asCons_inv h10; clear h10
  obtain ⟨rfl, h12⟩ := asP_inv h11; clear h11
  obtain ⟨a7, r7, rfl, h13⟩ := asCons_inv h12; clear h12
  obtain ⟨s4, rfl, h14⟩ := asD_inv h13; clear h13
  obtain ⟨a8, r8, rfl, h15⟩ := asCons_inv h14; clear h14
  obtain ⟨s5, rfl, h16⟩ := asD_inv h15; clear h15
  obtain ⟨rfl, h17⟩ := asNil_inv h16; clear h16
  obtain ⟨a9, r9, rfl, h18⟩ := asCons_inv h17; clear h17
  obtain ⟨a10, rfl, h19⟩ := asOne_inv h18; clear h18
  obtain ⟨l11, rfl, h20⟩ := asAgL_inv h19; clear h19
  obtain ⟨a12, r12, rfl, h21⟩ := asCons_inv h20; clear h20
  obtain ⟨rfl, h22⟩ := asP_inv h21; clear h21
  obtain ⟨a13, r13, rfl, h23⟩ := asCons_inv h22; clear h22
  obtain ⟨s6, rfl, h24⟩ := asD_inv h23; clear h23
  obtain ⟨a14, r14, rfl, h25⟩ := asCons_inv h24; clear h24
  obtain ⟨s7, rfl, h26⟩ := asD_inv h25; clear h25
  obtain ⟨a15, r15, rfl, h27⟩ := asCons_inv h26; clear h26
  obtain ⟨s8, rfl, h28⟩ := asD_inv h27; clear h27
  obtain ⟨a16, r16, rfl, h29⟩ := asCons_inv h28; clear h28
  obtain ⟨s9, rfl, h30⟩ := asD_inv h29; clear h29
  obtain ⟨a17, r17, rfl, h31⟩ := asCons_inv h30; clear h30
  obtain ⟨s10, rfl, h32⟩ := asD_inv h31; clear h31
  obtain ⟨a18, r18, rfl, h33⟩ := asCons_inv h32; clear h32
  obtain ⟨s11, rfl, h34⟩ := asD_inv h33; clear h33
  obtain ⟨a19, r19, rfl, h35⟩ := asCons_inv h34; clear h34
  obtain ⟨rfl, h36⟩ := asP_inv h35; clear h35
  obtain ⟨rfl, h37⟩ := asNil_inv h36; clear h36
  obtain ⟨a20, r20, rfl, h38⟩ := asCons_inv h37; clear h37
  obtain ⟨s12, rfl, h39⟩ := asRw_inv h38; clear h38
  obtain ⟨a21, r21, rfl, h40⟩ := asCons_inv h39; clear h39
  obtain ⟨s13, rfl, h41⟩ := asRw_inv h40; clear h40
  obtain ⟨a22, r22, rfl, h42⟩ := asCons_inv h41; clear h41
  obtain ⟨s14, rfl, h43⟩ := asRw_inv h42; clear h42
  obtain ⟨rfl, h44⟩ := asNil_inv h43; clear h43
  intro J hJ
  have hp : ∀ c' ∈ subsOf (E.info 13).keep (body Try.f13 11), SubOK E (inlF (PA (ACall E)) E 8) (E.info 13).keep 3 Try.f13.ntmps (lofL Ll13r11) c' := all_eq (by kernel_rfl : subsOf (E.info 13).keep (body Try.f13 11) = []) (all_nil)
  exact h44.of (fun s1 s2 s3 s4 s5 s6 s7 s8 s9 s10 s11 s12 s13 s14 => J [(14000011, .undef), (0, .ptr 0 0 []), (7, .vec 3), (9, I s1), (11, I s2), (13, I s3), (48, .vec 3), (49, I s4), (50, I s5)] [.one (.pair (.sl (.int .i64)) (.pair (.int .i64) (.pair (.int .i64) (.pair (.int .i64) (.pair (.int .i64) (.pair (.int .i64) (.pair (.int .i64) (.pair (.sl (.int .i64)) .unit)))))))) (.agg [.vec 1, I s6, I s7, I s8, I s9, I s10, I s11, .vec 2]), .row (.int .i64) s12 false, .row (.int .i64) s13 false, .row (.int .i64) s14 false]) (fun s1 s2 s3 s4 s5 s6 s7 s8 s9 s10 s11 s12 s13 s14 hb => loop_round2 (S := ofL Sl13r11) (L := lofL Ll13r11) hSl13r11 (inlOK _) hp hJ (by kernel_rfl) hb)

abbrev Sl13r7 : List (Nat × Pat × Sp) := [(21, none, sp21)]
theorem hSl13r7 : SpecOK E (ofL Sl13r7) := specOK_cons h21 (specOK_nil)
abbrev Ll13r7 : List (Nat × List Nat × Pat × LSp) := [(14000011, [0, 7, 9, 11, 13, 48, 49, 50], none, lsl13r11)]
def lsl13r7 : LSp := fun vs σ K => asCons vs fun a1 r1 => asP (.ptr 0 0 []) a1 <| asCons r1 fun a2 r2 => asP (.vec 3) a2 <| asCons r2 fun a3 r3 => asP (.vec 3) a3 <| asCons r3 fun a4 r4 => asD (.int .i64) a4 fun s1 => asCons r4 fun a5 r5 => asD (.int .i64) a5 fun s2 => asNil r5 <| asCons σ fun a6 r6 => asOne (.pair (.sl (.int .i64)) (.pair (.int .i64) (.pair (.int .i64) (.pair (.int .i64) (.pair (.int .i64) (.pair (.int .i64) (.pair (.int .i64) (.pair (.sl (.int .i64)) .unit)))))))) a6 fun a7 => asAgL a7 fun l8 => asCons l8 fun a9 r9 => asP (.vec 1) a9 <| asCons r9 fun a10 r10 => asD (.int .i64) a10 fun s3 => asCons r10 fun a11 r11 => asD (.int .i64) a11 fun s4 => asCons r11 fun a12 r12 => asD (.int .i64) a12 fun s5 => asCons r12 fun a13 r13 => asD (.int .i64) a13 fun s6 => asCons r13 fun a14 r14 => asD (.int .i64) a14 fun s7 => asCons r14 fun a15 r15 => asD (.int .i64) a15 fun s8 => asCons r15 fun a16 r16 => asP (.vec 2) a16 <| asNil r16 <| asCons r6 fun a17 r17 => asRw (.int .i64) false a17 fun s9 => asCons r17 fun a18 r18 => asRw (.int .i64) false a18 fun s10 => asCons r18 fun a19 r19 => asRw (.int .i64) false a19 fun s11 => asNil r19 <| l13r7 (fun z1 z2 z3 z4 z5 z6 z7 z8 z9 => K .ret [(2, B z1)] [.one (.pair (.sl (.int .i64)) (.pair (.int .i64) (.pair (.int .i64) (.pair (.int .i64) (.pair (.int .i64) (.pair (.int .i64) (.pair (.int .i64) (.pair (.sl (.int .i64)) .unit)))))))) (.agg [.vec 1, I z2, I z3, I z4, I z5, I z6, I z7, .vec 2]), .row (.int .i64) z8 false, .row (.int .i64) z9 false]) (fun z1 z2 z3 z4 z5 z6 z7 z8 => K (.exit 0) [(2, .undef)] [.one (.pair (.sl (.int .i64)) (.pair (.int .i64) (.pair (.int .i64) (.pair (.int .i64) (.pair (.int .i64) (.pair (.int .i64) (.pair (.int .i64) (.pair (.sl (.int .i64)) .unit)))))))) (.agg [.vec 1, I z1, I z2, I z3, I z4, I z5, I z6, .vec 2]), .row (.int .i64) z7 false, .row (.int .i64) z8 false]) s1 s2 s3 s4 s5 s6 s7 s8 s9 s10 s11
theorem l13r7v : LoopV E (inlF (PA (ACall E)) E 8) (E.info 13).keep 3 Try.f13.ntmps 14000007 (body Try.f13 7) ([0, 7, 48, 49, 50], lsl13r7) := by
  intro vs σ K (h0 : lsl13r7 vs σ K)
  unfold lsl13r7 at h0
  obtain ⟨a1, r1, rfl, h1⟩ := asCons_inv h0; clear h0
  obtain ⟨rfl, h2⟩ := asP_inv h1; clear h1
  obtain ⟨a2, r2, rfl, h3⟩ := asCons_inv h2; clear h2
  obtain ⟨rfl, h4⟩ := asP_inv h3; clear h3
  obtain ⟨a3, r3, rfl, h5⟩ := asCons_inv h4; clear h4
  obtain ⟨rfl, h6⟩ := asP_inv h5; clear h5
  obtain ⟨a4, r4, rfl, h7⟩ := asCons_inv h6; clear h6
  obtain ⟨s1, rfl, h8⟩ := asD_inv h7; clear h7
  obtain ⟨a5, r5, rfl, h9⟩ := asCons_inv h8; clear h8
  obtain ⟨s2, rfl, h10⟩ := asD_inv h9; clear h9
  obtain ⟨rfl, h11⟩ := asNil_inv h10; clear h10
  obtain ⟨a6, r6, rfl, h12⟩ := asCons_inv h11; clear h11
  obtain ⟨a7, rfl, h13⟩ := asOne_inv h12; clear h12
  obtain ⟨l8, rfl, h14⟩ := asAgL_inv h13; clear h13
  obtain ⟨a9, r9, rfl, h15⟩ := asCons_inv h14; clear h14
  obtain ⟨rfl, h16⟩ := asP_inv h15; clear h15
  obtain ⟨a10, r10, rfl, h17⟩ := asCons_inv h16; clear h16
  obtain ⟨s3, rfl, h18⟩ := asD_inv h17; clear h17
  obtain ⟨a11, r11, rfl, h19⟩ := asCons_inv h18; clear h18
  obtain ⟨s4, rfl, h20⟩ := asD_inv h19; clear h19
  obtain ⟨a12, r12, rfl, h21⟩ := asCons_inv h20; clear h20
  obtain ⟨s5, rfl, h22⟩ := asD_inv h21; clear h21
  obtain ⟨a13, r13, rfl, h23⟩ := asCons_inv h22; clear h22
  obtain ⟨s6, rfl, h24⟩ := asD_inv h23; clear h23
  obtain ⟨a14, r14, rfl, h25⟩ := asCons_inv h24; clear h24
  obtain ⟨s7, rfl, h26⟩ := asD_inv h25; clear h25
  obtain ⟨a15, r15, rfl, h27⟩ := asCons_inv h26; clear h26
  obtain ⟨s8, rfl, h28⟩ := asD_inv h27; clear h27
  obtain ⟨a16, r16, rfl, h29⟩ := asCons_inv h28; clear h28
  obtain ⟨rfl, h30⟩ := asP_inv h29; clear h29
  obtain ⟨rfl, h31⟩ := asNil_inv h30; clear h30
  obtain ⟨a17, r17, rfl, h32⟩ := asCons_inv h31; clear h31
  obtain ⟨s9, rfl, h33⟩ := asRw_inv h32; clear h32
  obtain ⟨a18, r18, rfl, h34⟩ := asCons_inv h33; clear h33
  obtain ⟨s10, rfl, h35⟩ := asRw_inv h34; clear h34
  obtain ⟨a19, r19, rfl, h36⟩ := asCons_inv h35; clear h35
  obtain ⟨s11, rfl, h37⟩ := asRw_inv h36; clear h36
  obtain ⟨rfl, h38⟩ := asNil_inv h37; clear h37
  intro J hJ
  have hp : ∀ c' ∈ subsOf (E.info 13).keep (body Try.f13 7), SubOK E (inlF (PA (ACall E)) E 8) (E.info 13).keep 3 Try.f13.ntmps (lofL Ll13r7) c' := all_eq (by kernel_rfl : subsOf (E.info 13).keep (body Try.f13 7) = [.loop (body Try.f13 11)]) (all_cons (loopOK_of (mk := 14000011) (sl := [0, 7, 9, 11, 13, 48, 49, 50]) (ss := [([0, 7, 9, 11, 13, 48, 49, 50], lsl13r11)]) (by kernel_rfl) (by kernel_rfl) (all_cons l13r11v (all_nil))) (all_nil))
  exact h38.of (fun s1 s2 s3 s4 s5 s6 s7 s8 s9 s10 s11 => J [(14000007, .undef), (0, .ptr 0 0 []), (7, .vec 3), (48, .vec 3), (49, I s1), (50, I s2)] [.one (.pair (.sl (.int .i64)) (.pair (.int .i64) (.pair (.int .i64) (.pair (.int .i64) (.pair (.int .i64) (.pair (.int .i64) (.pair (.int .i64) (.pair (.sl (.int .i64)) .unit)))))))) (.agg [.vec 1, I s3, I s4, I s5, I s6, I s7, I s8, .vec 2]), .row (.int .i64) s9 false, .row (.int .i64) s10 false, .row (.int .i64) s11 false]) (fun s1 s2 s3 s4 s5 s6 s7 s8 s9 s10 s11 hb => loop_round2 (S := ofL Sl13r7) (L := lofL Ll13r7) hSl13r7 (inlOK _) hp hJ (by kernel_rfl) hb)

abbrev S13 : List (Nat × Pat × Sp) := [(22, none, sp22)]
theorem hS13 : SpecOK E (ofL S13) := specOK_cons h22 (specOK_nil)
abbrev L13 : List (Nat × List Nat × Pat × LSp) := [(14000007, [0, 7, 48, 49, 50], none, lsl13r7)]
def sp13 : Sp := fun args τ K => asCons args fun a1 r1 => asP (.ptr 0 0 []) a1 <| asNil r1 <| asCons τ fun a2 r2 => asOne (.pair (.sl (.int .i64)) (.pair (.int .i64) (.pair (.int .i64) (.pair (.int .i64) (.pair (.int .i64) (.pair (.int .i64) (.pair (.int .i64) (.pair (.sl (.int .i64)) .unit)))))))) a2 fun a3 => asAgL a3 fun l4 => asCons l4 fun a5 r5 => asP (.vec 1) a5 <| asCons r5 fun a6 r6 => asD (.int .i64) a6 fun x1 => asCons r6 fun a7 r7 => asD (.int .i64) a7 fun x2 => asCons r7 fun a8 r8 => asD (.int .i64) a8 fun x3 => asCons r8 fun a9 r9 => asD (.int .i64) a9 fun x4 => asCons r9 fun a10 r10 => asD (.int .i64) a10 fun x5 => asCons r10 fun a11 r11 => asD (.int .i64) a11 fun x6 => asCons r11 fun a12 r12 => asP (.vec 2) a12 <| asNil r12 <| asCons r2 fun a13 r13 => asRw (.int .i64) false a13 fun x7 => asCons r13 fun a14 r14 => asRw (.int .i64) false a14 fun x8 => asNil r14 <| c13 x1 x2 x3 x4 x5 x6 x7 x8 (fun z1 z2 z3 z4 z5 z6 z7 z8 z9 => K (B z1) [.one (.pair (.sl (.int .i64)) (.pair (.int .i64) (.pair (.int .i64) (.pair (.int .i64) (.pair (.int .i64) (.pair (.int .i64) (.pair (.int .i64) (.pair (.sl (.int .i64)) .unit)))))))) (.agg [.vec 1, I z2, I z3, I z4, I z5, I z6, I z7, .vec 2]), .row (.int .i64) z8 false, .row (.int .i64) z9 false])
theorem h13 : ∀ args τ K, sp13 args τ K → ACall E 13 args τ K := by
  intro args τ K h0
  unfold sp13 at h0
  obtain ⟨a1, r1, rfl, h1⟩ := asCons_inv h0; clear h0
  obtain ⟨rfl, h2⟩ := asP_inv h1; clear h1
  obtain ⟨rfl, h3⟩ := asNil_inv h2; clear h2
  obtain ⟨a2, r2, rfl, h4⟩ := asCons_inv h3; clear h3
  obtain ⟨a3, rfl, h5⟩ := asOne_inv h4; clear h4
  obtain ⟨l4, rfl, h6⟩ := asAgL_inv h5; clear h5
  obtain ⟨a5, r5, rfl, h7⟩ := asCons_inv h6; clear h6
  obtain ⟨rfl, h8⟩ := asP_inv h7; clear h7
  obtain ⟨a6, r6, rfl, h9⟩ := asCons_inv h8; clear h8
  obtain ⟨x1, rfl, h10⟩ := asD_inv h9; clear h9
  obtain ⟨a7, r7, rfl, h11⟩ := asCons_inv h10; clear h10
  obtain ⟨x2, rfl, h12⟩ := asD_inv h11; clear h11
  obtain ⟨a8, r8, rfl, h13⟩ := asCons_inv h12; clear h12
  obtain ⟨x3, rfl, h14⟩ := asD_inv h13; clear h13
  obtain ⟨a9, r9, rfl, h15⟩ := asCons_inv h14; clear h14
  obtain ⟨x4, rfl, h16⟩ := asD_inv h15; clear h15
  obtain ⟨a10, r10, rfl, h17⟩ := asCons_inv h16; clear h16
  obtain ⟨x5, rfl, h18⟩ := asD_inv h17; clear h17
  obtain ⟨a11, r11, rfl, h19⟩ := asCons_inv h18; clear h18
  obtain ⟨x6, rfl, h20⟩ := asD_inv h19; clear h19
  obtain ⟨a12, r12, rfl, h21⟩ := asCons_inv h20; clear h20
  obtain ⟨rfl, h22⟩ := asP_inv h21; clear h21
  obtain ⟨rfl, h23⟩ := asNil_inv h22; clear h22
  obtain ⟨a13, r13, rfl, h24⟩ := asCons_inv h23; clear h23
  obtain ⟨x7, rfl, h25⟩ := asRw_inv h24; clear h24
  obtain ⟨a14, r14, rfl, h26⟩ := asCons_inv h25; clear h25
  obtain ⟨x8, rfl, h27⟩ := asRw_inv h26; clear h26
  obtain ⟨rfl, h28⟩ := asNil_inv h27; clear h27
  exact ACall.spec2 (fn := Try.f13) (c := codeOf Try.f13) (S := ofL S13) (L := lofL L13) hS13 (by kernel_rfl) (by kernel_rfl) (inlOK _) (all_eq (by kernel_rfl : subsOf (E.info 13).keep (codeOf Try.f13) = [.loop (body Try.f13 7)]) (all_cons (loopOK_of (mk := 14000007) (sl := [0, 7, 48, 49, 50]) (ss := [([0, 7, 48, 49, 50], lsl13r7)]) (by kernel_rfl) (by kernel_rfl) (all_cons l13r7v (all_nil))) (all_nil))) (by kernel_rfl) h28.of

abbrev S3 : List (Nat × Pat × Sp) := [(4, none, sp4), (5, none, sp5), (6, none, sp6), (13, none, sp13)]
theorem hS3 : SpecOK E (ofL S3) := specOK_cons h4 (specOK_cons h5 (specOK_cons h6 (specOK_cons h13 (specOK_nil))))
abbrev L3 : List (Nat × List Nat × Pat × LSp) := [(4000011, [2, 3, 4, 11, 13, 14, 15, 16, 17], none, lsl3r11)]
def sp3 : Sp := fun args τ K => asCons args fun a1 r1 => asD (.int .i64) a1 fun x1 => asCons r1 fun a2 r2 => asD (.int .i64) a2 fun x2 => asCons r2 fun a3 r3 => asD (.int .i64) a3 fun x3 => asCons r3 fun a4 r4 => asD (.sl (.int .i64)) a4 fun x4 => asCons r4 fun a5 r5 => asD (.sl (.int .i64)) a5 fun x5 => asNil r5 <| asNil τ <| c3 x1 x2 x3 x4 x5 (fun z1 => K (B z1) [])
theorem h3 : ∀ args τ K, sp3 args τ K → ACall E 3 args τ K := by
  intro args τ K h0
  unfold sp3 at h0
  obtain ⟨a1, r1, rfl, h1⟩ := asCons_inv h0; clear h0
  obtain ⟨x1, rfl, h2⟩ := asD_inv h1; clear h1
  obtain ⟨a2, r2, rfl, h3⟩ := asCons_inv h2; clear h2
  obtain ⟨x2, rfl, h4⟩ := asD_inv h3; clear h3
  obtain ⟨a3, r3, rfl, h5⟩ := asCons_inv h4; clear h4
  obtain ⟨x3, rfl, h6⟩ := asD_inv h5; clear h5
  obtain ⟨a4, r4, rfl, h7⟩ := asCons_inv h6; clear h6
  obtain ⟨x4, rfl, h8⟩ := asD_inv h7; clear h7
  obtain ⟨a5, r5, rfl, h9⟩ := asCons_inv h8; clear h8
  obtain ⟨x5, rfl, h10⟩ := asD_inv h9; clear h9
  obtain ⟨rfl, h11⟩ := asNil_inv h10; clear h10
  obtain ⟨rfl, h12⟩ := asNil_inv h11; clear h11
  exact ACall.spec2 (fn := Try.f3) (c := codeOf Try.f3) (S := ofL S3) (L := lofL L3) hS3 (by kernel_rfl) (by kernel_rfl) (inlOK _) (all_eq (by kernel_rfl : subsOf (E.info 3).keep (codeOf Try.f3) = [.loop (body Try.f3 11)]) (all_cons (loopOK_of (mk := 4000011) (sl := [2, 3, 4, 11, 13, 14, 15, 16, 17]) (ss := [([2, 3, 4, 11, 13, 14, 15, 16, 17], lsl3r11)]) (by kernel_rfl) (by kernel_rfl) (all_cons l3r11v (all_nil))) (all_nil))) (by kernel_rfl) h12.of

end Go.Proofs.Ytdljpdafghdedaa
