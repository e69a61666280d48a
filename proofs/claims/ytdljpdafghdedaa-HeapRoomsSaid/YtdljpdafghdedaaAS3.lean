/- Rooms of heaps of all sizes: the law HeapRooms answers true, whatever the arguments are. No condition. -/
import Derived.Test.YtdljpdafghdedaaRows
import Derived.Test.YtdljpdafghdedaaAW3
import Derived.Test.YtdljpdafghdedaaAP3
import Derived.Test.YtdljpdafghdedaaARow5
import Derived.ProofKit
import Derived.OpenShut
namespace Go.Proofs.Ytdljpdafghdedaa
open Go.Abs Go.ChangeShapes Go.WideShapes Go.ChangeAt Go.RowKit
set_option linter.unusedVariables false
set_option maxRecDepth 100000
set_option maxHeartbeats 4000000

theorem own : ownKnob Try.prog.godebug = none := by kernel_rfl
theorem laid : laidOutB Try.prog = true := by kernel_rfl
theorem e3 : ∀ p ∈ fnTab, Try.prog.funcs[p.1]? = some p.2 := all_cons Try.func3 (all_cons Try.func4 (all_cons Try.func5 (all_cons Try.func6 (all_cons Try.func7 (all_cons Try.func8 (all_cons Try.func9 (all_cons Try.func10 (all_cons Try.func11 (all_cons Try.func12 (all_cons Try.func13 (all_cons Try.func14 (all_cons Try.func15 (all_cons Try.func16 (all_cons Try.func17 (all_cons Try.func18 (all_cons Try.func19 (all_cons Try.func20 (all_cons Try.func21 (all_cons Try.func22 (all_cons Try.func23 (all_cons Try.func24 (all_cons Try.func25 (all_cons Try.func26 (all_cons Try.func27 (all_cons Try.func28 (all_cons Try.func29 (all_nil)))))))))))))))))))))))))))
theorem envOK : EnvOK Try.prog E := envOK_of e1 e2 e3 e4 e5 e6

theorem acall (x0 : Ty.T (.int .i64)) (x1 : Ty.T (.int .i64)) (x2 : Ty.T (.int .i64)) (x3 : Ty.T (.sl (.int .i64))) (x4 : Ty.T (.sl (.int .i64))) (g0 : Go.Abs.Good (.int .i64) x0) (g1 : Go.Abs.Good (.int .i64) x1) (g2 : Go.Abs.Good (.int .i64) x2) (g3 : Go.Abs.Good (.sl (.int .i64)) x3) (g4 : Go.Abs.Good (.sl (.int .i64)) x4) : ACall E 3 [.d (.int .i64) x0, .d (.int .i64) x1, .d (.int .i64) x2, .d (.sl (.int .i64)) x3, .d (.sl (.int .i64)) x4] [] fun v _ => v = .d .bool true :=
  h3 _ _ _ (show c3 x0 x1 x2 x3 x4 (fun z => B z = .d .bool true) from law3 g0 g1 g2 g3 g4 rfl)

theorem lifted (os : Os) (started : os.Started) (H : Type) (enc : TypeId × Value → H) :
    ReturnsInHanded {} Try.checked os 3 .any (Rows.heapRoomsSpec.pre6 enc Try.prog Try.f3 Rows.heapRoomsRow.domain false) (Rows.heapRoomsSpec.post enc Try.prog Try.f3 false true false false) := by
  refine returnsInHanded_of_change (C := Try.checked) own started (by kernel_rfl) Try.func3
    (ChangeSpec.witness6 (enc := enc) (C := Try.checked) false ⟨#[], #[.int .i64 0, .int .i64 0, .int .i64 0, .slice none 0 0, .slice none 0 0], []⟩ 8 (by kernel_rfl) (by kernel_rfl) (by kernel_rfl) (by kernel_rfl)) ?_
  intro W base args ds gs before hval0 hW hcnd _
  have hval : ∀ (j : Nat) t v, Try.f3.params[j]? = some t → args[j]? = some v → Value.okWide Try.prog W .any base t v := hval0
  have hW' := hW
  obtain ⟨p, q, hA0, hV, rfl, hfz, hnd⟩ := hW
  have hA : DataW.TrodAll enc Try.prog W 0 (fun _ => true) true Try.f3.params.toList args.toList ds p := hA0
  have hA1 := hA
  rw [Try.params3] at hA hval
  obtain ⟨v0, vs0, d0, ds0, p0, q0, hargs, rfl, rfl, h0, r0⟩ := trodAll_cons hA
  obtain ⟨v1, vs1, d1, ds1, p1, q1, rfl, rfl, rfl, h1, r1⟩ := trodAll_cons r0
  obtain ⟨v2, vs2, d2, ds2, p2, q2, rfl, rfl, rfl, h2, r2⟩ := trodAll_cons r1
  obtain ⟨v3, vs3, d3, ds3, p3, q3, rfl, rfl, rfl, h3, r3⟩ := trodAll_cons r2
  obtain ⟨v4, vs4, d4, ds4, p4, q4, rfl, rfl, rfl, h4, r4⟩ := trodAll_cons r3
  obtain ⟨rfl, rfl, rfl⟩ := trodAll_nil r4
  obtain rfl : args = #[v0, v1, v2, v3, v4] := by cases args; simp_all
  obtain ⟨rfl, rfl⟩ := trodVars_none hV
  obtain ⟨x0, g0, i0⟩ := arg_data (P := Try.prog) (ty := (.int .i64)) (by kernel_rfl) (by kernel_rfl) (hval 0 3 v0 rfl rfl) h0
  obtain ⟨x1, g1, i1⟩ := arg_data (P := Try.prog) (ty := (.int .i64)) (by kernel_rfl) (by kernel_rfl) (hval 1 3 v1 rfl rfl) h1
  obtain ⟨x2, g2, i2⟩ := arg_data (P := Try.prog) (ty := (.int .i64)) (by kernel_rfl) (by kernel_rfl) (hval 2 3 v2 rfl rfl) h2
  obtain ⟨x3, g3, i3⟩ := arg_data (P := Try.prog) (ty := (.sl (.int .i64))) (by kernel_rfl) (by kernel_rfl) (hval 3 22 v3 rfl rfl) h3
  obtain ⟨x4, g4, i4⟩ := arg_data (P := Try.prog) (ty := (.sl (.int .i64))) (by kernel_rfl) (by kernel_rfl) (hval 4 22 v4 rfl rfl) h4
  refine (law_calls envOK (i0 (i1 (i2 (i3 (i4 .nil))))) (acall x0 x1 x2 x3 x4 g0 g1 g2 g3 g4)).mono fun e W' ⟨he, hg⟩ => ?_
  subst he
  exact ⟨_, rfl, post_same (pa := (p0 ++ (p1 ++ (p2 ++ (p3 ++ (p4 ++ [])))))) (pv := []) hW' (fun _ _ _ => trodAll_cons_mk (shut_bool Try.underlying4 _) trodAll_mk0)
    (fun sp hsp => args_stay laid hg.below hA1 (by kernel_rfl) (fun x hx => hW'.lt x (List.mem_append_left _ hx)) sp (fun x hx => hsp x (List.mem_append_left _ hx)))
    (fun _ _ => rfl) rfl hg (ok_one (by kernel_rfl) rfl (okWide_bool_mk Try.underlying4 _))⟩

theorem joined : joinedFacts Try.pinned.checked.prog 3 Try.f3 Rows.heapRoomsSpec Rows.heapRoomsRow = true := by
  unfold joinedFacts
  simp only [Bool.and_eq_true]
  repeat' apply And.intro
  all_goals (as_aux_lemma => kernel_rfl)

theorem over : Rows.heapRoomsRow.holds Try.pinned (OpenSpec.ofChange Rows.heapRoomsSpec) :=
  OpenClaim.holds_of_wide 3 Try.f3 rfl rfl rfl rfl rfl rfl rfl ⟨rfl, rfl, rfl, rfl, rfl⟩ rfl rfl rfl rfl rfl (by as_aux_lemma => kernel_rfl) Try.func3 joined
    (of_decide_eq_true (by kernel_rfl)) (by unfold Func.isWrapper; first | (rw [if_pos (by decide +kernel)]; kernel_rfl) | (rw [if_neg (by decide +kernel)]; exact ⟨rfl, rfl⟩))
    (fun os started H enc _ => lifted os started H enc)

theorem proved : Rows.HeapRoomsSaid := over
end Go.Proofs.Ytdljpdafghdedaa
