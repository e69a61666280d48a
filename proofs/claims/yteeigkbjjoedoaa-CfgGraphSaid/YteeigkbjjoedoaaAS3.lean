/- Predecessors, reachable blocks and orders: the law CfgGraph answers true, whatever the function is. No condition. -/
import Derived.Test.YteeigkbjjoedoaaRows
import Derived.Test.YteeigkbjjoedoaaAW3
import Derived.Test.YteeigkbjjoedoaaAP3
import Derived.Test.YteeigkbjjoedoaaARow6
import Derived.SizedLaws
import Derived.ProofKit
import Derived.OpenShut
namespace Go.Proofs.Yteeigkbjjoedoaa
open Go.Abs Go.ChangeShapes Go.WideShapes Go.ChangeAt Go.RowKit
set_option linter.unusedVariables false
set_option maxRecDepth 100000
set_option maxHeartbeats 4000000
theorem own : ownKnob Try.prog.godebug = none := by kernel_rfl
theorem laid : laidOutB Try.prog = true := by kernel_rfl
theorem e3 : ∀ p ∈ fnTab, Try.prog.funcs[p.1]? = some p.2 := all_cons Try.func3 (all_cons Try.func4 (all_cons Try.func5 (all_cons Try.func6 (all_cons Try.func7 (all_cons Try.func8 (all_cons Try.func9 (all_cons Try.func10 (all_cons Try.func11 (all_cons Try.func12 (all_cons Try.func13 (all_cons Try.func14 (all_cons Try.func15 (all_cons Try.func16 (all_cons Try.func17 (all_cons Try.func18 (all_cons Try.func19 (all_cons Try.func20 (all_cons Try.func21 (all_cons Try.func22 (all_cons Try.func23 (all_cons Try.func24 (all_cons Try.func25 (all_cons Try.func26 (all_cons Try.func27 (all_cons Try.func28 (all_cons Try.func29 (all_cons Try.func30 (all_cons Try.func31 (all_cons Try.func32 (all_cons Try.func33 (all_cons Try.func34 (all_cons Try.func35 (all_cons Try.func36 (all_cons Try.func37 (all_cons Try.func38 (all_cons Try.func39 (all_cons Try.func40 (all_cons Try.func41 (all_cons Try.func42 (all_cons Try.func43 (all_cons Try.func49 (all_cons Try.func52 (all_cons Try.func53 (all_cons Try.func54 (all_cons Try.func55 (all_cons Try.func56 (all_cons Try.func57 (all_cons Try.func58 (all_cons Try.func59 (all_cons Try.func60 (all_cons Try.func61 (all_cons Try.func62 (all_cons Try.func68 (all_cons Try.func69 (all_nil)))))))))))))))))))))))))))))))))))))))))))))))))))))))
theorem envOK : EnvOK Try.prog E := envOK_of e1 e2 e3 e4 e5 e6
theorem acall (x0 : Ty.T fuT) (g0 : Go.Abs.Good fuT x0 ∧ Go.Abs.Sz fuT x0) : ACall E 3 [.d fuT x0] [] fun v _ => v = .d .bool true :=
  h3 _ _ _ (show c3 x0 (fun z => B z = .d .bool true) from law3 g0 rfl)
theorem lifted (os : Os) (started : os.Started) (H : Type) (enc : TypeId × Value → H) :
    ReturnsInHanded {} Try.checked os 3 .any (Rows.cfgGraphSpec.pre6 enc Try.prog Try.f3 Rows.cfgGraphRow.domain false) (Rows.cfgGraphSpec.post enc Try.prog Try.f3 false true false false) := by
  refine returnsInHanded_of_change_sized (C := Try.checked) own started (by kernel_rfl) Try.func3
    (ChangeSpec.witness6 (enc := enc) (C := Try.checked) false ⟨#[], #[.agg #[.int .i64 0, .slice none 0 0]], []⟩ 8 (by kernel_rfl) (by kernel_rfl) (by kernel_rfl) (by kernel_rfl)) ?_
  intro W base args ds gs before hval0 hW hcnd hz0 _
  have hval : ∀ (j : Nat) t v, Try.f3.params[j]? = some t → args[j]? = some v → Value.okWide Try.prog W .any base t v := hval0
  have hW' := hW
  obtain ⟨p, q, hA0, hV, rfl, hfz, hnd⟩ := hW
  have hA : DataW.TrodAll enc Try.prog W 0 (fun _ => true) true Try.f3.params.toList args.toList ds p := hA0
  have hA1 := hA
  rw [Try.params3] at hA hval
  obtain ⟨v0, vs0, d0, ds0, p0, q0, hargs, rfl, rfl, h0, r0⟩ := trodAll_cons hA
  obtain ⟨rfl, rfl, rfl⟩ := trodAll_nil r0
  obtain rfl : args = #[v0] := by cases args; simp_all
  obtain ⟨rfl, rfl⟩ := trodVars_none hV
  have hz1 : (DataW.weightsEach Try.prog (Try.f3.params.toList ++ []) ((d0 :: []) ++ [])).all (· ≤ reachBytes) = true := hz0
  have z0 : ∀ n ∈ DataW.weightsEach Try.prog Try.f3.params.toList (d0 :: []), n ≤ reachBytes := fun n hn => by have := List.all_eq_true.1 hz1 n (by rw [List.append_nil, List.append_nil]; exact hn); exact of_decide_eq_true this
  rw [Try.params3] at z0
  obtain ⟨w0, z1⟩ := weights_head z0
  obtain ⟨x0, g0, i0⟩ := arg_sized (P := Try.prog) (ty := fuT) (by kernel_rfl) (by kernel_rfl) (by kernel_rfl) (hval 0 24 v0 rfl rfl) h0 w0
  refine (law_calls envOK (i0 .nil) (acall x0 g0)).mono fun e W' ⟨he, hg⟩ => ?_
  subst he
  exact ⟨_, rfl, post_same (pa := (p0 ++ [])) (pv := []) hW' (fun _ _ _ => trodAll_cons_mk (shut_bool Try.underlying4 _) trodAll_mk0)
    (fun sp hsp => args_stay laid hg.below hA1 (by kernel_rfl) (fun x hx => hW'.lt x (List.mem_append_left _ hx)) sp (fun x hx => hsp x (List.mem_append_left _ hx)))
    (fun _ _ => rfl) rfl hg (ok_one (by kernel_rfl) rfl (okWide_bool_mk Try.underlying4 _))⟩
theorem joined : joinedFacts Try.pinned.checked.prog 3 Try.f3 Rows.cfgGraphSpec Rows.cfgGraphRow = true := by
  unfold joinedFacts
  simp only [Bool.and_eq_true]
  repeat' apply And.intro
  all_goals (as_aux_lemma => kernel_rfl)
theorem over : Rows.cfgGraphRow.holds Try.pinned (OpenSpec.ofChange Rows.cfgGraphSpec) :=
  OpenClaim.holds_of_wide 3 Try.f3 rfl rfl rfl rfl rfl rfl rfl ⟨rfl, rfl, rfl, rfl, rfl⟩ rfl rfl rfl rfl rfl (by as_aux_lemma => kernel_rfl) Try.func3 joined
    (of_decide_eq_true (by kernel_rfl)) (by unfold Func.isWrapper; first | (rw [if_pos (by decide +kernel)]; kernel_rfl) | (rw [if_neg (by decide +kernel)]; exact ⟨rfl, rfl⟩))
    (fun os started H enc _ => lifted os started H enc)
theorem proved : Rows.CfgGraphSaid := over
end Go.Proofs.Yteeigkbjjoedoaa
