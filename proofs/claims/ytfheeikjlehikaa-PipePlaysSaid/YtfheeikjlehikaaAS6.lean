/- The package pipe: after each instruction and each delay the pipeline is in the state of the reference: the law PipePlays answers true, whatever the arguments are. No condition. -/
import Derived.Test.YtfheeikjlehikaaRows
import Derived.Test.YtfheeikjlehikaaAW6
import Derived.Test.YtfheeikjlehikaaAP6
import Derived.Test.YtfheeikjlehikaaARow5
import Derived.ProofKit
import Derived.OpenShut
namespace Go.Proofs.Ytfheeikjlehikaa
open Go.Abs Go.ChangeShapes Go.WideShapes Go.ChangeAt Go.RowKit
set_option linter.unusedVariables false
set_option maxRecDepth 100000
set_option maxHeartbeats 4000000

theorem own : ownKnob Try.prog.godebug = none := by kernel_rfl
theorem laid : laidOutB Try.prog = true := by kernel_rfl
theorem e3 : ∀ p ∈ fnTab, Try.prog.funcs[p.1]? = some p.2 := all_cons Try.func6 (all_cons Try.func35 (all_cons Try.func36 (all_cons Try.func37 (all_cons Try.func38 (all_cons Try.func39 (all_cons Try.func40 (all_cons Try.func41 (all_cons Try.func42 (all_cons Try.func81 (all_cons Try.func94 (all_cons Try.func102 (all_cons Try.func103 (all_cons Try.func104 (all_cons Try.func105 (all_cons Try.func106 (all_cons Try.func107 (all_cons Try.func108 (all_cons Try.func111 (all_cons Try.func174 (all_cons Try.func175 (all_cons Try.func176 (all_cons Try.func177 (all_cons Try.func178 (all_cons Try.func179 (all_cons Try.func180 (all_cons Try.func181 (all_cons Try.func218 (all_cons Try.func219 (all_cons Try.func220 (all_cons Try.func221 (all_cons Try.func222 (all_cons Try.func264 (all_cons Try.func265 (all_nil))))))))))))))))))))))))))))))))))
theorem envOK : EnvOK Try.prog E := envOK_of e1 e2 e3 e4 e5 e6

theorem acall (x0 : Ty.T (.sl opT)) (x1 : Ty.T (.sl (.int .i64))) (x2 : Ty.T (.sl (.int .i64))) (g0 : Go.Abs.Good (.sl opT) x0) (g1 : Go.Abs.Good (.sl (.int .i64)) x1) (g2 : Go.Abs.Good (.sl (.int .i64)) x2) : ACall E 6 [.d (.sl opT) x0, .d (.sl (.int .i64)) x1, .d (.sl (.int .i64)) x2] [] fun v _ => v = .d .bool true :=
  h6 _ _ _ (show c6 x0 x1 x2 (fun z => B z = .d .bool true) from law6 g0 g1 g2 rfl)

theorem lifted (os : Os) (started : os.Started) (H : Type) (enc : TypeId × Value → H) :
    ReturnsInHanded {} Try.checked os 6 .any (Rows.pipePlaysSpec.pre6 enc Try.prog Try.f6 Rows.pipePlaysRow.domain false) (Rows.pipePlaysSpec.post enc Try.prog Try.f6 false true false false) := by
  refine returnsInHanded_of_change (C := Try.checked) own started (by kernel_rfl) Try.func6
    (ChangeSpec.witness6 (enc := enc) (C := Try.checked) false ⟨#[], #[.slice none 0 0, .slice none 0 0, .slice none 0 0], []⟩ 8 (by kernel_rfl) (by kernel_rfl) (by kernel_rfl) (by kernel_rfl)) ?_
  intro W base args ds gs before hval0 hW hcnd _
  have hval : ∀ (j : Nat) t v, Try.f6.params[j]? = some t → args[j]? = some v → Value.okWide Try.prog W .any base t v := hval0
  have hW' := hW
  obtain ⟨p, q, hA0, hV, rfl, hfz, hnd⟩ := hW
  have hA : DataW.TrodAll enc Try.prog W 0 (fun _ => true) true Try.f6.params.toList args.toList ds p := hA0
  have hA1 := hA
  rw [Try.params6] at hA hval
  obtain ⟨v0, vs0, d0, ds0, p0, q0, hargs, rfl, rfl, h0, r0⟩ := trodAll_cons hA
  obtain ⟨v1, vs1, d1, ds1, p1, q1, rfl, rfl, rfl, h1, r1⟩ := trodAll_cons r0
  obtain ⟨v2, vs2, d2, ds2, p2, q2, rfl, rfl, rfl, h2, r2⟩ := trodAll_cons r1
  obtain ⟨rfl, rfl, rfl⟩ := trodAll_nil r2
  obtain rfl : args = #[v0, v1, v2] := by cases args; simp_all
  obtain ⟨rfl, rfl⟩ := trodVars_none hV
  obtain ⟨x0, g0, i0⟩ := arg_data (P := Try.prog) (ty := (.sl opT)) (by kernel_rfl) (by kernel_rfl) (hval 0 60 v0 rfl rfl) h0
  obtain ⟨x1, g1, i1⟩ := arg_data (P := Try.prog) (ty := (.sl (.int .i64))) (by kernel_rfl) (by kernel_rfl) (hval 1 25 v1 rfl rfl) h1
  obtain ⟨x2, g2, i2⟩ := arg_data (P := Try.prog) (ty := (.sl (.int .i64))) (by kernel_rfl) (by kernel_rfl) (hval 2 25 v2 rfl rfl) h2
  refine (law_calls envOK (i0 (i1 (i2 .nil))) (acall x0 x1 x2 g0 g1 g2)).mono fun e W' ⟨he, hg⟩ => ?_
  subst he
  exact ⟨_, rfl, post_same (pa := (p0 ++ (p1 ++ (p2 ++ [])))) (pv := []) hW' (fun _ _ _ => trodAll_cons_mk (shut_bool Try.underlying4 _) trodAll_mk0)
    (fun sp hsp => args_stay laid hg.below hA1 (by kernel_rfl) (fun x hx => hW'.lt x (List.mem_append_left _ hx)) sp (fun x hx => hsp x (List.mem_append_left _ hx)))
    (fun _ _ => rfl) rfl hg (ok_one (by kernel_rfl) rfl (okWide_bool_mk Try.underlying4 _))⟩

theorem joined : joinedFacts Try.pinned.checked.prog 6 Try.f6 Rows.pipePlaysSpec Rows.pipePlaysRow = true := by
  unfold joinedFacts
  simp only [Bool.and_eq_true]
  repeat' apply And.intro
  all_goals (as_aux_lemma => kernel_rfl)

theorem over : Rows.pipePlaysRow.holds Try.pinned (OpenSpec.ofChange Rows.pipePlaysSpec) :=
  OpenClaim.holds_of_wide 6 Try.f6 rfl rfl rfl rfl rfl rfl rfl ⟨rfl, rfl, rfl, rfl, rfl⟩ rfl rfl rfl rfl rfl (by as_aux_lemma => kernel_rfl) Try.func6 joined
    (of_decide_eq_true (by kernel_rfl)) (by unfold Func.isWrapper; first | (rw [if_pos (by decide +kernel)]; kernel_rfl) | (rw [if_neg (by decide +kernel)]; exact ⟨rfl, rfl⟩))
    (fun os started H enc _ => lifted os started H enc)

theorem proved : Rows.PipePlaysSaid := over
end Go.Proofs.Ytfheeikjlehikaa
