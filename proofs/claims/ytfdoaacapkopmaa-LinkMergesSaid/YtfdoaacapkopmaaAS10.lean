/- The package link: Merge answers as the reference does: the law LinkMerges answers true, whatever the functions are. No condition. -/
import Derived.Test.YtfdoaacapkopmaaRows
import Derived.Test.YtfdoaacapkopmaaAW10
import Derived.Test.YtfdoaacapkopmaaAP10
import Derived.Test.YtfdoaacapkopmaaARow5
import Derived.ProofKit
import Derived.OpenShut
namespace Go.Proofs.Ytfdoaacapkopmaa
open Go.Abs Go.ChangeShapes Go.WideShapes Go.ChangeAt Go.RowKit
set_option linter.unusedVariables false
set_option maxRecDepth 100000

theorem own : ownKnob Try.prog.godebug = none := by kernel_rfl
theorem laid : laidOutB Try.prog = true := by kernel_rfl
theorem e3 : ∀ p ∈ fnTab, Try.prog.funcs[p.1]? = some p.2 := all_cons Try.func10 (all_cons Try.func25 (all_cons Try.func26 (all_cons Try.func32 (all_cons Try.func50 (all_cons Try.func54 (all_cons Try.func55 (all_cons Try.func56 (all_cons Try.func57 (all_cons Try.func103 (all_cons Try.func104 (all_cons Try.func118 (all_cons Try.func119 (all_cons Try.func120 (all_cons Try.func121 (all_cons Try.func147 (all_cons Try.func148 (all_cons Try.func149 (all_cons Try.func150 (all_cons Try.func151 (all_nil))))))))))))))))))))
theorem envOK : EnvOK Try.prog E := envOK_of e1 e2 e3 e4 e5

theorem acall (x0 : Ty.T (.sl lfT)) (g0 : Go.Abs.Good (.sl lfT) x0) : ACall E 10 [.d (.sl lfT) x0] [] fun v _ => v = .d .bool true :=
  h10 _ _ _ (show c10 x0 (fun z => B z = .d .bool true) from law10 g0 rfl)

theorem lifted (os : Os) (started : os.Started) (H : Type) (enc : TypeId × Value → H) :
    ReturnsInHanded {} Try.checked os 10 .any (Rows.linkMergesSpec.pre6 enc Try.prog Try.f10 Rows.linkMergesRow.domain false) (Rows.linkMergesSpec.post enc Try.prog Try.f10 false true false false) := by
  refine returnsInHanded_of_change (C := Try.checked) own started (by kernel_rfl) Try.func10
    (ChangeSpec.witness6 (enc := enc) (C := Try.checked) false ⟨#[], #[.slice none 0 0], []⟩ 8 (by kernel_rfl) (by kernel_rfl) (by kernel_rfl) (by kernel_rfl)) ?_
  intro W base args ds gs before hval0 hW hcnd _
  have hval : ∀ (j : Nat) t v, Try.f10.params[j]? = some t → args[j]? = some v → Value.okWide Try.prog W .any base t v := hval0
  have hW' := hW
  obtain ⟨p, q, hA0, hV, rfl, hfz, hnd⟩ := hW
  have hA : DataW.TrodAll enc Try.prog W 0 (fun _ => true) true Try.f10.params.toList args.toList ds p := hA0
  have hA1 := hA
  rw [Try.params10] at hA hval
  obtain ⟨v0, vs0, d0, ds0, p0, q0, hargs, rfl, rfl, h0, r0⟩ := trodAll_cons hA
  obtain ⟨rfl, rfl, rfl⟩ := trodAll_nil r0
  obtain rfl : args = #[v0] := by cases args; simp_all
  obtain ⟨rfl, rfl⟩ := trodVars_none hV
  obtain ⟨x0, g0, i0⟩ := arg_data (P := Try.prog) (ty := (.sl lfT)) (by kernel_rfl) (by kernel_rfl) (hval 0 91 v0 rfl rfl) h0
  refine (law_calls envOK (i0 .nil) (acall x0 g0)).mono fun e W' ⟨he, hg⟩ => ?_
  subst he
  exact ⟨_, rfl, post_same (pa := (p0 ++ [])) (pv := []) hW' (fun _ _ _ => trodAll_cons_mk (shut_bool Try.underlying4 _) trodAll_mk0)
    (fun sp hsp => args_stay laid hg.below hA1 (by kernel_rfl) (fun x hx => hW'.lt x (List.mem_append_left _ hx)) sp (fun x hx => hsp x (List.mem_append_left _ hx)))
    (fun _ _ => rfl) rfl hg (ok_one (by kernel_rfl) rfl (okWide_bool_mk Try.underlying4 _))⟩

theorem over : Rows.linkMergesRow.holds Try.pinned (OpenSpec.ofChange Rows.linkMergesSpec) :=
  OpenClaim.holds_of_wide 10 Try.f10 rfl rfl rfl rfl rfl rfl rfl ⟨rfl, rfl, rfl, rfl, rfl⟩ rfl rfl rfl rfl rfl (by kernel_rfl) Try.func10 (by kernel_rfl)
    (of_decide_eq_true (by kernel_rfl)) (by unfold Func.isWrapper; first | (rw [if_pos (by decide +kernel)]; kernel_rfl) | (rw [if_neg (by decide +kernel)]; exact ⟨rfl, rfl⟩))
    (fun os started H enc _ => lifted os started H enc)

theorem proved : Rows.LinkMergesSaid := over
end Go.Proofs.Ytfdoaacapkopmaa
