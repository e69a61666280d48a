/- The package relax: Check, Sizes and Encode answer as the reference does: the law RelaxSays answers true, whatever the items are. No condition. -/
import Derived.Test.YtfdoaacapkopmaaRows
import Derived.Test.YtfdoaacapkopmaaAW9
import Derived.Test.YtfdoaacapkopmaaAP9
import Derived.Test.YtfdoaacapkopmaaARow5
import Derived.ProofKit
import Derived.OpenShut
namespace Go.Proofs.Ytfdoaacapkopmaa
open Go.Abs Go.ChangeShapes Go.WideShapes Go.ChangeAt Go.RowKit
set_option linter.unusedVariables false
set_option maxRecDepth 100000

theorem own : ownKnob Try.prog.godebug = none := by kernel_rfl
theorem laid : laidOutB Try.prog = true := by kernel_rfl
theorem e3 : ∀ p ∈ fnTab, Try.prog.funcs[p.1]? = some p.2 := all_cons Try.func9 (all_cons Try.func24 (all_cons Try.func25 (all_cons Try.func26 (all_cons Try.func27 (all_cons Try.func28 (all_cons Try.func29 (all_cons Try.func30 (all_cons Try.func31 (all_cons Try.func32 (all_cons Try.func33 (all_cons Try.func46 (all_cons Try.func47 (all_cons Try.func48 (all_cons Try.func49 (all_cons Try.func50 (all_cons Try.func51 (all_cons Try.func52 (all_cons Try.func53 (all_cons Try.func101 (all_cons Try.func102 (all_cons Try.func103 (all_cons Try.func104 (all_cons Try.func105 (all_cons Try.func106 (all_cons Try.func116 (all_cons Try.func117 (all_cons Try.func146 (all_nil))))))))))))))))))))))))))))
theorem envOK : EnvOK Try.prog E := envOK_of e1 e2 e3 e4 e5

theorem acall (x0 : Ty.T (.sl riT)) (x1 : Ty.T .bool) (g0 : Go.Abs.Good (.sl riT) x0) (g1 : Go.Abs.Good .bool x1) : ACall E 9 [.d (.sl riT) x0, .d .bool x1] [] fun v _ => v = .d .bool true :=
  h9 _ _ _ (show c9 x0 x1 (fun z => B z = .d .bool true) from law9 g0 g1 rfl)

theorem lifted (os : Os) (started : os.Started) (H : Type) (enc : TypeId × Value → H) :
    ReturnsInHanded {} Try.checked os 9 .any (Rows.relaxSaysSpec.pre6 enc Try.prog Try.f9 Rows.relaxSaysRow.domain false) (Rows.relaxSaysSpec.post enc Try.prog Try.f9 false true false false) := by
  refine returnsInHanded_of_change (C := Try.checked) own started (by kernel_rfl) Try.func9
    (ChangeSpec.witness6 (enc := enc) (C := Try.checked) false ⟨#[], #[.slice none 0 0, .bool false], []⟩ 8 (by kernel_rfl) (by kernel_rfl) (by kernel_rfl) (by kernel_rfl)) ?_
  intro W base args ds gs before hval0 hW hcnd _
  have hval : ∀ (j : Nat) t v, Try.f9.params[j]? = some t → args[j]? = some v → Value.okWide Try.prog W .any base t v := hval0
  have hW' := hW
  obtain ⟨p, q, hA0, hV, rfl, hfz, hnd⟩ := hW
  have hA : DataW.TrodAll enc Try.prog W 0 (fun _ => true) true Try.f9.params.toList args.toList ds p := hA0
  have hA1 := hA
  rw [Try.params9] at hA hval
  obtain ⟨v0, vs0, d0, ds0, p0, q0, hargs, rfl, rfl, h0, r0⟩ := trodAll_cons hA
  obtain ⟨v1, vs1, d1, ds1, p1, q1, rfl, rfl, rfl, h1, r1⟩ := trodAll_cons r0
  obtain ⟨rfl, rfl, rfl⟩ := trodAll_nil r1
  obtain rfl : args = #[v0, v1] := by cases args; simp_all
  obtain ⟨rfl, rfl⟩ := trodVars_none hV
  obtain ⟨x0, g0, i0⟩ := arg_data (P := Try.prog) (ty := (.sl riT)) (by kernel_rfl) (by kernel_rfl) (hval 0 81 v0 rfl rfl) h0
  obtain ⟨x1, g1, i1⟩ := arg_data (P := Try.prog) (ty := .bool) (by kernel_rfl) (by kernel_rfl) (hval 1 4 v1 rfl rfl) h1
  refine (law_calls envOK (i0 (i1 .nil)) (acall x0 x1 g0 g1)).mono fun e W' ⟨he, hg⟩ => ?_
  subst he
  exact ⟨_, rfl, post_same (pa := (p0 ++ (p1 ++ []))) (pv := []) hW' (fun _ _ _ => trodAll_cons_mk (shut_bool Try.underlying4 _) trodAll_mk0)
    (fun sp hsp => args_stay laid hg.below hA1 (by kernel_rfl) (fun x hx => hW'.lt x (List.mem_append_left _ hx)) sp (fun x hx => hsp x (List.mem_append_left _ hx)))
    (fun _ _ => rfl) rfl hg (ok_one (by kernel_rfl) rfl (okWide_bool_mk Try.underlying4 _))⟩

theorem over : Rows.relaxSaysRow.holds Try.pinned (OpenSpec.ofChange Rows.relaxSaysSpec) :=
  OpenClaim.holds_of_wide 9 Try.f9 rfl rfl rfl rfl rfl rfl rfl ⟨rfl, rfl, rfl, rfl, rfl⟩ rfl rfl rfl rfl rfl (by kernel_rfl) Try.func9 (by kernel_rfl)
    (of_decide_eq_true (by kernel_rfl)) (by unfold Func.isWrapper; first | (rw [if_pos (by decide +kernel)]; kernel_rfl) | (rw [if_neg (by decide +kernel)]; exact ⟨rfl, rfl⟩))
    (fun os started H enc _ => lifted os started H enc)

theorem proved : Rows.RelaxSaysSaid := over
end Go.Proofs.Ytfdoaacapkopmaa
