/- Sched.Depends answers as the reference does, of any two instructions that are valid: the law SchedDepends answers true whatever its two arguments are. No condition. -/
import Derived.Test.YtfdoaacapkopmaaRows
import Derived.Test.YtfdoaacapkopmaaAW6
import Derived.Test.YtfdoaacapkopmaaAP6c
import Derived.Test.YtfdoaacapkopmaaARow5
import Derived.ProofKit
import Derived.OpenShut
namespace Go.Proofs.Ytfdoaacapkopmaa
open Go.Abs Go.ChangeShapes Go.WideShapes Go.ChangeAt Go.RowKit
set_option linter.unusedVariables false
set_option maxRecDepth 100000

theorem own : ownKnob Try.prog.godebug = none := by kernel_rfl
theorem laid : laidOutB Try.prog = true := by kernel_rfl

theorem e3 : ∀ p ∈ fnTab, Try.prog.funcs[p.1]? = some p.2 := all_cons Try.func6 (all_cons Try.func25 (all_cons Try.func36 (all_cons Try.func37 (all_cons Try.func81 (all_cons Try.func82 (all_cons Try.func83 (all_cons Try.func84 (all_cons Try.func101 (all_cons Try.func102 (all_cons Try.func103 (all_cons Try.func104 (all_cons Try.func107 (all_cons Try.func108 (all_cons Try.func109 (all_cons Try.func139 (all_cons Try.func140 (all_nil)))))))))))))))))
theorem envOK : EnvOK Try.prog E := envOK_of e1 e2 e3 e4 e5

theorem acall (x y : opT.T) : ACall E 6 [.d opT x, .d opT y] [] fun v _ => v = .d .bool true :=
  h6 _ _ _ (show c6 x y (fun z => B z = .d .bool true) from law6 rfl)

theorem lifted (os : Os) (started : os.Started) (H : Type) (enc : TypeId × Value → H) :
    ReturnsInHanded {} Try.checked os 6 .any (Rows.schedDependsSpec.pre6 enc Try.prog Try.f6 Rows.schedDependsRow.domain false) (Rows.schedDependsSpec.post enc Try.prog Try.f6 false true false false) := by
  refine returnsInHanded_of_change (C := Try.checked) own started (by kernel_rfl) Try.func6
    (ChangeSpec.witness6 (enc := enc) (C := Try.checked) false ⟨#[], #[.agg #[.int .i64 0, .int .i64 0, .int .i64 0, .int .i64 0, .int .i64 0], .agg #[.int .i64 0, .int .i64 0, .int .i64 0, .int .i64 0, .int .i64 0]], []⟩ 8 (by kernel_rfl) (by kernel_rfl) (by kernel_rfl) (by kernel_rfl)) ?_
  intro W base args ds gs before hval0 hW hcnd _
  have hval : ∀ (j : Nat) t v, Try.f6.params[j]? = some t → args[j]? = some v → Value.okWide Try.prog W .any base t v := hval0
  have hW' := hW
  obtain ⟨p, q, hA0, hV, rfl, hfz, hnd⟩ := hW
  have hA : DataW.TrodAll enc Try.prog W 0 (fun _ => true) true Try.f6.params.toList args.toList ds p := hA0
  have hA1 := hA
  rw [Try.params6] at hA hval
  obtain ⟨v0, vs0, d0, ds0, p0, q0, hargs, rfl, rfl, h0, r0⟩ := trodAll_cons hA
  obtain ⟨v1, vs1, d1, ds1, p1, q1, rfl, rfl, rfl, h1, r1⟩ := trodAll_cons r0
  obtain ⟨rfl, rfl, rfl⟩ := trodAll_nil r1
  obtain rfl : args = #[v0, v1] := by cases args; simp_all
  obtain ⟨rfl, rfl⟩ := trodVars_none hV
  obtain ⟨x0, g0, i0⟩ := arg_data (P := Try.prog) (ty := opT) (by kernel_rfl) (by kernel_rfl) (hval 0 42 v0 rfl rfl) h0
  obtain ⟨x1, g1, i1⟩ := arg_data (P := Try.prog) (ty := opT) (by kernel_rfl) (by kernel_rfl) (hval 1 42 v1 rfl rfl) h1
  refine (law_calls envOK (i0 (i1 .nil)) (acall x0 x1)).mono fun e W' ⟨he, hg⟩ => ?_
  subst he
  exact ⟨_, rfl, post_same (pa := p0 ++ (p1 ++ [])) (pv := []) hW' (fun _ _ _ => trodAll_cons_mk (shut_bool Try.underlying4 _) trodAll_mk0)
    (fun sp hsp => args_stay laid hg.below hA1 (by kernel_rfl) (fun x hx => hW'.lt x (List.mem_append_left _ hx)) sp (fun x hx => hsp x (List.mem_append_left _ hx)))
    (fun _ _ => rfl) rfl hg (ok_one (by kernel_rfl) rfl (okWide_bool_mk Try.underlying4 _))⟩

theorem over : Rows.schedDependsRow.holds Try.pinned (OpenSpec.ofChange Rows.schedDependsSpec) :=
  OpenClaim.holds_of_wide 6 Try.f6 rfl rfl rfl rfl rfl rfl rfl ⟨rfl, rfl, rfl, rfl, rfl⟩ rfl rfl rfl rfl rfl (by kernel_rfl) Try.func6 (by kernel_rfl)
    (of_decide_eq_true (by kernel_rfl)) (by unfold Func.isWrapper; first | (rw [if_pos (by decide +kernel)]; kernel_rfl) | (rw [if_neg (by decide +kernel)]; exact ⟨rfl, rfl⟩))
    (fun os started H enc _ => lifted os started H enc)

theorem proved : Rows.SchedDependsSaid := over
end Go.Proofs.Ytfdoaacapkopmaa
