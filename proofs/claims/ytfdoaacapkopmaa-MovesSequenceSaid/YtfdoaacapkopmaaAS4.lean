/- The package moves: Sequence makes copies that do what all moves do at once: the law MovesSequence answers true, whatever the moves are. No condition. -/
import Derived.Test.YtfdoaacapkopmaaRows
import Derived.Test.YtfdoaacapkopmaaAW4
import Derived.Test.YtfdoaacapkopmaaAP4
import Derived.Test.YtfdoaacapkopmaaARow5
import Derived.ProofKit
import Derived.OpenShut
namespace Go.Proofs.Ytfdoaacapkopmaa
open Go.Abs Go.ChangeShapes Go.WideShapes Go.ChangeAt Go.RowKit
set_option linter.unusedVariables false
set_option maxRecDepth 100000

theorem own : ownKnob Try.prog.godebug = none := by kernel_rfl
theorem laid : laidOutB Try.prog = true := by kernel_rfl
theorem e3 : ∀ p ∈ fnTab, Try.prog.funcs[p.1]? = some p.2 := all_cons Try.func4 (all_cons Try.func20 (all_cons Try.func21 (all_cons Try.func22 (all_cons Try.func92 (all_cons Try.func93 (all_cons Try.func94 (all_cons Try.func95 (all_cons Try.func96 (all_cons Try.func97 (all_cons Try.func98 (all_cons Try.func99 (all_cons Try.func100 (all_nil)))))))))))))
theorem envOK : EnvOK Try.prog E := envOK_of e1 e2 e3 e4 e5

theorem acall (x0 : Ty.T (.sl mvT)) (x1 : Ty.T (.int .i64)) (g0 : Go.Abs.Good (.sl mvT) x0) (g1 : Go.Abs.Good (.int .i64) x1) : ACall E 4 [.d (.sl mvT) x0, .d (.int .i64) x1] [] fun v _ => v = .d .bool true :=
  h4 _ _ _ (show c4 x0 x1 (fun z => B z = .d .bool true) from law4 g0 g1 rfl)

theorem lifted (os : Os) (started : os.Started) (H : Type) (enc : TypeId × Value → H) :
    ReturnsInHanded {} Try.checked os 4 .any (Rows.movesSequenceSpec.pre6 enc Try.prog Try.f4 Rows.movesSequenceRow.domain false) (Rows.movesSequenceSpec.post enc Try.prog Try.f4 false true false false) := by
  refine returnsInHanded_of_change (C := Try.checked) own started (by kernel_rfl) Try.func4
    (ChangeSpec.witness6 (enc := enc) (C := Try.checked) false ⟨#[], #[.slice none 0 0, .int .i64 0], []⟩ 8 (by kernel_rfl) (by kernel_rfl) (by kernel_rfl) (by kernel_rfl)) ?_
  intro W base args ds gs before hval0 hW hcnd _
  have hval : ∀ (j : Nat) t v, Try.f4.params[j]? = some t → args[j]? = some v → Value.okWide Try.prog W .any base t v := hval0
  have hW' := hW
  obtain ⟨p, q, hA0, hV, rfl, hfz, hnd⟩ := hW
  have hA : DataW.TrodAll enc Try.prog W 0 (fun _ => true) true Try.f4.params.toList args.toList ds p := hA0
  have hA1 := hA
  rw [Try.params4] at hA hval
  obtain ⟨v0, vs0, d0, ds0, p0, q0, hargs, rfl, rfl, h0, r0⟩ := trodAll_cons hA
  obtain ⟨v1, vs1, d1, ds1, p1, q1, rfl, rfl, rfl, h1, r1⟩ := trodAll_cons r0
  obtain ⟨rfl, rfl, rfl⟩ := trodAll_nil r1
  obtain rfl : args = #[v0, v1] := by cases args; simp_all
  obtain ⟨rfl, rfl⟩ := trodVars_none hV
  obtain ⟨x0, g0, i0⟩ := arg_data (P := Try.prog) (ty := (.sl mvT)) (by kernel_rfl) (by kernel_rfl) (hval 0 34 v0 rfl rfl) h0
  obtain ⟨x1, g1, i1⟩ := arg_data (P := Try.prog) (ty := (.int .i64)) (by kernel_rfl) (by kernel_rfl) (hval 1 3 v1 rfl rfl) h1
  refine (law_calls envOK (i0 (i1 .nil)) (acall x0 x1 g0 g1)).mono fun e W' ⟨he, hg⟩ => ?_
  subst he
  exact ⟨_, rfl, post_same (pa := (p0 ++ (p1 ++ []))) (pv := []) hW' (fun _ _ _ => trodAll_cons_mk (shut_bool Try.underlying4 _) trodAll_mk0)
    (fun sp hsp => args_stay laid hg.below hA1 (by kernel_rfl) (fun x hx => hW'.lt x (List.mem_append_left _ hx)) sp (fun x hx => hsp x (List.mem_append_left _ hx)))
    (fun _ _ => rfl) rfl hg (ok_one (by kernel_rfl) rfl (okWide_bool_mk Try.underlying4 _))⟩

theorem over : Rows.movesSequenceRow.holds Try.pinned (OpenSpec.ofChange Rows.movesSequenceSpec) :=
  OpenClaim.holds_of_wide 4 Try.f4 rfl rfl rfl rfl rfl rfl rfl ⟨rfl, rfl, rfl, rfl, rfl⟩ rfl rfl rfl rfl rfl (by kernel_rfl) Try.func4 (by kernel_rfl)
    (of_decide_eq_true (by kernel_rfl)) (by unfold Func.isWrapper; first | (rw [if_pos (by decide +kernel)]; kernel_rfl) | (rw [if_neg (by decide +kernel)]; exact ⟨rfl, rfl⟩))
    (fun os started H enc _ => lifted os started H enc)

theorem proved : Rows.MovesSequenceSaid := over
end Go.Proofs.Ytfdoaacapkopmaa
