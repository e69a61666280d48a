/- The package debug: Check, Find and Where answer what the marks say: the law DebugSays answers true, whatever the marks, the address and the line are. No condition. -/
import Derived.Test.YtfdoaacapkopmaaRows
import Derived.Test.YtfdoaacapkopmaaAW7
import Derived.Test.YtfdoaacapkopmaaAP7
import Derived.Test.YtfdoaacapkopmaaARow6
import Derived.SizedLaws
import Derived.ProofKit
import Derived.OpenShut
namespace Go.Proofs.Ytfdoaacapkopmaa
open Go.Abs Go.ChangeShapes Go.WideShapes Go.ChangeAt Go.RowKit
set_option linter.unusedVariables false
set_option maxRecDepth 100000

theorem own : ownKnob Try.prog.godebug = none := by kernel_rfl
theorem laid : laidOutB Try.prog = true := by kernel_rfl
theorem e3 : ∀ p ∈ fnTab, Try.prog.funcs[p.1]? = some p.2 := all_cons Try.func7 (all_cons Try.func32 (all_cons Try.func38 (all_cons Try.func39 (all_cons Try.func40 (all_cons Try.func41 (all_cons Try.func106 (all_cons Try.func110 (all_cons Try.func111 (all_cons Try.func135 (all_cons Try.func158 (all_cons Try.func159 (all_cons Try.func165 (all_nil)))))))))))))
theorem envOK : EnvOK Try.prog E := envOK_of e1 e2 e3 e4 e5

theorem acall (x0 : Ty.T (.sl mkT)) (x1 : Ty.T (.int .i64)) (x2 : Ty.T (.int .i64)) (g0 : Go.Abs.Good (.sl mkT) x0 ∧ Go.Abs.Sz (.sl mkT) x0) (g1 : Go.Abs.Good (.int .i64) x1 ∧ Go.Abs.Sz (.int .i64) x1) (g2 : Go.Abs.Good (.int .i64) x2 ∧ Go.Abs.Sz (.int .i64) x2) : ACall E 7 [.d (.sl mkT) x0, .d (.int .i64) x1, .d (.int .i64) x2] [] fun v _ => v = .d .bool true :=
  h7 _ _ _ (show c7 x0 x1 x2 (fun z => B z = .d .bool true) from law7 g0 g1 g2 rfl)

theorem lifted (os : Os) (started : os.Started) (H : Type) (enc : TypeId × Value → H) :
    ReturnsInHanded {} Try.checked os 7 .any (Rows.debugSaysSpec.pre6 enc Try.prog Try.f7 Rows.debugSaysRow.domain false) (Rows.debugSaysSpec.post enc Try.prog Try.f7 false true false false) := by
  refine returnsInHanded_of_change_sized (C := Try.checked) own started (by kernel_rfl) Try.func7
    (ChangeSpec.witness6 (enc := enc) (C := Try.checked) false ⟨#[], #[.slice none 0 0, .int .i64 0, .int .i64 0], []⟩ 8 (by kernel_rfl) (by kernel_rfl) (by kernel_rfl) (by kernel_rfl)) ?_
  intro W base args ds gs before hval0 hW hcnd hz0 _
  have hval : ∀ (j : Nat) t v, Try.f7.params[j]? = some t → args[j]? = some v → Value.okWide Try.prog W .any base t v := hval0
  have hW' := hW
  obtain ⟨p, q, hA0, hV, rfl, hfz, hnd⟩ := hW
  have hA : DataW.TrodAll enc Try.prog W 0 (fun _ => true) true Try.f7.params.toList args.toList ds p := hA0
  have hA1 := hA
  rw [Try.params7] at hA hval
  obtain ⟨v0, vs0, d0, ds0, p0, q0, hargs, rfl, rfl, h0, r0⟩ := trodAll_cons hA
  obtain ⟨v1, vs1, d1, ds1, p1, q1, rfl, rfl, rfl, h1, r1⟩ := trodAll_cons r0
  obtain ⟨v2, vs2, d2, ds2, p2, q2, rfl, rfl, rfl, h2, r2⟩ := trodAll_cons r1
  obtain ⟨rfl, rfl, rfl⟩ := trodAll_nil r2
  obtain rfl : args = #[v0, v1, v2] := by cases args; simp_all
  obtain ⟨rfl, rfl⟩ := trodVars_none hV
  have hz1 : (DataW.weightsEach Try.prog (Try.f7.params.toList ++ []) ((d0 :: d1 :: d2 :: []) ++ [])).all (· ≤ reachBytes) = true := hz0
  have z0 : ∀ n ∈ DataW.weightsEach Try.prog Try.f7.params.toList (d0 :: d1 :: d2 :: []), n ≤ reachBytes := fun n hn => by have := List.all_eq_true.1 hz1 n (by rw [List.append_nil, List.append_nil]; exact hn); exact of_decide_eq_true this
  rw [Try.params7] at z0
  obtain ⟨w0, z1⟩ := weights_head z0
  obtain ⟨w1, z2⟩ := weights_head z1
  obtain ⟨w2, z3⟩ := weights_head z2
  obtain ⟨x0, g0, i0⟩ := arg_sized (P := Try.prog) (ty := (.sl mkT)) (by kernel_rfl) (by kernel_rfl) (by kernel_rfl) (hval 0 55 v0 rfl rfl) h0 w0
  obtain ⟨x1, g1, i1⟩ := arg_sized (P := Try.prog) (ty := (.int .i64)) (by kernel_rfl) (by kernel_rfl) (by kernel_rfl) (hval 1 3 v1 rfl rfl) h1 w1
  obtain ⟨x2, g2, i2⟩ := arg_sized (P := Try.prog) (ty := (.int .i64)) (by kernel_rfl) (by kernel_rfl) (by kernel_rfl) (hval 2 3 v2 rfl rfl) h2 w2
  refine (law_calls envOK (i0 (i1 (i2 .nil))) (acall x0 x1 x2 g0 g1 g2)).mono fun e W' ⟨he, hg⟩ => ?_
  subst he
  exact ⟨_, rfl, post_same (pa := (p0 ++ (p1 ++ (p2 ++ [])))) (pv := []) hW' (fun _ _ _ => trodAll_cons_mk (shut_bool Try.underlying4 _) trodAll_mk0)
    (fun sp hsp => args_stay laid hg.below hA1 (by kernel_rfl) (fun x hx => hW'.lt x (List.mem_append_left _ hx)) sp (fun x hx => hsp x (List.mem_append_left _ hx)))
    (fun _ _ => rfl) rfl hg (ok_one (by kernel_rfl) rfl (okWide_bool_mk Try.underlying4 _))⟩

theorem over : Rows.debugSaysRow.holds Try.pinned (OpenSpec.ofChange Rows.debugSaysSpec) :=
  OpenClaim.holds_of_wide 7 Try.f7 rfl rfl rfl rfl rfl rfl rfl ⟨rfl, rfl, rfl, rfl, rfl⟩ rfl rfl rfl rfl rfl (by kernel_rfl) Try.func7 (by kernel_rfl)
    (of_decide_eq_true (by kernel_rfl)) (by unfold Func.isWrapper; first | (rw [if_pos (by decide +kernel)]; kernel_rfl) | (rw [if_neg (by decide +kernel)]; exact ⟨rfl, rfl⟩))
    (fun os started H enc _ => lifted os started H enc)

theorem proved : Rows.DebugSaysSaid := over
end Go.Proofs.Ytfdoaacapkopmaa
