/- The evaluator's single operations against the model's: binary and unary operations whole. -/
import Derived.Test.YteeigkbjjoedoaaAOpsA
set_option linter.unusedVariables false
set_option linter.unusedSimpArgs false
namespace Go.Abs
section
variable {P : Program}
def plainV : Value → Bool
  | .int _ _ | .float _ _ | .complex _ _ _ | .string _ => false
  | _ => true
theorem binOp_eql {t : TypeId} {c d : Value} (h : plainV c = true) : binOp .eql t c d = (do pure (.bool (← Op.equal t c d))) := by
  cases c <;> first | (cases h; done) | rfl
theorem binOp_neq {t : TypeId} {c d : Value} (h : plainV c = true) : binOp .neq t c d = (do pure (.bool (!(← Op.equal t c d)))) := by
  cases c <;> first | (cases h; done) | rfl
theorem ite_same {α : Type} {c : Prop} [Decidable c] {x y r : α} (hx : x = r) (hy : y = r) : (if c then x else y) = r := by split <;> assumption
theorem eqGuard_run {op : BinOp} {t : TypeId} {x y : Operand} {a b : Value} {w : World} (h1 : a ≠ .nilIface) (h2 : (∃ l, a = .agg l) → P.eqGuardType P.depth t = false) : (eqGuard op t x y a b).run P w = .ok () w := by
  unfold eqGuard
  rw [Sem.run_ite]
  refine ite_same rfl ?_
  split
  · exact (h1 rfl).elim
  · rename_i l _
    simp [h2 ⟨l, rfl⟩]
  · rfl
theorem plain_of {s : St} {tp : Ty} (h : eqTy tp = true) {x : AV} {cs : List Value} (hv : VR s.w s.F s.ρ tp x cs) : plainV (toV tp cs) = true := by
  cases tp with
  | bool =>
    cases hv with
    | d hI => rename_i b; have h' : cs = [.bool b] := hI; subst h'; rfl
  | opq z =>
    cases hv with
    | d hI => have h' : cs = [z.val] := hI; subst h'; cases z <;> rfl
    | dp => rfl
    | ptr => rfl
    | fn => rfl
    | mp => rfl
  | pair a b => rfl
  | arr n e => rfl
  | _ => simp [eqTy] at h
theorem binK_sound {s : St} (hS : Sim s) {E : Env} (hE : EnvOK P E) {t : TypeId} {op : BinOp} {x y : AV} {c d : Value} {xo yo : Operand} (hx : s.vv x c) (hy : s.vv y d) (hh : ∀ ty, E.tyOf t = some ty → ty.height ≤ 9999) {K : AV → Sto → Prop}
    (h : binK (fun _ => False) s.σ op (E.tyOf t) x y fun v => K v s.σ) : Runs P s (do eqGuard op t xo yo c d; binOp op t c d) K := by
  unfold binK at h
  split at h
  · rename_i k a k' b
    have e1 := VV_int hx
    have e2 := VV_int hy
    subst e1; subst e2
    have hg : (eqGuard op t xo yo (.int k a) (.int k' b)).run P s.w = .ok () s.w := eqGuard_run (fun h => by cases h) (fun ⟨l, h⟩ => by cases h)
    split at h
    · obtain ⟨v, c, h1, h2, h3⟩ := shOp_run (P := P) (k' := k') h
      exact .same hS (by rw [Sem.run_bind, hg, Result.andThen_ok]; exact h2 t s.w) (h3 s) h1
    · obtain ⟨v, c, h1, h2, h3⟩ := shOp_run (P := P) (k' := k') h
      exact .same hS (by rw [Sem.run_bind, hg, Result.andThen_ok]; exact h2 t s.w) (h3 s) h1
    · rename_i hn1 hn2
      cases hk : k == k' with
      | false => rw [hk] at h; exact h.elim
      | true =>
        rw [hk] at h
        rw [beq_iff_eq] at hk
        subst hk
        dsimp only [cond_true] at h
        obtain ⟨v, c, h1, h2, h3⟩ := intOp_run (P := P) ⟨hn1, hn2⟩ h
        exact .same hS (by rw [Sem.run_bind, hg, Result.andThen_ok]; exact h2 t s.w) (h3 s) h1
  · rename_i a b
    obtain ⟨ba, e1, h1⟩ := VV_str hx
    obtain ⟨bb, e2, h2⟩ := VV_str hy
    subst e1; subst e2; subst h1; subst h2
    have hg : (eqGuard op t xo yo (.string ba) (.string bb)).run P s.w = .ok () s.w := eqGuard_run (fun h => by cases h) (fun ⟨l, h⟩ => by cases h)
    obtain ⟨v, c, h1, h2, h3⟩ := strOp_run (P := P) h
    exact .same hS (by rw [Sem.run_bind, hg, Result.andThen_ok]; exact h2 t s.w) (h3 s) h1
  · split at h
    · rename_i ty hty
      have ht : tyb P ty t = true := by
        unfold Env.tyOf at hty
        cases he : E.ty t with
        | none => rw [he] at hty; cases hty
        | some p =>
          rw [he] at hty
          obtain ⟨ty', b⟩ := p
          simp only [Option.map_some, Option.some.injEq] at hty
          subst hty
          exact (hE.ty t _ b he).tok
      cases hc : conf s.σ depth ty x && conf s.σ depth ty y && eqTy ty with
      | false => rw [hc] at h; exact h.elim
      | true =>
        rw [hc] at h
        simp only [Bool.and_eq_true] at hc
        obtain ⟨⟨hc1, hc2⟩, hc3⟩ := hc
        obtain ⟨cx, vx, ex⟩ := vv_conf hS hx hc1
        have hp : plainV c = true := by rw [ex]; exact plain_of hc3 vx
        dsimp only [cond_true] at h
        split at h
        · obtain ⟨b, h1, h2, h3, h4, h5⟩ := eqK_sound (P := P) hS ht (hh ty hty) hx hy hc1 hc2 h
          have h2' : (Op.equal t c d).run P s.w = .ok b s.w := h2
          exact .same hS (by rw [Sem.run_bind, eqGuard_run h4 h3, Result.andThen_ok, binOp_eql hp, Sem.run_bind, h2']; rfl) (VV_boolI _) h1
        · obtain ⟨b, h1, h2, h3, h4, h5⟩ := eqK_sound (P := P) hS ht (hh ty hty) hx hy hc1 hc2 h
          have h2' : (Op.equal t c d).run P s.w = .ok b s.w := h2
          exact .same hS (by rw [Sem.run_bind, eqGuard_run h4 h3, Result.andThen_ok, binOp_neq hp, Sem.run_bind, h2']; rfl) (VV_boolI _) h1
        · exact h.elim
    · exact h.elim
theorem slNil_val {s : St} (hS : Sim s) {x : AV} {c : Value} (hx : s.vv x c) {K : Bool → Prop} (h : slNil (fun _ => False) And s.σ x K) : ∃ a len cap, c = .slice a len cap ∧ K a.isNone := by
  unfold slNil at h
  have key : ∀ {e : Ty} {xs : List e.T} {a : Option Addr} {len cap : Nat}, ImmSl s.w s.F (Imm s.w s.F e) xs a len cap → br (List.isEmpty xs) (And (K true) (K false)) (K false) → K a.isNone := by
    intro e xs a len cap h1 h2
    obtain ⟨_, _, h3⟩ := h1
    cases xs with
    | nil =>
      have h2 : K true ∧ K false := h2
      cases a with
      | none => exact h2.1
      | some a => exact h2.2
    | cons y ys =>
      have h2 : K false := h2
      rcases h3 with h3 | ⟨ad, cs, h3, _⟩
      · cases h3
      · subst h3; exact h2
  split at h
  · obtain ⟨ty, cs, hr, rfl⟩ := hx
    cases hr
    exact ⟨none, 0, 0, rfl, h⟩
  · obtain ⟨a, len, cap, rfl, h1⟩ := VV_dsl hx
    exact ⟨a, len, cap, rfl, key h1 h⟩
  · obtain ⟨ty, cs, hr, rfl⟩ := hx
    cases hr with
    | dx h1 => exact ⟨_, _, _, rfl, key h1 h⟩
  · rename_i vid
    obtain ⟨m, a, rfl, hm, hle, ha⟩ := VV_vec hx
    split at h
    · rename_i t xs ex hg
      have ho := hS.obj vid
      rw [hg] at ho
      obtain ⟨m', k1, k2, k3, _⟩ := ho
      rw [hm] at k1
      cases k1
      refine ⟨a, m.len, m.tot, rfl, ?_⟩
      cases xs with
      | nil =>
        have h2 : K true ∧ K false := h
        cases a with
        | none => exact h2.1
        | some a => exact h2.2
      | cons y ys =>
        have h2 : K false := h
        simp at k3
        rcases ha with ha | ⟨b, _, ha⟩
        · omega
        · rw [ha]; exact h2
    · exact h.elim
  · obtain ⟨m, a, cap', rfl, h1, h2, h3, h4, h5, h6, h7, h8⟩ := VV_sl hx
    refine ⟨a, _, _, rfl, ?_⟩
    rcases br_prop h with ⟨hl, hk⟩ | ⟨hl, hk⟩
    · cases a with
      | none => exact hk.1
      | some a => exact hk.2
    · have hl := of_decide_eq_false hl
      rcases h8 with h8 | ⟨b, _, h8⟩
      · omega
      · rw [h8]; exact hk
  · exact h.elim
theorem slCmp_sound {s : St} (hS : Sim s) {t te : TypeId} (ht : P.underlying t = some (.slice te)) {op : BinOp} {x y : AV} {c d : Value} {xo yo : Operand} (hx : s.vv x c) (hy : s.vv y d) {K : AV → Sto → Prop}
    (h : slCmp (fun _ => False) And s.σ op x y fun v => K v s.σ) : Runs P s (do eqGuard op t xo yo c d; binOp op t c d) K := by
  unfold slCmp at h
  split at h
  · have hd : d = .slice none 0 0 := by
      obtain ⟨ty, cs, hr, rfl⟩ := hy
      cases hr
      rfl
    subst hd
    have he : ∀ (a : Option Addr) (len cap : Nat) (w : World), (Op.equal t (.slice a len cap) (.slice none 0 0)).run P w = .ok a.isNone w := by
      intro a len cap w
      show (Op.equalIn (9999 + 1) t (.slice a len cap) (.slice none 0 0)).run P w = .ok a.isNone w
      unfold Op.equalIn
      rw [Sem.run_bind, run_underlying ht, Result.andThen_ok]
      cases a <;> rfl
    split at h
    · obtain ⟨a, len, cap, rfl, hk⟩ := slNil_val hS hx h
      have hg : (eqGuard .eql t xo yo (.slice a len cap) (.slice none 0 0)).run P s.w = .ok () s.w := eqGuard_run (fun h => by cases h) (fun ⟨l, h⟩ => by cases h)
      refine .same hS (c := .bool a.isNone) ?_ (VV_boolI _) hk
      rw [Sem.run_bind, hg, Result.andThen_ok]
      simp [binOp, he]
    · obtain ⟨a, len, cap, rfl, hk⟩ := slNil_val hS hx h
      have hg : (eqGuard .neq t xo yo (.slice a len cap) (.slice none 0 0)).run P s.w = .ok () s.w := eqGuard_run (fun h => by cases h) (fun ⟨l, h⟩ => by cases h)
      refine .same hS (c := .bool (!a.isNone)) ?_ (VV_boolI _) hk
      rw [Sem.run_bind, hg, Result.andThen_ok]
      simp [binOp, he]
    · exact h.elim
  · exact h.elim
end
end Go.Abs
