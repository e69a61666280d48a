/- The evaluator's single operations against the model's: all that are no calls. -/
import Derived.Test.YteeigkbjjoedoaaAOpsE
set_option linter.unusedVariables false
set_option linter.unusedSimpArgs false
namespace Go.Abs
section
variable {P : Program}
def OpRuns (P : Program) (s : St) (x : Sem Next) (K : AV → Sto → Prop) : Prop :=
  ∃ v c s', x.run P s.w = .ok (.value c) s'.w ∧ J s s' ∧ Sim s' ∧ s'.vv v c ∧ K v s'.σ
theorem Runs.op {s : St} {x : Sem Value} {K : AV → Sto → Prop} (h : Runs P s x K) : OpRuns P s (do pure (.value (← x))) K := by
  obtain ⟨v, c, s', h1, h2⟩ := h
  exact ⟨v, c, s', by rw [Sem.run_bind, h1]; rfl, h2⟩
theorem OpRuns.same {s : St} (hS : Sim s) {x : Sem Next} {K : AV → Sto → Prop} {v : AV} {c : Value} (hr : x.run P s.w = .ok (.value c) s.w) (hv : s.vv v c) (h : K v s.σ) : OpRuns P s x K :=
  ⟨v, c, s, hr, .refl s, hS, hv, h⟩
theorem tyOf_some {E : Env} {t : TypeId} {ty : Ty} (h : E.tyOf t = some ty) : ∃ b, E.ty t = some (ty, b) := by
  unfold Env.tyOf at h
  cases he : E.ty t with
  | none => rw [he] at h; cases h
  | some p => rw [he] at h; obtain ⟨a, b⟩ := p; cases h; exact ⟨b, rfl⟩
theorem EnvOK.of {E : Env} (hE : EnvOK P E) {t : TypeId} {ty : Ty} (h : E.tyOf t = some ty) : tyb P ty t = true ∧ ty.csz ≠ 0 ∧ ty.height ≤ 9999 := by
  obtain ⟨b, hb⟩ := tyOf_some h
  have := hE.ty t ty b hb
  exact ⟨this.tok, this.pos, this.hgt⟩
theorem tyb_under {ty : Ty} {t : TypeId} (h : tyb P ty t = true) : ∃ d, P.underlying t = some d := by
  cases ty with
  | int k =>
    simp only [tyb, Bool.and_eq_true] at h
    have h2 := h.2
    split at h2
    · rename_i hu; exact ⟨_, hu⟩
    · cases h2
  | bool =>
    simp only [tyb, Bool.and_eq_true] at h
    have h2 := h.2
    split at h2
    · rename_i hu; exact ⟨_, hu⟩
    · cases h2
  | str => exact ⟨_, str_under h⟩
  | opq z => obtain ⟨d, h, _⟩ := opq_under h; exact ⟨d, h⟩
  | sl e => obtain ⟨te, h, _⟩ := sl_under h; exact ⟨_, h⟩
  | pair a b => obtain ⟨te, h, _⟩ := pair_under h; exact ⟨_, h⟩
  | unit =>
    simp only [tyb, Bool.and_eq_true] at h
    have h2 := h.2
    split at h2
    · rename_i hu; exact ⟨_, hu⟩
    · cases h2
  | arr n e => obtain ⟨te, h, _⟩ := arr_under h; exact ⟨_, h⟩
theorem int_under {k : IntKind} {t : TypeId} (h : tyb P (.int k) t = true) : P.underlying t = some (.int k) := by
  simp only [tyb, Bool.and_eq_true] at h
  have h2 := h.2
  split at h2
  · rename_i k' hu
    have : k = k' := by simpa using h2
    rw [this]; exact hu
  · cases h2
theorem intOf_some {v : AV} {n : Int} (h : intOf v = some n) : ∃ k, v = .d (.int k) n := by
  unfold intOf at h
  split at h
  · cases h; exact ⟨_, rfl⟩
  · cases h
theorem boolOf_some {v : AV} {b : Bool} (h : boolOf v = some b) : v = .d .bool b := by
  unfold boolOf at h
  split at h
  · cases h; rfl
  · cases h
theorem optI_prop {E : Env} {s : St} {fr : Fr} {a : Act} {nt : Nat} (hF : FrR s fr a nt) {x : Option Operand} {K : Option Int → Prop} (h : optI (fun _ => False) E fr x K) : ∃ i, K i ∧ OptV i (x.map a.eval) ∧ i.isSome = x.isSome := by
  unfold optI at h
  split at h
  · exact ⟨none, h, by simp [OptV], rfl⟩
  · rename_i o
    split at h
    · rename_i n hn
      obtain ⟨k, hk⟩ := intOf_some hn
      have := ev_vv (E := E) hF none o
      rw [hk] at this
      have hc := VV_int this
      exact ⟨some n, h, by simp [OptV, hc], rfl⟩
    · exact h.elim
theorem vvs_single {w : World} {F : Nat → Prop} {ρ : Map} : ∀ {l : List AV} {cs : List Value}, VVs w F ρ l cs → l.all single = true → ∃ t, ones t ∧ VR w F ρ t (.agg l) cs
  | [], [], _, _ => ⟨.unit, trivial, .unit⟩
  | [], _ :: _, h, _ => h.elim
  | _ :: _, [], h, _ => h.elim
  | v :: l, c :: cs, h, hs => by
    simp only [List.all_cons, Bool.and_eq_true] at hs
    obtain ⟨t, h1, h2⟩ := vvs_single h.2 hs.2
    have hv : ∃ u ds, VR w F ρ u v ds ∧ c = toV u ds := by
      have := h.1
      cases v <;> first | exact this | (cases hs.1; done)
    obtain ⟨u, ds, h3, h4⟩ := hv
    have hu : u.isA = false ∧ ds.length = 1 := by
      cases h3 with
      | @d u x _ h =>
        have h5 : u.isA = false := by simpa [single] using hs.1
        refine ⟨h5, ?_⟩
        rw [h.length]
        cases u <;> first | rfl | cases h5
      | unit => cases hs.1
      | pair _ _ => cases hs.1
      | _ => exact ⟨rfl, rfl⟩
    obtain ⟨x, hx⟩ := List.length_eq_one_iff.1 hu.2
    subst hx
    have hc : c = x := by rw [h4, toV, hu.1]; rfl
    subst hc
    exact ⟨.pair u t, ⟨hu.1, h1⟩, by simpa using VR.pair h3 h2⟩
theorem noTup_vv1 {w : World} {F : Nat → Prop} {ρ : Map} {v : AV} {c : Value} (h : VV w F ρ v c) : VV1 w F ρ (noTup v) c := by
  cases v with
  | tup l => trivial
  | _ => exact h
theorem evs_vvs {E : Env} {s : St} {fr : Fr} {a : Act} {nt : Nat} (hF : FrR s fr a nt) : ∀ (l : List Operand) (ts : List TypeId), VVs s.w s.F s.ρ (evs E fr l ts) (l.map a.eval)
  | [], _ => trivial
  | o :: r, ts => ⟨noTup_vv1 (ev_vv hF _ o), evs_vvs hF r ts.tail⟩
theorem parts_pv {E : Env} {s : St} {fr : Fr} {a : Act} {nt : Nat} (hF : FrR s fr a nt) (t : Option TypeId) : ∀ (l : List (Nat × Operand)), PartsV s (l.map fun p => (p.1, ev E fr t p.2)) (l.map fun p => (p.1, a.eval p.2))
  | [] => .nil
  | p :: r => .cons (ev_vv hF t p.2) (parts_pv hF t r)
theorem parts_ps {E : Env} {s : St} {fr : Fr} {a : Act} {nt : Nat} (hF : FrR s fr a nt) {ty : Ty} : ∀ (l : List (Nat × Operand)),
    (l.map fun p => (p.1, ev E fr none p.2)).all (fun p => match fieldTy ty p.1 with | some u => conf s.σ depth u p.2 | none => false) = true → PartsS s ty (l.map fun p => (p.1, ev E fr none p.2)) (l.map fun p => (p.1, a.eval p.2))
  | [], _ => .nil
  | p :: r, h => by
    simp only [List.map_cons, List.all_cons, Bool.and_eq_true] at h
    have h1 := h.1
    split at h1
    · rename_i u hu
      exact .cons hu h1 (ev_vv hF none p.2) (parts_ps hF r h.2)
    · cases h1
theorem buildArr_sound {s : St} (hS : Sim s) {t : TypeId} {n : Nat} {e : Ty} (ht : tyb P (.arr n e) t = true) (hf : e.flat = true) {ps : List (Nat × AV)} {qs : List (Nat × Value)} (hq : PartsV s ps qs) {l : List e.T}
    (hl : litD s.σ e (List.replicate n e.zero) ps = some l) {K : AV → Sto → Prop} (h : K (.d (.arr n e) l) s.σ) : Runs P s (Instr.build t qs.toArray) K := by
  obtain ⟨te, hu, he, hpos⟩ := arr_under ht
  obtain ⟨r1, cs', r2, r3⟩ := fill_row hS (F' := (s.kill (ps.flatMap fun p => p.2.ids depth)).F) (fun b hb => St.kill_F _ hb) hl hq (zero_imms e n) (fun p hp id hid hlive m b hm hb => St.kill_blk _ (List.mem_flatMap.2 ⟨p, hp, hid⟩) hlive m b hm hb)
  have hI : Imm s.w s.F (.arr n e) l cs' := ⟨by rw [r1]; simp, ImmL.mono (fun _ _ _ h => h.flat hf) r3⟩
  refine .same hS (c := .agg cs'.toArray) ?_ (VV_dI hI) h
  have hzc : (toV (.arr n e) (zcells (.arr n e))).cells = (List.replicate n (zcells e)).flatten.toArray := toV_cells (zcells_len (.arr n e)) (zcells_one (.arr n e))
  simp only [Instr.build, Sem.run_bind, run_zeroValue' ht s.w, Result.andThen_ok, run_underlying hu s.w, run_sizeOf' he s.w, hzc, r2]
  rfl
theorem foldMax {k : IntKind} : ∀ {r : List AV} {a : Int} {w : World} {F : Nat → Prop} {ρ : Map} {cs : List Value} {K : AV → Prop} {call : FuncId → List AV → Sto → (AV → Sto → Prop) → Prop}, builtinK.foldI (PA call) maxI k a r K → VVs w F ρ r cs →
    ∃ b, K (.d (.int k) b) ∧ ∀ w', (cs.foldlM Builtin.max2 (.int k a)).run P w' = .ok (.int k b) w'
  | [], a, w, F, ρ, cs, K, call, h, hv => by
    cases cs with
    | nil => exact ⟨a, h, fun _ => rfl⟩
    | cons _ _ => exact hv.elim
  | v :: r, a, w, F, ρ, cs, K, call, h, hv => by
    cases cs with
    | nil => exact hv.elim
    | cons c cs =>
      unfold builtinK.foldI at h
      split at h
      · rename_i heq; cases heq
      · rename_i K1 k' b r1 heq
        cases heq
        cases hk : k == k' with
        | false => rw [hk] at h; exact h.elim
        | true =>
          rw [hk] at h
          have hc := VV_int hv.1
          subst hc
          obtain ⟨b', h1, h2⟩ := foldMax h hv.2
          refine ⟨b', h1, fun w' => ?_⟩
          rw [List.foldlM_cons, Sem.run_bind]
          exact h2 w'
      · exact h.elim
theorem foldMin {k : IntKind} : ∀ {r : List AV} {a : Int} {w : World} {F : Nat → Prop} {ρ : Map} {cs : List Value} {K : AV → Prop} {call : FuncId → List AV → Sto → (AV → Sto → Prop) → Prop}, builtinK.foldI (PA call) minI k a r K → VVs w F ρ r cs →
    ∃ b, K (.d (.int k) b) ∧ ∀ w', (cs.foldlM Builtin.min2 (.int k a)).run P w' = .ok (.int k b) w'
  | [], a, w, F, ρ, cs, K, call, h, hv => by
    cases cs with
    | nil => exact ⟨a, h, fun _ => rfl⟩
    | cons _ _ => exact hv.elim
  | v :: r, a, w, F, ρ, cs, K, call, h, hv => by
    cases cs with
    | nil => exact hv.elim
    | cons c cs =>
      unfold builtinK.foldI at h
      split at h
      · rename_i heq; cases heq
      · rename_i K1 k' b r1 heq
        cases heq
        cases hk : k == k' with
        | false => rw [hk] at h; exact h.elim
        | true =>
          rw [hk] at h
          have hc := VV_int hv.1
          subst hc
          obtain ⟨b', h1, h2⟩ := foldMin h hv.2
          refine ⟨b', h1, fun w' => ?_⟩
          rw [List.foldlM_cons, Sem.run_bind]
          exact h2 w'
      · exact h.elim
end
end Go.Abs
