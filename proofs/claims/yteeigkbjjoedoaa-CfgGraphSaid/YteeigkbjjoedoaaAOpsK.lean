/- One operation under the model's rules for programs; a region in the order of its text. -/
import Derived.Test.YteeigkbjjoedoaaAIns
set_option linter.unusedVariables false
set_option linter.unusedSimpArgs false
namespace Go.Abs
section
variable {P : Program}
theorem ones_vvs {w : World} {F : Nat → Prop} {ρ : Map} : ∀ {l : List AV} {t : Ty} {cs : List Value}, ones t → VR w F ρ t (.agg l) cs → VVs w F ρ l cs
  | [], t, cs, _, h => by
    cases h with
    | unit => trivial
  | x :: l, t, cs, ho, h => by
    cases h with
    | @pair a b _ _ c _ h1 h2 =>
      have hl := h1.length
      have hc : c.length = 1 := by
        rw [hl]
        have := ho.1
        cases a <;> first | rfl | cases this
      obtain ⟨v, rfl⟩ := List.length_eq_one_iff.1 hc
      have hv : toV a [v] = v := by rw [toV, ho.1]; rfl
      have h3 := VV_of_VR h1
      rw [hv] at h3
      refine ⟨?_, ones_vvs ho.2 h2⟩
      cases x with
      | tup l => cases h1
      | _ => exact h3
theorem VVs.append {w : World} {F : Nat → Prop} {ρ : Map} : ∀ {l m : List AV} {cs ds : List Value}, VVs w F ρ l cs → VVs w F ρ m ds → VVs w F ρ (l ++ m) (cs ++ ds)
  | [], m, [], ds, _, h => h
  | [], m, _ :: _, ds, h, _ => h.elim
  | _ :: _, m, [], ds, h, _ => h.elim
  | v :: l, m, c :: cs, ds, h, k => ⟨h.1, h.2.append k⟩
abbrev CallOK (P : Program) (call : FuncId → List AV → Sto → (AV → Sto → Prop) → Prop) : Prop := ∀ f args τ Q, call f args τ Q → SC P f args τ Q
theorem callV_sound {E : Env} (hE : EnvOK P E) {call} (hcall : CallOK P call) {inl : Inl Prop} (hinl : CallOK P inl) {s : St} (hS : Sim s) {v : AV} {vc : Value} (hv : s.vv v vc) {args : List AV} {cs : List Value} (ha : VVs s.w s.F s.ρ args cs) {K : AV → Sto → Prop}
    (h : callV (PA call) E inl v args s.σ K) : ∃ f fs caps, vc = .func (.func f) fs caps ∧ (∀ w, (callFunc f (fs ++ cs.toArray ++ caps)).run P w = .ok (.enter f (fs ++ cs.toArray ++ caps)) w) ∧
      Calls P f (fs ++ cs.toArray ++ caps) s.w fun e w' => ∃ v c s', e = .returned c ∧ s'.w = w' ∧ J s s' ∧ Sim s' ∧ s'.vv v c ∧ K v s'.σ := by
  unfold callV at h
  split at h
  · rename_i f first cap
    obtain ⟨tf, tc, fs, caps, rfl, h1, h2, h3, h4⟩ := VV_fn hv
    obtain ⟨hb, hk⟩ := not_match h
    clear h
    have hvs : VVs s.w s.F s.ρ (first ++ args ++ cap) (fs ++ cs ++ caps) := ((ones_vvs h1 h3).append ha).append (ones_vvs h2 h4)
    have hsc : SC P f (first ++ args ++ cap) s.σ K := by
      cases hx : (E.info f).ext with
      | true => rw [hx] at hk; exact insK_sound (hE.ext f hx) hk
      | false =>
        rw [hx] at hk
        cases hi : (E.info f).inl with
        | true => rw [hi] at hk; exact hinl _ _ _ _ hk
        | false => rw [hi] at hk; exact callK_sound hcall hk
    refine ⟨f, fs.toArray, caps.toArray, rfl, fun w => ?_, ?_⟩
    · split at hb
      · rename_i fn hfn
        obtain ⟨g1, g2⟩ := hE.fn f fn hfn
        have hbn : fn.body.isNone = false := by rw [Option.isSome_iff_exists] at hb; obtain ⟨x, hx⟩ := hb; rw [hx]; rfl
        unfold callFunc
        have hp : (program).run P w = .ok P w := rfl
        simp only [Sem.run_bind, hp, Result.andThen_ok, g1, g2, hbn, Bool.false_eq_true, if_false]
        rfl
      · cases hb
    · have := hsc s (fs ++ cs ++ caps) rfl hS hvs
      simpa using this
  · exact h.elim
theorem oper_sound {E : Env} (hE : EnvOK P E) {call} (hcall : CallOK P call) {inl : Inl Prop} (hinl : CallOK P inl) {s : St} (hS : Sim s) {fr : Fr} {a : Act} {nt : Nat} (hF : FrR s fr a nt) {o : Oper} {K : AV → Sto → Prop}
    (h : opK (PA call) E inl o fr s.σ K) {next : Act → World → Prop} {Q : Exit → Act → World → Prop}
    (hn : ∀ v s' c, J s s' → Sim s' → s'.vv v c → K v s'.σ → next (a.put o.dst c) s'.w) : o.wp P a s.w next Q := by
  cases hc : isCall o.op with
  | false =>
    obtain ⟨v, c, s', h1, h2, h3, h4, h5⟩ := opV_sound hE hS hF hc h
    unfold Oper.wp
    rw [h1]
    exact hn v s' c h2 h3 h4 h5
  | true =>
    obtain ⟨dst, op, type, pos, after, guard⟩ := o
    cases op <;> try (simp only [isCall, Bool.false_eq_true] at hc; done)
    case store t x y =>
      simp only [opK] at h
      split at h
      · rename_i ty hty
        obtain ⟨hcf, h1⟩ := bif_prop h
        obtain ⟨cs, hv, hcv⟩ := vv_conf hS (ev_vv hF (some t) y) hcf
        obtain ⟨ad, s', k1, k2, k3, k4, k5⟩ := storeK_sound hS (hE.of hty).1 (ev_vv hF none x) hv h1
        have hx : a.eval x = .pointer (some ad) := k1
        have hrun : (execOp a.eval ⟨dst, .store t x y, type, pos, after, guard⟩).run P s.w = .ok .skip s'.w := by
          show (do Instr.storeAt t (a.eval x) (a.eval y); pure Next.skip : Sem Next).run P s.w = _
          rw [hx, hcv]
          simp only [Instr.storeAt, Instr.sureAddr, Sem.run_bind, Sem.run_pure, Result.andThen_ok, k2]
        unfold Oper.wp
        rw [hrun]
        exact hn .undef s' undef k3 k4 trivial k5
      · exact h.elim
    case mapUpdate t x ix y =>
      simp only [opK] at h
      split at h
      · rename_i u id k w yv hu hx hi hy
        obtain ⟨te, hte, hu⟩ := Option.bind_eq_some_iff.1 hu
        obtain ⟨kt, ht, hk⟩ := kvOK_of (hE.kv _ _ hte)
        have v1 := ev_vv (E := E) hF none x
        rw [hx] at v1
        have v2 := ev_vv (E := E) hF none ix
        rw [hi] at v2
        have v3 := ev_vv (E := E) hF none y
        rw [hy] at v3
        obtain ⟨s', k2, k3, k4, k5⟩ := mputK_sound (P := P) hS ht hk v1 v3 h
        have hrun : (execOp a.eval ⟨dst, .mapUpdate t x ix y, type, pos, after, guard⟩).run P s.w = .ok .skip s'.w := by
          show (do Instr.mapUpdate t (a.eval x) (a.eval ix) (a.eval y); pure Next.skip : Sem Next).run P s.w = _
          rw [VV_int v2]
          simp only [Sem.run_bind, Sem.run_pure, Result.andThen_ok, k2]
        unfold Oper.wp
        rw [hrun]
        exact hn .undef s' undef k3 k4 trivial k5
      · exact h.elim
    case call c =>
      obtain ⟨callee, cargs, cts⟩ := c
      simp only [opK] at h
      cases callee with
      | builtin b =>
        dsimp only at h
        obtain ⟨v, c, s', h1, h2, h3, h4, h5⟩ := builtinK_sound hE hS (evs_vvs hF cargs.toList cts.toList) (ty := type) (consts := cargs.map fun | .const _ => true | _ => false) h
        have hrun : (execOp a.eval ⟨dst, .call ⟨.builtin b, cargs, cts⟩, type, pos, after, guard⟩).run P s.w = .ok (.value c) s'.w := by
          rw [← h1]
          have e1 : cts.toList.toArray = cts := by simp
          have e2 : (cargs.toList.map a.eval).toArray = cargs.map a.eval := Array.ext' (by rw [Array.toList_map])
          rw [e1, e2]
          rfl
        unfold Oper.wp
        rw [hrun]
        exact hn v s' c h2 h3 h4 h5
      | value f =>
        dsimp only at h
        obtain ⟨g, fs, caps, k1, k2, k3⟩ := callV_sound hE hcall hinl hS (ev_vv hF none f) (evs_vvs hF cargs.toList cts.toList) h
        have e2 : (cargs.toList.map a.eval).toArray = cargs.map a.eval := Array.ext' (by rw [Array.toList_map])
        have hrun : (execOp a.eval ⟨dst, .call ⟨.value f, cargs, cts⟩, type, pos, after, guard⟩).run P s.w = .ok (.enter g (fs ++ (cargs.toList.map a.eval).toArray ++ caps)) s.w := by
          have := k2 s.w
          rw [e2] at this ⊢
          show (do let d ← resolve a.eval ⟨.value f, cargs, cts⟩ type; invoke d.target d.args : Sem Next).run P s.w = _
          have hr : (resolve a.eval ⟨.value f, cargs, cts⟩ type).run P s.w = .ok { target := .fn (.func g) caps, args := fs ++ cargs.map a.eval } s.w := by
            have k1' : a.eval f = .func (.func g) fs caps := k1
            simp only [resolve, k1', Deferred.ofValue, Sem.run_pure]
          rw [Sem.run_bind, hr, Result.andThen_ok]
          exact this
        unfold Oper.wp
        rw [hrun]
        refine Calls.mono k3 ?_
        rintro e w' ⟨v, c, s', rfl, rfl, j1, j2, j3, j4⟩
        exact hn v s' c j1 j2 j3 j4
      | invoke r m => exact h.elim
theorem FrR.cons {s : St} {fr : Fr} {a : Act} {nt : Nat} (h : FrR s fr a nt) {t : Tmp} {v : AV} (hv : s.vv v (a.tmps.getD t undef)) : FrR s ((t, v) :: fr) a nt := by
  refine ⟨fun u => ?_, h.defers, h.size⟩
  simp only [Fr.get_cons, Fr.get_nil]
  cases hb : Nat.beq t u with
  | true => rw [beq_eq.1 hb] at hv; exact hv
  | false => exact h.get u
theorem undef_bool {b : Bool} : (undef : Value) ≠ .bool b := by intro h; cases h
theorem yielded_bool {ops : Array Oper} {tmps : Array Value} {g t : Nat} {b : Bool} (ht : (ops[g]?).bind (·.dst) = some t) (hb : tmps.getD t undef = .bool b) : yielded ops tmps g = some b := by
  unfold yielded
  rw [ht]
  simp only [Option.bind_some]
  rw [Array.getD_eq_getD_getElem?] at hb
  cases hx : tmps[t]? with
  | none => rw [hx] at hb; exact (undef_bool hb).elim
  | some x => rw [hx] at hb; simp only [Option.getD_some] at hb; rw [hb]
theorem yielded_undef {ops : Array Oper} {tmps : Array Value} {g t : Nat} (ht : (ops[g]?).bind (·.dst) = some t) (hb : tmps.getD t undef = undef) : yielded ops tmps g = none := by
  unfold yielded
  rw [ht]
  simp only [Option.bind_some]
  rw [Array.getD_eq_getD_getElem?] at hb
  cases hx : tmps[t]? with
  | none => rfl
  | some x => rw [hx] at hb; simp only [Option.getD_some] at hb; rw [hb]; rfl
theorem evOps_sound {E : Env} (hE : EnvOK P E) {call} (hcall : CallOK P call) {inl : Inl Prop} (hinl : CallOK P inl) {nt : Nat} {ops : Array Oper} {Q : Exit → Act → World → Prop} {K : Fr → Sto → Prop} :
    ∀ (r : List Oper) (k : Nat), ops.toList.drop k = r → ∀ {s : St} {fr : Fr} {a : Act}, Sim s → FrR s fr a nt → evOps (PA call) E inl nt ops r fr s.σ K →
      (∀ s' fr' a', J s s' → Sim s' → FrR s' fr' a' nt → K fr' s'.σ → Q .normal a' s'.w) → wpOps P ops Q (List.range' k (ops.size - k)) a s.w := by
  intro r
  induction r with
  | nil =>
    intro k hk s fr a hS hF h hQ
    have : ops.size ≤ k := by have := List.drop_eq_nil_iff.1 hk; simpa using this
    rw [show ops.size - k = 0 by omega]
    exact hQ s fr a (.refl s) hS hF h
  | cons o r ih =>
    intro k hk s fr a hS hF h hQ
    have hlt : k < ops.size := by
      rcases Nat.lt_or_ge k ops.size with h1 | h1
      · exact h1
      · rw [List.drop_eq_nil_iff.2 (by simpa using h1)] at hk; cases hk
    have hok : ops[k]? = some o := by
      have := congrArg (·[0]?) hk
      simpa using this
    have hr : ops.toList.drop (k + 1) = r := by
      have := congrArg (List.drop 1) hk
      rw [List.drop_drop] at this
      simpa using this
    rw [show ops.size - k = (ops.size - (k + 1)) + 1 by omega, List.range'_succ]
    simp only [wpOps, hok]
    simp only [evOps] at h
    obtain ⟨hd, h1⟩ := not_match h
    clear h
    -- the operation is carried out
    have go : ∀ {fr' : Fr}, FrR s fr' a nt → (opK (PA call) E inl o fr' s.σ fun v σ' => evOps (PA call) E inl nt ops r (fr'.set o.dst v) σ' K) → o.wp P a s.w (wpOps P ops Q (List.range' (k + 1) (ops.size - (k + 1)))) Q := by
      intro fr' hF' h
      refine oper_sound hE hcall hinl hS hF' h fun v s' c j1 j2 j3 j4 => ?_
      exact ih (k + 1) hr j2 ((hF'.mono hS j1).set hd j3) j4 fun s'' fr'' a'' l1 l2 l3 l4 => hQ s'' fr'' a'' (j1.trans l1) l2 l3 l4
    have skip : ∀ {fr' : Fr}, FrR s fr' a nt → evOps (PA call) E inl nt ops r (fr'.set o.dst .skip) s.σ K → wpOps P ops Q (List.range' (k + 1) (ops.size - (k + 1))) (a.put o.dst undef) s.w := by
      intro fr' hF' h
      exact ih (k + 1) hr hS (hF'.set hd (show s.vv .skip undef from rfl)) h hQ
    split at h1
    · rename_i hg
      have : Region.wanted o (yielded ops a.tmps) = true := by simp [Region.wanted, hg]
      rw [if_pos this]
      exact .inl (go hF h1)
    · rename_i g want hg
      split at h1
      · exact h1.elim
      · rename_i t ht
        have hv := hF.get t
        split at h1
        · rename_i hsk
          rw [hsk] at hv
          have hv : a.tmps.getD t undef = undef := hv
          have : Region.wanted o (yielded ops a.tmps) = false := by simp [Region.wanted, hg, yielded_undef ht hv]
          rw [this]
          exact skip hF h1
        · rename_i b hb
          rw [hb] at hv
          have hvb := VV_bool hv
          have hw : Region.wanted o (yielded ops a.tmps) = @BEq.beq Bool _ b want := by
            simp only [Region.wanted, hg, yielded_bool ht hvb]
            rfl
          have hyes : b = want → (opK (PA call) E inl o ((t, .d .bool want) :: fr) s.σ fun v σ' => evOps (PA call) E inl nt ops r (Fr.set ((t, .d .bool want) :: fr) o.dst v) σ' K) →
              (if Region.wanted o (yielded ops a.tmps) = true then o.wp P a s.w (wpOps P ops Q (List.range' (k + 1) (ops.size - (k + 1)))) Q ∨ (o.asks P a s.w ∧ LetsOut Q) else wpOps P ops Q (List.range' (k + 1) (ops.size - (k + 1))) (a.put o.dst undef) s.w) := fun e h => by
            have h3 : Region.wanted o (yielded ops a.tmps) = true := by rw [hw, e]; exact beq_self_eq_true want
            rw [if_pos h3]
            exact .inl (go (hF.cons (by rw [hvb, e]; exact VV_boolI _)) h)
          have hno : b = (!want) → evOps (PA call) E inl nt ops r (Fr.set ((t, .d .bool (!want)) :: fr) o.dst .skip) s.σ K →
              (if Region.wanted o (yielded ops a.tmps) = true then o.wp P a s.w (wpOps P ops Q (List.range' (k + 1) (ops.size - (k + 1)))) Q ∨ (o.asks P a s.w ∧ LetsOut Q) else wpOps P ops Q (List.range' (k + 1) (ops.size - (k + 1))) (a.put o.dst undef) s.w) := fun e h => by
            have h3 : Region.wanted o (yielded ops a.tmps) = false := by rw [hw, e]; cases want <;> rfl
            rw [h3]
            exact skip (hF.cons (by rw [hvb, e]; exact VV_boolI _)) h
          cases want with
          | true =>
            dsimp only [cond_true] at h1
            rcases br_prop h1 with ⟨hb1, h2⟩ | ⟨hb1, h2⟩
            · exact hyes hb1 h2
            · exact hno hb1 h2
          | false =>
            dsimp only [cond_false] at h1
            rcases br_prop h1 with ⟨hb1, h2⟩ | ⟨hb1, h2⟩
            · exact hno hb1 h2
            · exact hyes hb1 h2
        · exact h1.elim
end
end Go.Abs
