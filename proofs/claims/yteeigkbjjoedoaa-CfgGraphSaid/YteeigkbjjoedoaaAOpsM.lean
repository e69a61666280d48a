/- The evaluator against the model: code. -/
import Derived.Test.YteeigkbjjoedoaaAOpsL
import Derived.Test.YteeigkbjjoedoaaAPlan
import Derived.LoopN
set_option linter.unusedVariables false
set_option linter.unusedSimpArgs false
namespace Go.Abs
section
variable {P : Program}
def KQ (s0 : St) (nt : Nat) (K : Exit → Fr → Sto → Prop) (Q : Exit → Act → World → Prop) : Prop :=
  ∀ e s fr a, J s0 s → Sim s → FrR s fr a nt → K e fr s.σ → Q e a s.w
theorem cut_sound {s0 s : St} (hS : Sim s) (hJ : J s0 s) {keep : List (Nat × List Nat)} {r : Option Nat} {fr : Fr} {a : Act} {nt : Nat} (hF : FrR s fr a nt) {K : Fr → Sto → Prop} (h : cutK (fun _ => False) keep s0.σ.length r fr s.σ K) :
    ∃ s' fr', K fr' s'.σ ∧ Sim s' ∧ J s0 s' ∧ FrR s' fr' a nt ∧ s'.w = s.w := by
  unfold cutK at h
  split at h
  · rename_i L hL
    obtain ⟨c1, c2, _⟩ := closeS_ok hS (m := s0.σ.length) (roots := L.flatMap fun t => (Fr.get fr t).ids depth)
    obtain ⟨s1, fr1, j1, j2, j3, j4, j5⟩ := norm_ok c1 (hJ.trans c2) (⟨hF.get, hF.defers, hF.size⟩ : FrR ⟨s.w, s.F, s.ρ, closeS s0.σ.length (L.flatMap fun t => (Fr.get fr t).ids depth) s.σ⟩ fr a nt) h
    obtain ⟨s', fr', k1, k2, k3, k4, k5⟩ := norm_ok j2 j3 j4 j1
    obtain ⟨w1, w2⟩ := k2.weak
    exact ⟨_, fr', k1, w1, k3.trans w2, k4.mono k2 w2, k5.trans j5⟩
  · exact ⟨s, fr, h, hS, hJ, hF, rfl⟩
def DrawOK (P : Program) (E : Env) (call : FuncId → List AV → Sto → (AV → Sto → Prop) → Prop) (inl : Inl Prop) : Prop :=
  ∀ (ops : Array Oper) (nt m : Nat) (K : Fr → Sto → Prop) (id : Nat) (Q : Exit → Act → World → Prop) (s0 s : St) (fr : Fr) (a : Act), J s0 s → Sim s → FrR s fr a nt → evDraw (PA call) E inl nt m ops fr s.σ K →
    (∀ s' fr' a', J s0 s' → Sim s' → FrR s' fr' a' nt → K fr' s'.σ → Q .normal a' s'.w) → (Code.region id ops true).wp P Q a s.w
theorem live_get {s : St} {get : Tmp → Value} {fr : Fr} (h : ∀ t, s.vv (Fr.get fr t) (get t)) (L : List Nat) (t : Nat) : s.vv (Fr.get (L.map fun t => (t, Fr.get fr t)) t) (get t) :=
  fr_all (fun p hp => by
    obtain ⟨u, _, rfl⟩ := List.mem_map.1 hp
    exact h u) t
theorem FrR.live {s : St} {fr : Fr} {a : Act} {nt : Nat} (h : FrR s fr a nt) (keep : List (Nat × List Nat)) (id : Nat) : FrR s (liveF keep id fr) a nt := by
  unfold liveF
  split
  · exact ⟨fun t => live_get h.get _ t, h.defers, h.size⟩
  · exact h
theorem evC_sound {E : Env} (hE : EnvOK P E) {call} (hcall : CallOK P call) {inl : Inl Prop} (hinl : CallOK P inl) (hdraw : DrawOK P E call inl) {s0 : St} {keep : List (Nat × List Nat)} {nt : Nat} :
    ∀ (c : Code) {K : Exit → Fr → Sto → Prop} {Q : Exit → Act → World → Prop} {s : St} {fr : Fr} {a : Act}, Sim s → J s0 s → FrR s fr a nt → evC ⟨PA call, E, inl, keep, s0.σ.length, nt⟩ c K fr s.σ → KQ s0 nt K Q → c.wp P Q a s.w := by
  intro c
  induction c with
  | skip => intro K Q s fr a hS hJ hF h hQ; exact wp_skip (hQ _ s fr a hJ hS hF h)
  | ret => intro K Q s fr a hS hJ hF h hQ; exact wp_ret (hQ _ s fr a hJ hS hF h)
  | exit id => intro K Q s fr a hS hJ hF h hQ; exact wp_exit (hQ _ s fr a hJ hS hF h)
  | region id ops draw =>
    intro K Q s fr a hS hJ hF h hQ
    obtain ⟨s', fr', h1, hS', hJ', hF', hw⟩ := cut_sound hS hJ hF h
    rw [← hw]
    have hF' := hF'.live keep id
    unfold regK at h1
    cases draw with
    | false =>
      have h2 := h1
      refine wp_region ?_
      have := evOps_sound hE hcall hinl (ops := ops) (Q := Q) ops.toList 0 (by simp) hS' hF' h2 (fun s'' fr'' a'' j1 j2 j3 j4 => hQ _ s'' fr'' a'' (hJ'.trans j1) j2 j3 j4)
      rw [List.range_eq_range']
      simpa using this
    | true =>
      dsimp only [cond_true] at h1
      split at h1
      · rename_i p _
        rw [evDrawP_eq] at h1
        cases hp : planOk E.dl nt (p.headD 0) ops (decP p.tail) with
        | false => rw [hp] at h1; exact h1.elim
        | true =>
          rw [hp] at h1
          exact hdraw ops nt _ _ id Q s0 s' _ a hJ' hS' hF' h1 (fun s'' fr'' a'' j1 j2 j3 j4 => hQ _ s'' fr'' a'' j1 j2 j3 j4)
      · exact hdraw ops nt _ _ id Q s0 s' _ a hJ' hS' hF' h1 (fun s'' fr'' a'' j1 j2 j3 j4 => hQ _ s'' fr'' a'' j1 j2 j3 j4)
  | seq x y ihx ihy =>
    intro K Q s fr a hS hJ hF h hQ
    refine wp_seq (ihx hS hJ hF h ?_)
    intro e s' fr' a' j1 j2 j3 j4
    cases e with
    | normal =>
      simp only [thenK] at j4
      unfold joinK at j4
      dsimp only at j4
      split at j4
      · obtain ⟨s1, fr1, h1, hS1, hJ1, hF1, hw⟩ := cut_sound j2 j1 j3 j4
        rw [← hw]
        refine ihy hS1 hJ1 hF1 h1 ?_
        intro e s2 fr2 a2 i1 i2 i3 i4
        unfold endCut at i4
        obtain ⟨s3, fr3, h3, hS3, hJ3, hF3, hw3⟩ := cut_sound i2 i1 i3 i4
        rw [← hw3]
        exact hQ _ s3 fr3 a2 hJ3 hS3 hF3 h3
      · exact ihy j2 j1 j3 j4 hQ
    | _ => exact hQ _ s' fr' a' j1 j2 j3 j4
  | block id c ih =>
    intro K Q s fr a hS hJ hF h hQ
    refine wp_block (ih hS hJ hF h ?_)
    intro e s' fr' a' j1 j2 j3 j4
    cases e with
    | exit j =>
      simp only [blockK] at j4
      simp only [Exit.inBlock]
      cases hb : Nat.beq j id with
      | true =>
        rw [hb] at j4
        rw [if_pos (beq_eq.1 hb)]
        exact hQ _ s' fr' a' j1 j2 j3 j4
      | false =>
        rw [hb] at j4
        rw [if_neg (fun h => by rw [beq_eq.2 h] at hb; cases hb)]
        exact hQ _ s' fr' a' j1 j2 j3 j4
    | _ => exact hQ _ s' fr' a' j1 j2 j3 j4
  | cond c x y ihx ihy =>
    intro K Q s fr a hS hJ hF h hQ
    simp only [evC, condK] at h
    split at h
    · rename_i b hb
      have hv := ev_vv (E := E) hF none c
      rw [boolOf_some hb] at hv
      have hv := VV_bool hv
      cases c with
      | tmp t =>
        dsimp only at h
        rcases br_prop h with ⟨rfl, h1⟩ | ⟨rfl, h1⟩
        · exact wp_cond_true hv (ihx hS hJ (hF.cons (t := t) (by
            have e : a.tmps.getD t undef = .bool true := hv
            rw [e]; exact VV_boolI _)) h1 hQ)
        · exact wp_cond_false hv (ihy hS hJ (hF.cons (t := t) (by
            have e : a.tmps.getD t undef = .bool false := hv
            rw [e]; exact VV_boolI _)) h1 hQ)
      | _ =>
        dsimp only at h
        rcases br_prop h with ⟨rfl, h1⟩ | ⟨rfl, h1⟩
        · exact wp_cond_true hv (ihx hS hJ hF h1 hQ)
        · exact wp_cond_false hv (ihy hS hJ hF h1 hQ)
    · exact h.elim
  | loop c ih =>
    intro K Q s fr a hS hJ hF h hQ
    obtain ⟨s1, fr1, h1, hS1, hJ1, hF1, hw⟩ := cut_sound hS hJ hF h
    rw [← hw]
    have key := h1 (fun fr σ => ∀ s a, s.σ = σ → Sim s → J s0 s → FrR s fr a nt → ∀ (b : Frame) (k : List Item) (cs : List Frame), ∃ e a' w', Q e a' w' ∧ Arrives P (lone (b.at a (.code c :: .inLoop c :: k)) cs s.w) b k cs e a' w') ?_
    · intro b k cs
      obtain ⟨e, a', w', hq, harr⟩ := key s1 a rfl hS1 hJ1 hF1 b k cs
      exact ⟨e, a', w', hq, .of_steps (.one step_loop) harr⟩
    · intro fr2 σ2 hbody s2 a2 hσ hS2 hJ2 hF2 b k cs
      subst hσ
      have hwp := ih (Q := Exit.then (fun a' w' => ∀ (b : Frame) (k : List Item) (cs : List Frame), ∃ e a'' w'', Q e a'' w'' ∧ Arrives P (lone (b.at a' (.code c :: .inLoop c :: k)) cs w') b k cs e a'' w'') Q) hS2 hJ2 hF2 hbody (by
        intro e s' fr' a' j1 j2 j3 j4
        cases e with
        | normal =>
          simp only [exitK, thenK] at j4
          obtain ⟨s3, fr3, h3, hS3, hJ3, hF3, hw3⟩ := cut_sound j2 j1 j3 j4
          intro b k cs
          rw [← hw3]
          exact h3 s3 a' rfl hS3 hJ3 hF3 b k cs
        | _ =>
          obtain ⟨s3, fr3, h3, hS3, hJ3, hF3, hw3⟩ := cut_sound j2 j1 j3 j4
          rw [← hw3]
          exact hQ _ s3 fr3 a' hJ3 hS3 hF3 h3)
      obtain ⟨e, a₁, w₁, hq, harr⟩ := hwp b (.inLoop c :: k) cs
      cases e with
      | normal =>
        obtain ⟨e₂, a₂, w₂, hq₂, harr₂⟩ := hq b k cs
        exact ⟨e₂, a₂, w₂, hq₂, .of_steps (Steps.trans harr (.one step_inLoop)) harr₂⟩
      | exit id => exact ⟨_, a₁, w₁, hq, .pass (x := .inLoop c) rfl (fun _ _ => .inl (by simp)) harr⟩
      | goto l => exact ⟨_, a₁, w₁, hq, .pass (x := .inLoop c) rfl (fun _ _ => .inl (by simp)) harr⟩
      | ret => exact ⟨_, a₁, w₁, hq, .pass (x := .inLoop c) rfl (fun _ _ => .inl (by simp)) harr⟩
      | panic ch => exact ⟨_, a₁, w₁, hq, .pass (x := .inLoop c) rfl (fun _ _ => .inl (by simp)) harr⟩
      | outgrown => exact ⟨_, a₁, w₁, hq, .pass (x := .inLoop c) rfl (fun _ _ => .inl (by simp)) harr⟩
  | _ => intro K Q s fr a hS hJ hF h hQ; exact h.elim
theorem noTup1 {s : St} {v : AV} {c : Value} (h : s.vv v c) : VV1 s.w s.F s.ρ (noTup v) c := noTup_vv1 h
theorem resAV_ok {E : Env} (hE : EnvOK P E) {s : St} (hS : Sim s) {fr : Fr} {a : Act} {nt : Nat} (hF : FrR s fr a nt) : ∀ {rs : List ResultVar} {K : List AV → Prop}, resAV Prop (fun _ => False) E s.σ fr rs K →
    ∃ l cs, K l ∧ VVs s.w s.F s.ρ l cs ∧ (rs.mapM (fun | .tmp t => pure (a.tmps.getD t undef) | .cell x t => do loadVar t (← asAddr (a.tmps.getD x undef)) : ResultVar → Sem Value)).run P s.w = .ok cs s.w
  | [], K, h => ⟨[], [], h, trivial, rfl⟩
  | .tmp t :: r, K, h => by
    obtain ⟨l, cs, h1, h2, h3⟩ := resAV_ok hE hS hF (rs := r) h
    refine ⟨_, a.tmps.getD t undef :: cs, h1, ⟨noTup_vv1 (hF.get t), h2⟩, ?_⟩
    simp only [List.mapM_cons, Sem.run_bind, Sem.run_pure, Result.andThen_ok, h3]
  | .cell x t :: r, K, h => by
    simp only [resAV] at h
    obtain ⟨v, u, cs, ad, h1, h2, h3, h4⟩ := loadK_sound hS (hF.get x) h
    obtain ⟨hc, h5⟩ := bif_prop h1
    obtain ⟨ty, hty, hcf⟩ := confT hc
    have hu : u = ty := (conf_ty hS h3 hcf).symm
    subst hu
    obtain ⟨l, ds, k1, k2, k3⟩ := resAV_ok hE hS hF (rs := r) h5
    have hv1 : VV1 s.w s.F s.ρ v (toV u cs) := by
      have := VV_of_VR h3
      cases v with
      | tup l => cases h3
      | _ => exact this
    refine ⟨_, toV u cs :: ds, k1, ⟨hv1, k2⟩, ?_⟩
    have ha : (asAddr (a.tmps.getD x undef)).run P s.w = .ok ad s.w := by rw [h2]; rfl
    simp only [List.mapM_cons, Sem.run_bind, ha, Result.andThen_ok, run_loadVar_at (hE.of hty).1 h3.length h4, Sem.run_pure, k3]
theorem results_ok {fn : Func} {a : Act} {w : World} {cs : List Value} (h : (fn.results.toList.mapM (fun | .tmp t => pure (a.tmps.getD t undef) | .cell x t => do loadVar t (← asAddr (a.tmps.getD x undef)) : ResultVar → Sem Value)).run P w = .ok cs w) :
    (results fn a.tmps).run P w = .ok (if h : cs.toArray.size = 1 then cs.toArray[0] else .tuple cs.toArray) w := by
  unfold results
  rw [Array.mapM_eq_mapM_toList]
  simp only [Sem.run_bind, Sem.run_map]
  exact congrArg (fun r : Result (List Value) => (r.andThen fun a w' => Result.ok a.toArray w').andThen fun a w' => (pure (if h : a.size = 1 then a[0] else Value.tuple a) : Sem Value).run P w') h
theorem tupOf_vv {s : St} {l : List AV} {cs : List Value} (h : VVs s.w s.F s.ρ l cs) : s.vv (tupOf l) (if h : cs.toArray.size = 1 then cs.toArray[0] else .tuple cs.toArray) := by
  match l, cs, h with
  | [], [], h => exact ⟨[], rfl, trivial⟩
  | [v], [c], h => exact VV_of_VV1 h.1
  | v :: v2 :: l, c :: c2 :: cs, h => exact ⟨c :: c2 :: cs, by simp, h⟩
theorem frame0_get {w : World} {F : Nat → Prop} {ρ : Map} : ∀ {args : List AV} {cs : List Value} {k : Nat}, VVs w F ρ args cs → ∀ t, k ≤ t → VV w F ρ (Fr.get (frame0 k args) t) (cs[t - k]?.getD undef)
  | [], _, k, _, t, _ => trivial
  | _ :: _, [], k, h, t, _ => h.elim
  | v :: args, c :: cs, k, h, t, hk => by
    simp only [frame0, Fr.get_cons, Fr.get_nil]
    cases hb : Nat.beq k t with
    | true =>
      have := beq_eq.1 hb
      subst this
      simpa using VV_of_VV1 h.1
    | false =>
      have hne : k ≠ t := fun e => by rw [beq_eq.2 e] at hb; cases hb
      have := frame0_get (k := k + 1) h.2 t (by omega)
      rw [show t - k = (t - (k + 1)) + 1 by omega, List.getElem?_cons_succ]
      exact this
theorem VVs.length {w : World} {F : Nat → Prop} {ρ : Map} : ∀ {l : List AV} {cs : List Value}, VVs w F ρ l cs → cs.length = l.length
  | [], [], _ => rfl
  | [], _ :: _, h => h.elim
  | _ :: _, [], h => h.elim
  | _ :: _, _ :: _, h => by rw [List.length_cons, List.length_cons, VVs.length h.2]
theorem frame0_ok {s : St} {args : List AV} {cs : List Value} {nt : Nat} (hv : VVs s.w s.F s.ρ args cs) (hn : args.length ≤ nt) :
    FrR s (frame0 0 args) { tmps := cs.toArray ++ Array.replicate (nt - cs.toArray.size) undef, defers := [] } nt := by
  have hl := hv.length
  refine ⟨fun t => ?_, rfl, ?_⟩
  · have := frame0_get (k := 0) hv t (Nat.zero_le _)
    have e : (cs.toArray ++ Array.replicate (nt - cs.toArray.size) undef).getD t undef = cs[t - 0]?.getD undef := by
      rw [Array.getD_eq_getD_getElem?, Array.getElem?_append]
      by_cases h : t < cs.toArray.size
      · rw [if_pos h]; simp
      · rw [if_neg h, Nat.sub_zero]
        have h2 : cs.length ≤ t := by simpa using h
        rw [List.getElem?_eq_none h2, Array.getElem?_replicate]
        split <;> rfl
    show VV s.w s.F s.ρ _ _
    rw [e]
    exact this
  · simp
    omega
theorem fn_sound {E : Env} (hE : EnvOK P E) {call} (hcall : CallOK P call) {inl : Inl Prop} (hinl : CallOK P inl) (hdraw : DrawOK P E call inl) {f : FuncId} {fn : Func} {c : Code} (hf : E.fn f = some fn) (hb : fn.body = some c)
    {args : List AV} {keep : List (Nat × List Nat)} {s : St} {cs : List Value} (hS : Sim s) (hv : VVs s.w s.F s.ρ args cs) (hn : args.length ≤ fn.ntmps) {K : AV → Sto → Prop}
    (h : evC ⟨PA call, E, inl, keep, s.σ.length, fn.ntmps⟩ c (endK Prop (fun _ => False) E fn K) (frame0 0 args) s.σ) :
    Calls P f cs.toArray s.w fun e w' => ∃ v c s', e = .returned c ∧ s'.w = w' ∧ J s s' ∧ Sim s' ∧ s'.vv v c ∧ K v s'.σ := by
  refine calls_of_wp (hE.fn f fn hf).1 hb ?_
  refine evC_sound hE hcall hinl hdraw (s0 := s) c hS (.refl s) (frame0_ok hv hn) h ?_
  intro e s' fr' a' j1 j2 j3 j4
  have key : resAV Prop (fun _ => False) E s'.σ fr' fn.results.toList (fun l => K (tupOf l) s'.σ) → a'.defers = [] ∧ ∃ v, (results fn a'.tmps).run P s'.w = .ok v s'.w ∧ ∃ v' c s'', (Ending.returned v = .returned c) ∧ s''.w = s'.w ∧ J s s'' ∧ Sim s'' ∧ s''.vv v' c ∧ K v' s''.σ := by
    intro hr
    obtain ⟨l, ds, k1, k2, k3⟩ := resAV_ok hE j2 j3 hr
    exact ⟨j3.defers, _, results_ok k3, _, _, s', rfl, rfl, j1, j2, tupOf_vv k2, k1⟩
  cases e with
  | normal => exact key j4
  | ret => exact key j4
  | _ => exact j4.elim
theorem inlF_ok {E : Env} (hE : EnvOK P E) {call} (hcall : CallOK P call) (hdraw : ∀ inl, CallOK P inl → DrawOK P E call inl) : ∀ n, CallOK P (inlF (PA call) E n)
  | 0 => fun f args σ K h => h.elim
  | n + 1 => by
    intro f args σ K h s cs hσ hS hv
    subst hσ
    unfold inlF at h
    split at h
    · rename_i fn hf
      split at h
      · rename_i c hb
        obtain ⟨hn, h1⟩ := not_match h
        exact fn_sound hE hcall (inlF_ok hE hcall hdraw n) (hdraw _ (inlF_ok hE hcall hdraw n)) hf hb hS hv (Nat.le_of_ble_eq_true (Bool.and_eq_true_iff.1 hn).2) h1
      · exact h.elim
    · exact h.elim
theorem evFn_sound {E : Env} (hE : EnvOK P E) {call} (hcall : CallOK P call) (hdraw : ∀ inl, CallOK P inl → DrawOK P E call inl) {f : FuncId} {args : List AV} {τ : Sto} {Q : AV → Sto → Prop} (h : evFn (PA call) E f args τ Q) : SC P f args τ Q := by
  intro s cs hσ hS hv
  subst hσ
  unfold evFn at h
  split at h
  · rename_i fn hf
    split at h
    · rename_i c hb
      obtain ⟨hn, h1⟩ := not_match h
      have hi := inlF_ok hE hcall hdraw 8
      refine Calls.mono (fn_sound hE hcall hi (hdraw _ hi) hf hb hS hv (Nat.le_of_ble_eq_true hn) h1) ?_
      rintro e w' ⟨v, c, s', rfl, rfl, j1, j2, j3, j4⟩
      obtain ⟨c1, c2, _⟩ := closeS_ok j2 (m := s.σ.length) (roots := v.ids depth)
      obtain ⟨s2, v2, k1, k2, k3, k4, k5⟩ := normRet_ok c1 (j1.trans c2) (v := v) (c := c) j3 j4
      obtain ⟨w1, w2⟩ := k2.weak
      exact ⟨v2, c, ⟨s2.w, s2.F, s2.ρ, s2.σ.map Ob.weak⟩, rfl, k5, k3.trans w2, w1, w2.vv k2 k4, k1⟩
    · exact h.elim
  · exact h.elim
def ACall (E : Env) (f : FuncId) (args : List AV) (τ : Sto) (Q : AV → Sto → Prop) : Prop :=
  ∀ R : FuncId → List AV → Sto → (AV → Sto → Prop) → Prop, (∀ f args τ Q, evFn (PA R) E f args τ Q → R f args τ Q) → R f args τ Q
theorem ACall_sound {E : Env} (hE : EnvOK P E) (hdraw : ∀ call inl, CallOK P call → CallOK P inl → DrawOK P E call inl) {f : FuncId} {args : List AV} {τ : Sto} {Q : AV → Sto → Prop} (h : ACall E f args τ Q) : SC P f args τ Q :=
  h (SC P) fun f args τ Q h => evFn_sound hE (fun _ _ _ _ h => h) (fun inl hi => hdraw _ inl (fun _ _ _ _ h => h) hi) h
end
end Go.Abs
