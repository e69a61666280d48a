/- Regions whose operations may come in any order: all orders. -/
import Derived.Test.YtdljpdafghdedaaAOpsO
set_option linter.unusedVariables false
set_option linter.unusedSimpArgs false
namespace Go.Abs

/-- what is known of an operation that was evaluated -/
def Fact (E : Env) (nt : Nat) (all : Array Oper) (fr : Fr) (σ : Sto) (i : Nat) : Prop :=
  ∃ o v, all[i]? = some o ∧ dstOk nt o.dst = true ∧ quietOp o.op = true ∧ qv E all o fr σ = some v ∧ ∀ t, o.dst = some t → Fr.get fr t = v

theorem set_get_ne {fr : Fr} {dst : Option Nat} {v : AV} {t : Nat} (h : dst ≠ some t) : Fr.get (fr.set dst v) t = Fr.get fr t := by
  cases dst with
  | none => rfl
  | some u =>
    simp only [Fr.set, Fr.get_cons, Fr.get_nil]
    cases hb : Nat.beq u t with
    | true => exact (h (by rw [beq_eq.1 hb])).elim
    | false => rfl
theorem set_get_eq {fr : Fr} {v : AV} {t : Nat} : Fr.get (fr.set (some t) v) t = v := by
  simp only [Fr.set, Fr.get_cons, Fr.get_nil, Nat.beq_refl, cond_true]

theorem evQs_prop {E : Env} {call} {inl : Inl Prop} {nt : Nat} {all : Array Oper} {seen : List Nat} {σ : Sto} {K : Fr → Prop} : ∀ {is : List Nat} {fr : Fr}, evQs (PA call) E inl nt all seen is fr σ K →
    ∃ fr', K fr' ∧ (∀ t, (∀ i ∈ is, i ∉ seen → dstOf all i ≠ some t) → Fr.get fr' t = Fr.get fr t) ∧ ∀ i ∈ is, Fact E nt all fr' σ i
  | [], fr, h => ⟨fr, h, fun _ _ => rfl, fun i hi => by cases hi⟩
  | i :: r, fr, h => by
    simp only [evQs] at h
    split at h
    · exact h.elim
    · rename_i o ho
      obtain ⟨hc, h1⟩ := not_match h
      clear h
      simp only [Bool.and_eq_true] at hc
      obtain ⟨⟨⟨c1, c2⟩, c3⟩, c4⟩ := hc
      have hd : dstOf all i = o.dst := by simp [dstOf, ho]
      have hl : ∀ k ∈ i :: r, ∀ t ∈ looks all o, dstOf all k ≠ some t := by
        intro k hk t ht he
        have := List.all_eq_true.1 c3 k hk
        simp only [dstIn, he, mem_iff.2 ht] at this
        cases this
      have hdd : ∀ k ∈ r, ∀ t, o.dst = some t → dstOf all k ≠ some t := by
        intro k hk t ht he
        have := List.all_eq_true.1 c4 k hk
        simp only [dstEq, hd, ht, he, Nat.beq_refl] at this
        cases this
      obtain ⟨fr1, v, e1, e2, h2⟩ := evQuiet_prop c2 h1
      cases hs : mem i seen with
      | true =>
        rw [hs] at h2
        have hiseen := mem_iff.1 hs
        have key : evQs (PA call) E inl nt all seen r fr1 σ K ∧ ∀ t, o.dst = some t → Fr.get fr1 t = v := by
          dsimp only [cond_true] at h2
          cases hdst : o.dst with
          | none => rw [hdst] at h2; exact ⟨h2, fun t ht => by cases ht⟩
          | some t =>
            rw [hdst] at h2
            obtain ⟨k1, k2⟩ := bif_prop h2
            exact ⟨k2, fun u hu => by cases hu; exact sameB_eq k1⟩
        obtain ⟨fr', k1, k2, k3⟩ := evQs_prop key.1
        refine ⟨fr', k1, fun t ht => ?_, fun j hj => ?_⟩
        · rw [k2 t (fun k hk hns => ht k (by simp [hk]) hns), e1]
        · rcases List.mem_cons.1 hj with rfl | hj
          · refine ⟨o, v, ho, c1, c2, ?_, fun t ht => ?_⟩
            · rw [← e2]
              exact qv_agree fun t ht => k2 t fun k hk _ => hl k (by simp [hk]) t ht
            · rw [k2 t (fun k hk _ => hdd k hk t ht)]
              exact key.2 t ht
          · exact k3 j hj
      | false =>
        rw [hs] at h2
        have hins : i ∉ seen := fun h => by rw [mem_iff.2 h] at hs; cases hs
        obtain ⟨fr', k1, k2, k3⟩ := evQs_prop h2
        refine ⟨fr', k1, fun t ht => ?_, fun j hj => ?_⟩
        · rw [k2 t (fun k hk hns => ht k (by simp [hk]) hns), set_get_ne (by rw [← hd]; exact ht i (by simp) hins), e1]
        · rcases List.mem_cons.1 hj with rfl | hj
          · refine ⟨o, v, ho, c1, c2, ?_, fun t ht => ?_⟩
            · rw [← e2]
              refine qv_agree fun t ht => ?_
              rw [k2 t fun k hk _ => hl k (by simp [hk]) t ht]
              exact set_get_ne (by rw [← hd]; exact hl j (by simp) t ht)
            · rw [k2 t (fun k hk _ => hdd k hk t ht), ht]
              exact set_get_eq
          · exact k3 j hj

/-! ### frames of which not all is known yet -/

def unlistedDsts (m : Nat) (all : Array Oper) (listed : Array Bool) : List Nat := (range0 0 m).filterMap fun j => if listed.getD j true = true then none else dstOf all j
def mask (U : List Nat) (fr : Fr) : Fr := U.map (fun t => (t, AV.undef)) ++ fr

theorem mask_in : ∀ {U : List Nat} {fr : Fr} {t : Nat}, t ∈ U → Fr.get (mask U fr) t = .undef
  | u :: U, fr, t, h => by
    show Fr.get ((u, .undef) :: mask U fr) t = _
    simp only [Fr.get_cons, Fr.get_nil]
    cases hb : Nat.beq u t with
    | true => rfl
    | false =>
      have hne : t ≠ u := fun e => by rw [beq_eq.2 e.symm] at hb; cases hb
      exact mask_in (by simpa [hne] using h)
theorem mask_out : ∀ {U : List Nat} {fr : Fr} {t : Nat}, t ∉ U → Fr.get (mask U fr) t = Fr.get fr t
  | [], fr, t, _ => rfl
  | u :: U, fr, t, h => by
    show Fr.get ((u, .undef) :: mask U fr) t = _
    simp only [Fr.get_cons, Fr.get_nil]
    cases hb : Nat.beq u t with
    | true => exact (h (by rw [beq_eq.1 hb]; simp)).elim
    | false => exact mask_out (fun h2 => h (by simp [h2]))

structure FrL (s : St) (fr : Fr) (a : Act) (nt m : Nat) (all : Array Oper) (listed : Array Bool) : Prop where
  get : ∀ t, t ∉ unlistedDsts m all listed → s.vv (Fr.get fr t) (a.tmps.getD t undef)
  defers : a.defers = []
  size : a.tmps.size = nt

theorem FrL.masked {s : St} {fr : Fr} {a : Act} {nt m : Nat} {all : Array Oper} {listed : Array Bool} (h : FrL s fr a nt m all listed) : FrR s (mask (unlistedDsts m all listed) fr) a nt := by
  refine ⟨fun t => ?_, h.defers, h.size⟩
  by_cases ht : t ∈ unlistedDsts m all listed
  · rw [mask_in ht]; trivial
  · rw [mask_out ht]; exact h.get t ht

section
variable {P : Program}

/-- one operation, its guard seen to -/
theorem guard_go {s : St} {fr : Fr} {a : Act} {nt : Nat} (hF : FrR s fr a nt) {ops : Array Oper} {Q : Exit → Act → World → Prop} {i : Nat} {o : Oper} (ho : ops[i]? = some o) {next : Act → World → Prop}
    (h : (o.guard = none ∧ o.wp P a s.w next Q) ∨ ∃ g want t, o.guard = some (g, want) ∧ (ops[g]?).bind (·.dst) = some t ∧ ((Fr.get fr t = .skip ∧ next (a.put o.dst undef) s.w) ∨
      ∃ b : Bool, Fr.get fr t = .d .bool b ∧ (b = want → o.wp P a s.w next Q) ∧ (b ≠ want → next (a.put o.dst undef) s.w))) : wpOp P ops Q i next a s.w := by
  unfold wpOp
  simp only [ho]
  rcases h with ⟨hg, h⟩ | ⟨g, want, t, hg, ht, ⟨hs, h⟩ | ⟨b, hb, h1, h2⟩⟩
  · have : Region.wanted o (yielded ops a.tmps) = true := by simp [Region.wanted, hg]
    rw [if_pos this]
    exact .inl h
  · have hv := hF.get t
    rw [hs] at hv
    have hv : a.tmps.getD t undef = undef := hv
    have : Region.wanted o (yielded ops a.tmps) = false := by simp [Region.wanted, hg, yielded_undef ht hv]
    rw [this]
    exact h
  · have hv := hF.get t
    rw [hb] at hv
    have hvb := VV_bool hv
    have hw : Region.wanted o (yielded ops a.tmps) = (b == want) := by
      simp only [Region.wanted, hg, yielded_bool ht hvb]
      rfl
    by_cases hbw : b = want
    · have h3 : Region.wanted o (yielded ops a.tmps) = true := by rw [hw, hbw]; exact beq_self_eq_true want
      rw [if_pos h3]
      exact .inl (h1 hbw)
    · have h3 : Region.wanted o (yielded ops a.tmps) = false := by rw [hw]; exact beq_eq_false_iff_ne.2 hbw
      rw [h3]
      exact h2 hbw

theorem quiet_go {E : Env} (hE : EnvOK P E) {call} (hcall : CallOK P call) {inl : Inl Prop} (hinl : CallOK P inl) {s : St} (hS : Sim s) {fr : Fr} {a : Act} {nt : Nat} (hF : FrR s fr a nt) {ops : Array Oper} {Q : Exit → Act → World → Prop} {i : Nat} {o : Oper} (ho : ops[i]? = some o) (hq : quietOp o.op = true)
    {v : AV} (hv : qv E ops o fr s.σ = some v) {next : Act → World → Prop} (hn : ∀ s' c, J s s' → Sim s' → s'.σ = s.σ → s'.vv v c → next (a.put o.dst c) s'.w) : wpOp P ops Q i next a s.w := by
  have go : quietV E o fr s.σ = some v → o.wp P a s.w next Q := by
    intro h
    have h1 : opK (PA call) E inl o fr s.σ (fun v' σ' => v' = v ∧ σ' = s.σ) := nb_weak hq ((quiet_prop hq).2 ⟨v, h, rfl, rfl⟩)
    exact oper_sound hE hcall hinl hS hF h1 fun v' s' c j1 j2 j3 j4 => by
      obtain ⟨rfl, j5⟩ := j4
      exact hn s' c j1 j2 j5 j3
  have skip : v = .skip → next (a.put o.dst undef) s.w := fun e => hn s undef (.refl s) hS rfl (by rw [e]; rfl)
  refine guard_go hF ho ?_
  unfold qv at hv
  split at hv
  · rename_i hg; exact .inl ⟨hg, go hv⟩
  · rename_i g want hg
    split at hv
    · cases hv
    · rename_i t ht
      split at hv
      · rename_i hs
        cases hv
        exact .inr ⟨g, want, t, hg, ht, .inl ⟨hs, skip rfl⟩⟩
      · rename_i b hb
        refine .inr ⟨g, want, t, hg, ht, .inr ⟨b, hb, fun e => ?_, fun e => ?_⟩⟩
        · exact go ((if_pos e).symm.trans hv)
        · have := (if_neg e).symm.trans hv
          cases this
          exact skip rfl
      · cases hv

end
end Go.Abs
