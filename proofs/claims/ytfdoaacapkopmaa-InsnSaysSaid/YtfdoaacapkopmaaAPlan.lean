/- Plans are what the evaluator would do by itself. -/
import Derived.Test.YtfdoaacapkopmaaADef
set_option linter.unusedVariables false
namespace Go.Abs

theorem eqQs_eq : ∀ {a b : List (Nat × Bool)}, eqQs a b = true → a = b
  | [], [], _ => rfl
  | (i, x) :: a, (j, y) :: b, h => by
    simp only [eqQs, Bool.and_eq_true, beq_iff_eq] at h
    rw [Nat.eq_of_beq_eq_true h.1.1, h.1.2, eqQs_eq h.2]
  | [], _ :: _, h => by cases h
  | _ :: _, [], h => by cases h
theorem eqOn_eq : ∀ {a b : Option Nat}, eqOn a b = true → a = b
  | none, none, _ => rfl
  | some i, some j, h => by rw [Nat.eq_of_beq_eq_true h]
  | none, some _, h => by cases h
  | some _, none, h => by cases h
theorem eqPl_eq : ∀ {a b : Plan}, eqPl a b = true → a = b
  | [], [], _ => rfl
  | (q, e) :: a, (q', e') :: b, h => by
    simp only [eqPl, Bool.and_eq_true] at h
    rw [eqQs_eq h.1.1, eqOn_eq h.1.2, eqPl_eq h.2]
  | [], _ :: _, h => by cases h
  | _ :: _, [], h => by cases h

theorem evQsP_eq {A : Alg} {E : Env} {inl : Inl A.R} {nt : Nat} {all : Array Oper} {seen : List Nat} : ∀ (l : List Nat) {fr : Fr} {σ : Sto} {K : Fr → A.R}, qsOk nt all (l.map fun i => (i, mem i seen)) = true →
    evQsP A E inl all (l.map fun i => (i, mem i seen)) fr σ K = evQs A E inl nt all seen l fr σ K
  | [], fr, σ, K, _ => rfl
  | i :: r, fr, σ, K, h => by
    simp only [List.map_cons, qsOk, Bool.and_eq_true] at h
    have hm : (r.map fun i => (i, mem i seen)).map (·.1) = r := by rw [List.map_map]; exact List.map_id _
    rw [hm] at h
    obtain ⟨h1, h2⟩ := h
    simp only [List.map_cons, evQsP, evQs]
    cases ho : all[i]? with
    | none => rfl
    | some o =>
      rw [ho] at h1
      dsimp only at h1 ⊢
      rw [h1]
      simp only [Bool.not_true, cond_false]
      congr 1
      funext fr v
      cases mem i seen with
      | true =>
        simp only [cond_true]
        cases o.dst with
        | none => exact evQsP_eq r h2
        | some t => simp only [evQsP_eq r h2]
      | false =>
        simp only [cond_false]
        exact evQsP_eq r h2

theorem evPl_eq {A : Alg} {E : Env} {inl : Inl A.R} {nt : Nat} {all : Array Oper} {T : List (List Nat)} : ∀ (effs done seen : List Nat) {fr : Fr} {σ : Sto} {K : Fr → Sto → A.R}, ((phasesOf all T effs done seen).all fun x => qsOk nt all x.1) = true →
    evPl A E inl nt all (phasesOf all T effs done seen) fr σ K = evPh A E inl nt all T effs done seen fr σ K
  | [], done, seen, fr, σ, K, h => by
    simp only [phasesOf, List.all_cons, Bool.and_eq_true] at h
    simp only [phasesOf, evPl, evPh]
    exact evQsP_eq _ h.1
  | e :: rest, done, seen, fr, σ, K, h => by
    simp only [phasesOf, List.all_cons, Bool.and_eq_true] at h
    simp only [phasesOf, evPl, evPh]
    rw [evQsP_eq _ h.1]
    congr 1
    funext fr
    cases all[e]? with
    | none => rfl
    | some o =>
      dsimp only
      congr 1
      funext fr σ'
      exact evPl_eq rest _ _ h.2

theorem evDrawP_eq {A : Alg} {E : Env} {inl : Inl A.R} {nt : Nat} {all : Array Oper} {p : Plan} {fr : Fr} {σ : Sto} {K : Fr → Sto → A.R} : evDrawP A E inl nt all p fr σ K = bif planOk nt all p then evDraw A E inl nt all fr σ K else A.bot 945 := by
  unfold evDrawP
  cases h : planOk nt all p with
  | false => rfl
  | true =>
    simp only [planOk, Bool.and_eq_true] at h
    obtain ⟨⟨h1, h2⟩, h3⟩ := h
    have h2 := eqPl_eq h2
    subst h2
    simp only [cond_true, evDraw, h1]
    exact evPl_eq _ _ _ h3
theorem evC_eqs {C : Ctx} {K : Exit → Fr → Sto → C.A.R} {fr : Fr} {σ : Sto} : evC C .skip K fr σ = K .normal fr σ := by
  have := @evC.eq_4
  simp only [evC]
end Go.Abs
