/- Plans are what the evaluator would do by itself. -/
import Derived.Test.YteeigkbjjoedoaaADef
set_option linter.unusedVariables false
namespace Go.Abs
theorem eqPT_eq : ∀ {a b : PT}, eqPT a b = true → a = b
  | .fin, b, h => by cases b <;> first | rfl | cases h
  | .stop, b, h => by cases b <;> first | rfl | cases h
  | .q i c r, b, h => by
    cases b <;> first
      | (cases h; done)
      | skip
    simp only [eqPT, Bool.and_eq_true, beq_iff_eq] at h
    rw [Nat.eq_of_beq_eq_true h.1.1, h.1.2, eqPT_eq h.2]
  | .eff e s a, b, h => by
    cases b <;> first
      | (cases h; done)
      | skip
    simp only [eqPT, Bool.and_eq_true] at h
    rw [Nat.eq_of_beq_eq_true h.1.1, eqPT_eq h.1.2, eqPT_eq h.2]
theorem lead_qs {seen : List Nat} {k : PT} (hk : lead k = []) : ∀ l : List Nat, lead (qsPT seen k l) = l
  | [] => hk
  | i :: r => by simp only [qsPT, lead, lead_qs hk r]
theorem lead_effs {F : Nat → PT} : ∀ l : List Nat, lead (effsPT F l) = []
  | [] => rfl
  | _ :: _ => rfl
theorem evQs_plan {A : Alg} {E : Env} {inl : Inl A.R} {nt : Nat} {all : Array Oper} {seen : List Nat} {k : PT} (hk : lead k = []) : ∀ (l : List Nat) {fr : Fr} {σ : Sto} {K : Fr → Sto → A.R}, ptOk E.dl nt all (qsPT seen k l) = true →
    evPl A E inl nt all (qsPT seen k l) fr σ K = evQs A E inl nt all seen l fr σ fun fr => evPl A E inl nt all k fr σ K
  | [], fr, σ, K, _ => rfl
  | i :: r, fr, σ, K, h => by
    simp only [qsPT, ptOk, Bool.and_eq_true, lead_qs hk] at h
    obtain ⟨h1, h2⟩ := h
    simp only [qsPT, evPl, evQs]
    cases ho : all[i]? with
    | none => rfl
    | some o =>
      rw [ho] at h1
      dsimp only at h1 ⊢
      rw [h1]
      simp only [Bool.not_true, cond_false]
      congr 1
      funext fr v
      cases mem i seen with
      | true =>
        simp only [cond_true]
        cases o.dst with
        | none => exact evQs_plan hk r h2
        | some t => simp only [evQs_plan hk r h2]
      | false =>
        simp only [cond_false]
        exact evQs_plan hk r h2
theorem ptOk_qs {E : Env} {nt : Nat} {all : Array Oper} {seen : List Nat} {k : PT} : ∀ (l : List Nat), ptOk E.dl nt all (qsPT seen k l) = true → ptOk E.dl nt all k = true
  | [], h => h
  | i :: r, h => by
    simp only [qsPT, ptOk, Bool.and_eq_true] at h
    exact ptOk_qs r h.2
theorem evPl_effs {A : Alg} {E : Env} {inl : Inl A.R} {nt : Nat} {all : Array Oper} {F : Nat → PT} {G : Nat → A.R} {fr : Fr} {σ : Sto} {K : Fr → Sto → A.R}
    (h : ∀ e, ptOk E.dl nt all (F e) = true → (match all[e]? with | none => A.bot 943 | some o => evEff A E inl nt all o fr σ fun fr σ' => evPl A E inl nt all (F e) fr σ' K) = G e) : ∀ (l : List Nat), ptOk E.dl nt all (effsPT F l) = true →
    evPl A E inl nt all (effsPT F l) fr σ K = allOf A G l
  | [], _ => rfl
  | [e], hp => by
    simp only [effsPT, ptOk, Bool.and_eq_true] at hp
    simp only [effsPT, evPl, allOf]
    exact h e hp.1
  | e :: e' :: r, hp => by
    rw [effsPT, ptOk, Bool.and_eq_true] at hp
    have ih := evPl_effs h (e' :: r) hp.2
    rw [effsPT, allOf, ← ih, ← h e hp.1]
    rfl
theorem evPl_eq {A : Alg} {E : Env} {inl : Inl A.R} {nt : Nat} {m : Nat} {all : Array Oper} {T : List (List Nat)} : ∀ (n : Nat) (rest done seen : List Nat) {fr : Fr} {σ : Sto} {K : Fr → Sto → A.R}, ptOk E.dl nt all (planOf E.dl m all T n rest done seen) = true →
    evPl A E inl nt all (planOf E.dl m all T n rest done seen) fr σ K = evPh A E inl nt m all T n rest done seen fr σ K := by
  intro n
  induction n with
  | zero =>
    intro rest done seen fr σ K h
    simp only [planOf] at h ⊢
    rw [evQs_plan (by cases rest <;> rfl) _ h]
    simp only [evPh]
    congr 1
    funext fr
    cases rest <;> rfl
  | succ n ih =>
    intro rest done seen fr σ K h
    simp only [planOf] at h ⊢
    rw [evQs_plan (by cases rest; rfl; exact lead_effs _) _ h]
    have h2 := ptOk_qs _ h
    simp only [evPh]
    congr 1
    funext fr
    cases rest with
    | nil => rfl
    | cons e rest =>
      dsimp only at h2 ⊢
      refine evPl_effs (fun e' he => ?_) _ h2
      cases all[e']? with
      | none => rfl
      | some o =>
        dsimp only
        congr 1
        funext fr σ'
        exact ih _ _ _ he
theorem evDrawP_eq {A : Alg} {E : Env} {inl : Inl A.R} {nt m : Nat} {all : Array Oper} {p : PT} {fr : Fr} {σ : Sto} {K : Fr → Sto → A.R} : evDrawP A E inl nt m all p fr σ K = bif planOk E.dl nt m all p then evDraw A E inl nt m all fr σ K else A.bot 945 := by
  unfold evDrawP
  cases h : planOk E.dl nt m all p with
  | false => rfl
  | true =>
    simp only [planOk, Bool.and_eq_true] at h
    obtain ⟨⟨h1, h2⟩, h3⟩ := h
    have h2 := eqPT_eq h2
    subst h2
    simp only [cond_true, evDraw, h1]
    exact evPl_eq _ _ _ _ h3
end Go.Abs
