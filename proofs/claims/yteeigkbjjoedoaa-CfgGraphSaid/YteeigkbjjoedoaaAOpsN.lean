/- Regions whose operations may come in any order: what an operation looks at. -/
import Derived.Test.YteeigkbjjoedoaaAPar3
import Derived.Orders
set_option linter.unusedVariables false
set_option linter.unusedSimpArgs false
namespace Go.Abs
def Agree (fr fr' : Fr) (l : List Nat) : Prop := ∀ t ∈ l, Fr.get fr t = Fr.get fr' t
theorem ev_agree {E : Env} {fr fr' : Fr} {x : Operand} (h : ∀ t, x = .tmp t → Fr.get fr t = Fr.get fr' t) (t : Option TypeId) : ev E fr t x = ev E fr' t x := by
  cases x with
  | tmp i => exact h i rfl
  | _ => rfl
theorem evs_agree {E : Env} {fr fr' : Fr} : ∀ {l : List Operand} {ts : List TypeId}, (∀ x ∈ l, ∀ t, ev E fr t x = ev E fr' t x) → evs E fr l ts = evs E fr' l ts
  | [], ts, _ => rfl
  | o :: r, ts, h => by
    simp only [evs]
    rw [h o (by simp), evs_agree fun x hx => h x (by simp [hx])]
theorem parts_agree {E : Env} {fr fr' : Fr} {t : Option TypeId} {l : List (Nat × Operand)} (h : ∀ x ∈ l.map (·.2), ∀ t, ev E fr t x = ev E fr' t x) : (l.map fun p => (p.1, ev E fr t p.2)) = (l.map fun p => (p.1, ev E fr' t p.2)) :=
  List.map_congr_left fun p hp => by rw [h p.2 (List.mem_map.2 ⟨p, hp, rfl⟩)]
theorem optI_agree {R : Type} {bot : Nat → R} {E : Env} {fr fr' : Fr} {x : Option Operand} (h : ∀ y, x = some y → ∀ t, ev E fr t y = ev E fr' t y) {K : Option Int → R} : optI bot E fr x K = optI bot E fr' x K := by
  cases x with
  | none => rfl
  | some y => simp only [optI, h y rfl]
theorem opK_agree {A : Alg} {E : Env} {inl : Inl A.R} {o : Oper} {fr fr' : Fr} {σ : Sto} {K : AV → Sto → A.R} (h : ∀ x ∈ o.op.operands.toList, ∀ t, x = .tmp t → Fr.get fr t = Fr.get fr' t) : opK A E inl o fr σ K = opK A E inl o fr' σ K := by
  have he : ∀ x ∈ o.op.operands.toList, ∀ t, ev E fr t x = ev E fr' t x := fun x hx t => ev_agree (h x hx) t
  clear h
  obtain ⟨dst, op, type, pos, after, guard⟩ := o
  cases op <;> (try simp only [Op.operands] at he) <;> (try simp only [opK])
  case build t parts => rw [parts_agree (t := none) (by simpa using he)]
  case buildSlice t n parts =>
    have hp : ∀ te : TypeId, (parts.toList.map fun p => (p.1, ev E fr (some te) p.2)) = (parts.toList.map fun p => (p.1, ev E fr' (some te) p.2)) := fun te => parts_agree (t := some te) (by simpa using he)
    simp only [hp]
  case makeFunc fn first cap =>
    cases fn with
    | func f => dsimp only; rw [evs_agree (l := first.toList) fun x hx => he x (by simp [hx]), evs_agree (l := cap.toList) fun x hx => he x (by simp [hx])]
    | _ => rfl
  case makeMap t r => cases r <;> rfl
  case slice t x lo hi mx =>
    have hx := fun t => he x (by simp) t
    have hlo : ∀ y, lo = some y → ∀ t, ev E fr t y = ev E fr' t y := fun y hy t => he y (by subst hy; simp) t
    have hhi : ∀ y, hi = some y → ∀ t, ev E fr t y = ev E fr' t y := fun y hy t => he y (by subst hy; simp) t
    have hmx : ∀ y, mx = some y → ∀ t, ev E fr t y = ev E fr' t y := fun y hy t => he y (by subst hy; simp) t
    have h1 : ∀ (K : Option Int → A.R), optI A.bot E fr lo K = optI A.bot E fr' lo K := fun K => optI_agree hlo
    have h2 : ∀ (K : Option Int → A.R), optI A.bot E fr hi K = optI A.bot E fr' hi K := fun K => optI_agree hhi
    have h3 : ∀ (K : Option Int → A.R), optI A.bot E fr mx K = optI A.bot E fr' mx K := fun K => optI_agree hmx
    simp only [hx none, h1, h2, h3]
  case call c =>
    obtain ⟨callee, cargs, cts⟩ := c
    have ha : ∀ x ∈ cargs.toList, ∀ t, ev E fr t x = ev E fr' t x := fun x hx => he x (by simp only [Call.operands]; cases callee <;> simp_all)
    cases callee with
    | builtin b => dsimp only; rw [evs_agree ha]
    | value f =>
      have hf := fun t => he f (by simp [Call.operands]) t
      dsimp only; rw [evs_agree ha, hf none]
    | invoke r m => rfl
  all_goals first
    | rfl
    | (simp_all; done)
theorem quiet_same {A : Alg} {E : Env} {inl : Inl A.R} {o : Oper} (hq : quietOp E.dl o.op = true) {fr : Fr} {σ : Sto} {K : AV → Sto → A.R} : opK A E inl o fr σ K = opK A E inl o fr σ fun v _ => K v σ := by
  obtain ⟨dst, op, type, pos, after, guard⟩ := o
  cases op <;> first
    | (cases hq; done)
    | rfl
    | skip
  case makeFunc fn first cap => cases fn <;> rfl
  case load t x =>
    have hd : E.dl t = false := by simpa [quietOp] using hq
    simp only [opK, hd, cond_false]
  case call c =>
    obtain ⟨callee, cargs, cts⟩ := c
    cases callee with
    | builtin b => cases b <;> first
      | (cases hq; done)
      | (simp only [opK, builtinK]; split <;> first | rfl | contradiction)
    | _ => cases hq
abbrev OA : Alg := ⟨Option AV, fun _ => none, fun _ _ _ _ => none, fun _ _ _ _ _ => none, fun _ _ => none, fun _ _ _ _ => none⟩
noncomputable def quietV (E : Env) (o : Oper) (fr : Fr) (σ : Sto) : Option AV := opK OA E (fun _ _ _ _ => none) o fr σ fun v _ => some v
theorem quiet_call {E : Env} {o : Oper} (hq : quietOp E.dl o.op = true) : ¬ ∃ c f, o.op = .call c ∧ c.callee = .value f := by
  rintro ⟨c, f, h1, h2⟩
  rw [h1] at hq
  simp [quietOp, h2] at hq
theorem quiet_prop {E : Env} {call} {inl : Inl Prop} {o : Oper} (hq : quietOp E.dl o.op = true) {fr : Fr} {σ : Sto} {K : AV → Sto → Prop} : opK (PA call).nb E inl o fr σ K ↔ ∃ v, quietV E o fr σ = some v ∧ K v σ := by
  rw [quiet_same hq]
  have := opK_par (A1 := OA) (A2 := (PA call).nb) (rel := fun (r : Option AV) (p : Prop) => (∃ v, r = some v ∧ K v σ) ↔ p) (E := E) (i1 := fun _ _ _ _ => none) (i2 := inl) (o := o) (fr := fr) (σ := σ) (K1 := fun v _ => some v) (K2 := fun v _ => K v σ)
    (fun n => ⟨fun ⟨v, h, _⟩ => (by cases h), fun h => False.elim h⟩) (fun _ _ _ _ _ _ => ⟨fun ⟨v, h, _⟩ => (by cases h), fun h => False.elim h⟩) (fun h => (quiet_call hq h).elim) (fun v σ' => ⟨fun ⟨w, h1, h2⟩ => by cases h1; exact h2, fun h => ⟨v, rfl, h⟩⟩)
  exact this.symm
theorem nb_weak {E : Env} {call} {inl : Inl Prop} {o : Oper} (hq : quietOp E.dl o.op = true) {fr : Fr} {σ : Sto} {K : AV → Sto → Prop} (h : opK (PA call).nb E inl o fr σ K) : opK (PA call) E inl o fr σ K :=
  opK_par (A1 := (PA call).nb) (A2 := PA call) (rel := fun p q : Prop => p → q) (fun n h => h) (fun _ _ _ _ _ _ h => False.elim h) (fun h => (quiet_call hq h).elim) (fun v σ h => h) h
end Go.Abs
