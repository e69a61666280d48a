/- Regions whose operations may come in any order: what comes before what; the phases. -/
import Derived.Test.YtdljpdafghdedaaAOpsN
set_option linter.unusedVariables false
set_option linter.unusedSimpArgs false
namespace Go.Abs

/-! ### what comes before -/

def Direct (ops : Array Oper) (listed : Array Bool) (i : Nat) : Prop := ∃ o, ops[i]? = some o ∧ ∀ e ∈ o.after, Region.binds .any e = true → listed.getD e.on false = true
def Closed (ops : Array Oper) (listed : Array Bool) : Prop := ∀ i, listed.getD i false = true → Direct ops listed i
def Before (ops : Array Oper) (i k : Nat) : Prop := ∀ listed, Closed ops listed → Direct ops listed i → listed.getD k false = true

theorem mem_addNew {i k : Nat} {l : List Nat} (h : k ∈ addNew i l) : k = i ∨ k ∈ l := by
  unfold addNew at h
  cases hb : mem i l with
  | true => rw [hb] at h; exact .inr h
  | false => rw [hb] at h; simpa using h
theorem mem_addAll : ∀ {m l : List Nat} {k : Nat}, k ∈ addAll m l → k ∈ m ∨ k ∈ l
  | [], l, k, h => .inr h
  | i :: r, l, k, h => by
    rcases mem_addAll (m := r) h with h | h
    · exact .inl (by simp [h])
    · rcases mem_addNew h with h | h
      · exact .inl (by simp [h])
      · exact .inr h
theorem mem_predOf {T : List (List Nat)} : ∀ {es : List Edge} {acc : List Nat} {k : Nat}, k ∈ predOf T es acc → k ∈ acc ∨ ∃ e ∈ es, Region.binds .any e = true ∧ (k = e.on ∨ k ∈ predAt T e.on)
  | [], acc, k, h => .inl h
  | e :: r, acc, k, h => by
    simp only [predOf] at h
    cases hb : Region.binds .any e with
    | false =>
      rw [hb] at h
      rcases mem_predOf (es := r) h with h | ⟨e', h1, h2⟩
      · exact .inl h
      · exact .inr ⟨e', by simp [h1], h2⟩
    | true =>
      rw [hb] at h
      rcases mem_predOf (es := r) h with h | ⟨e', h1, h2⟩
      · rcases mem_addNew h with h | h
        · exact .inr ⟨e, by simp, hb, .inl h⟩
        · rcases mem_addAll h with h | h
          · exact .inr ⟨e, by simp, hb, .inr h⟩
          · exact .inl h
      · exact .inr ⟨e', by simp [h1], h2⟩

theorem predTab_before {ops : Array Oper} : ∀ (r : List Oper) (T : List (List Nat)), ops.toList.drop T.length = r → (∀ i k, k ∈ predAt T i → Before ops i k) → ∀ i k, k ∈ predAt (predTab r T) i → Before ops i k
  | [], T, _, h => h
  | o :: r, T, hd, h => by
    have hlt : T.length < ops.toList.length := by
      rcases Nat.lt_or_ge T.length ops.toList.length with h1 | h1
      · exact h1
      · rw [List.drop_eq_nil_iff.2 h1] at hd; cases hd
    have ho : ops[T.length]? = some o := by
      have := congrArg (·[0]?) hd
      simpa using this
    have hr : ops.toList.drop (T.length + 1) = r := by
      have := congrArg (List.drop 1) hd
      rw [List.drop_drop] at this
      simpa using this
    refine predTab_before r (T ++ [predOf T o.after.toList []]) (by rw [List.length_append]; exact hr) ?_
    intro i k hk
    unfold predAt at hk
    by_cases hi : i < T.length
    · rw [List.getElem?_append_left hi] at hk
      exact h i k hk
    · by_cases hi2 : i = T.length
      · subst hi2
        rw [List.getElem?_append_right (Nat.le_refl _), Nat.sub_self] at hk
        simp only [List.getElem?_cons_zero] at hk
        rcases mem_predOf hk with hk | ⟨e, h1, h2, h3⟩
        · cases hk
        · intro listed hC hD
          obtain ⟨o', ho', hall⟩ := hD
          rw [ho] at ho'; cases ho'
          have hon := hall e (by simpa using h1) h2
          rcases h3 with rfl | h3
          · exact hon
          · exact h e.on k h3 listed hC (hC e.on hon)
      · rw [List.getElem?_eq_none (by simp; omega)] at hk
        cases hk

theorem tab_before {ops : Array Oper} {i k : Nat} (h : k ∈ predAt (predTab ops.toList []) i) : Before ops i k :=
  predTab_before ops.toList [] (by simp) (fun i k h => by simp [predAt] at h) i k h

/-! ### one quiet operation -/

def pickB (b want : Bool) (x y : Option AV) : Option AV := if b = want then x else y
/-- its value in a frame, its guard seen to -/
noncomputable def qv (E : Env) (all : Array Oper) (o : Oper) (fr : Fr) (σ : Sto) : Option AV :=
  match o.guard with
  | none => quietV E o fr σ
  | some (g, want) =>
    match (all[g]?).bind (·.dst) with
    | none => none
    | some t =>
      match Fr.get fr t with
      | .skip => some .skip
      | .d .bool b => pickB b want (quietV E o fr σ) (some .skip)
      | _ => none

theorem quietV_agree {E : Env} {o : Oper} {fr fr' : Fr} {σ : Sto} (h : ∀ x ∈ o.op.operands.toList, ∀ t, x = .tmp t → Fr.get fr t = Fr.get fr' t) : quietV E o fr σ = quietV E o fr' σ := opK_agree h

theorem looks_op {all : Array Oper} {o : Oper} {x : Operand} {t : Nat} (hx : x ∈ o.op.operands.toList) (ht : x = .tmp t) : t ∈ looks all o := by
  subst ht
  unfold looks
  exact List.mem_append_left _ (List.mem_filterMap.2 ⟨.tmp t, hx, rfl⟩)
theorem looks_guard {all : Array Oper} {o : Oper} {g : Nat} {want : Bool} {t : Nat} (hg : o.guard = some (g, want)) (ht : (all[g]?).bind (·.dst) = some t) : t ∈ looks all o := by
  unfold looks
  rw [hg]
  simp only [ht]
  exact List.mem_append_right _ (by simp)

theorem qv_agree {E : Env} {all : Array Oper} {o : Oper} {fr fr' : Fr} {σ : Sto} (h : ∀ t ∈ looks all o, Fr.get fr t = Fr.get fr' t) : qv E all o fr σ = qv E all o fr' σ := by
  have h1 : quietV E o fr σ = quietV E o fr' σ := quietV_agree fun x hx t ht => h t (looks_op hx ht)
  unfold qv
  split
  · exact h1
  · rename_i g want hg
    split
    · rfl
    · rename_i t ht
      rw [h t (looks_guard hg ht), h1]

theorem evQuiet_prop {E : Env} {call} {inl : Inl Prop} {all : Array Oper} {o : Oper} (hq : quietOp o.op = true) {fr : Fr} {σ : Sto} {K : Fr → AV → Prop} (h : evQuiet (PA call) E inl all o fr σ K) :
    ∃ fr' v, (∀ t, Fr.get fr' t = Fr.get fr t) ∧ qv E all o fr' σ = some v ∧ K fr' v := by
  unfold evQuiet at h
  split at h
  · rename_i hg
    obtain ⟨v, h1, h2⟩ := (quiet_prop hq).1 h
    exact ⟨fr, v, fun _ => rfl, by simp only [qv, hg]; exact h1, h2⟩
  · rename_i g want hg
    split at h
    · exact h.elim
    · rename_i t ht
      split at h
      · rename_i hs
        exact ⟨fr, .skip, fun _ => rfl, by simp only [qv, hg, ht, hs], h⟩
      · rename_i b hb
        have hext : ∀ (c : Bool), b = c → ∀ u, Fr.get ((t, .d .bool c) :: fr) u = Fr.get fr u := by
          intro c hc u
          simp only [Fr.get_cons, Fr.get_nil]
          cases hu : Nat.beq t u with
          | true => rw [← beq_eq.1 hu, hb, hc]; rfl
          | false => rfl
        have hyes : b = want → (opK (PA call).nb E inl o ((t, .d .bool want) :: fr) σ fun v _ => K ((t, .d .bool want) :: fr) v) → ∃ fr' v, (∀ t, Fr.get fr' t = Fr.get fr t) ∧ qv E all o fr' σ = some v ∧ K fr' v := by
          intro he h
          obtain ⟨v, h1, h2⟩ := (quiet_prop hq).1 h
          refine ⟨_, v, hext want he, ?_, h2⟩
          simp only [qv, hg, ht, hext want he t, hb]
          exact (if_pos he).trans h1
        have hno : b = (!want) → K ((t, .d .bool (!want)) :: fr) .skip → ∃ fr' v, (∀ t, Fr.get fr' t = Fr.get fr t) ∧ qv E all o fr' σ = some v ∧ K fr' v := by
          intro he h
          refine ⟨_, .skip, hext (!want) he, ?_, h⟩
          simp only [qv, hg, ht, hext (!want) he t, hb]
          exact if_neg (fun h3 : b = want => by rw [h3] at he; cases want <;> cases he)
        cases want with
        | true =>
          dsimp only [cond_true] at h
          rcases br_prop h with ⟨hb1, h2⟩ | ⟨hb1, h2⟩
          · exact hyes hb1 h2
          · exact hno hb1 h2
        | false =>
          dsimp only [cond_false] at h
          rcases br_prop h with ⟨hb1, h2⟩ | ⟨hb1, h2⟩
          · exact hno hb1 h2
          · exact hyes hb1 h2
      · exact h.elim

/-! ### equal values -/

theorem eqTs_eq {α : Type} {f : α → α → Bool} (hf : ∀ x y, f x y = true → x = y) : ∀ {l m : List α}, eqTs f l m = true → l = m
  | [], [], _ => rfl
  | x :: r, y :: s, h => by
    simp only [eqTs, Bool.and_eq_true] at h
    rw [hf x y h.1, eqTs_eq hf h.2]
  | [], _ :: _, h => by simp [eqTs] at h
  | _ :: _, [], h => by simp [eqTs] at h
theorem eqT_eq : ∀ {t : Ty} {x y : t.T}, eqT t x y = true → x = y
  | .int _, x, y, h => eq_of_beq (α := Int) h
  | .bool, x, y, h => eq_of_beq (α := Bool) h
  | .str, x, y, h => eq_of_beq (α := List UInt8) h
  | .opq _, x, y, _ => rfl
  | .sl e, x, y, h => eqTs_eq (fun x y h => eqT_eq h) h
  | .pair a b, x, y, h => by
    simp only [eqT, Bool.and_eq_true] at h
    exact Prod.ext (eqT_eq h.1) (eqT_eq h.2)
  | .unit, x, y, _ => rfl
  | .arr _ e, x, y, h => eqTs_eq (fun x y h => eqT_eq h) h
theorem eqNs_eq : ∀ {l m : List Nat}, eqNs l m = true → l = m
  | [], [], _ => rfl
  | x :: r, y :: s, h => by
    simp only [eqNs, Bool.and_eq_true] at h
    rw [beq_eq.1 h.1, eqNs_eq h.2]
  | [], _ :: _, h => by simp [eqNs] at h
  | _ :: _, [], h => by simp [eqNs] at h
theorem eqPs_eq : ∀ {l m : List Nat}, eqPs l m = true → l = m
  | [], [], _ => rfl
  | x :: r, y :: s, h => by
    simp only [eqPs, Bool.and_eq_true, decide_eq_true_eq] at h
    rw [h.1, eqPs_eq h.2]
  | [], _ :: _, h => by simp [eqPs] at h
  | _ :: _, [], h => by simp [eqPs] at h
theorem sameB_eq : ∀ {n : Nat} {v w : AV}, sameB n v w = true → v = w := by
  have dd : ∀ {t u : Ty} {x : t.T} {y : u.T}, (if h : t = u then eqT u (cst h x) y else false) = true → ∃ e : t = u, cst e x = y := by
    intro t u x y h
    split at h
    · rename_i e; exact ⟨e, eqT_eq h⟩
    · cases h
  have main : ∀ (f : AV → AV → Bool) (n : Nat), (∀ l l', sameB n (.agg l) (.agg l') = true → l = l') → (∀ l l', sameB n (.tup l) (.tup l') = true → l = l') → ∀ {v w : AV}, sameB n v w = true → v = w := by
    intro f n hagg htup v w h
    cases v <;> cases w <;> (try (simp [sameB] at h; done))
    case skip.skip => rfl
    case d.d t x u y =>
      obtain ⟨e, h1⟩ := dd (by simpa only [sameB] using h)
      subst e; cases h1; rfl
    case dp.dp t x u y =>
      obtain ⟨e, h1⟩ := dd (by simpa only [sameB] using h)
      subst e; cases h1; rfl
    case dx.dx t x u y =>
      have h' : (if h : Ty.sl t = Ty.sl u then eqT (.sl u) (cst h x) y else false) = true := by simpa only [sameB] using h
      obtain ⟨e, h1⟩ := dd h'
      cases e; cases h1; rfl
    case nils.nils t u =>
      have : t = u := by simpa [sameB] using h
      rw [this]
    case vec.vec i j =>
      have : i = j := beq_eq.1 (by simpa only [sameB] using h)
      rw [this]
    case mp.mp i j =>
      have : i = j := beq_eq.1 (by simpa only [sameB] using h)
      rw [this]
    case sl.sl i o l c e i' o' l' c' e' =>
      simp only [sameB, Bool.and_eq_true, beq_iff_eq, decide_eq_true_eq] at h
      obtain ⟨h1, h5, h2, h3, h4⟩ := h
      rw [beq_eq.1 h1, h2, h3, h4, h5]
    case ptr.ptr i k p i' k' p' =>
      simp only [sameB, Bool.and_eq_true, decide_eq_true_eq] at h
      rw [beq_eq.1 h.1, h.2.1, eqPs_eq h.2.2]
    case asl.asl i k p e n i' k' p' e' n' =>
      simp only [sameB, Bool.and_eq_true, decide_eq_true_eq, beq_iff_eq] at h
      rw [beq_eq.1 h.1, h.2.1, eqPs_eq h.2.2.1, h.2.2.2.1, h.2.2.2.2]
    case agg.agg l l' => rw [hagg l l' h]
    case tup.tup l l' => rw [htup l l' h]
  intro n
  induction n with
  | zero => exact main (sameB 0) 0 (fun l l' h => by simp [sameB] at h) (fun l l' h => by simp [sameB] at h)
  | succ n ih => exact main (sameB n) (n + 1) (fun l l' h => eqTs_eq (f := sameB n) (fun x y h => ih h) (by simpa only [sameB] using h)) (fun l l' h => eqTs_eq (f := sameB n) (fun x y h => ih h) (by simpa only [sameB] using h))

end Go.Abs
