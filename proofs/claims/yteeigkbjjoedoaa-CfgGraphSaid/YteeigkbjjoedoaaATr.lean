/- Bodies whose calls and loops are known by specifications. -/
import Derived.Test.YteeigkbjjoedoaaAPar3
set_option linter.unusedVariables false
namespace Go.Abs
abbrev PS (S : FuncId → List AV → Sto → (AV → Sto → Prop) → Prop) (L : Fr → Sto → (Exit → Fr → Sto → Prop) → Prop) : Alg := ⟨Prop, fun _ => False, S, fun _ _ K fr σ => L fr σ K, And, fun _ K fr σ => L fr σ K⟩
def slotsOk (keep : List (Nat × List Nat)) (r : Option Nat) (fr : Fr) : Prop := ∀ L, r.bind (lookup keep) = some L → fr.map (·.1) = L
theorem fillFr_slots {z : Bool} : ∀ (fr : Fr) (n : Nat), (fillFr z fr n).1.map (·.1) = fr.map (·.1)
  | [], n => rfl
  | (t, v) :: r, n => by
    simp only [fillFr, List.map_cons]
    rw [fillFr_slots r]
theorem norm_slots {bot : Nat → Prop} (hb : ∀ n, ¬ bot n) {m : Nat} {L : List Nat} {fr : Fr} {σ : Sto} {K : Fr → Sto → Prop} {z : Bool} : norm z bot m L fr σ K → norm z bot m L fr σ (fun fr' σ' => fr'.map (·.1) = L ∧ K fr' σ') := by
  unfold norm
  dsimp only
  generalize (!(nodupB _ && prefixOk _ _ _)) = bb
  cases bb with
  | true => exact fun h => absurd h (hb _)
  | false =>
    intro h
    dsimp only [cond_false] at h ⊢
    split at h
    · exact absurd h (hb _)
    · rename_i τ hτ
      refine ⟨?_, h⟩
      rw [fillFr_slots, List.map_map, List.map_map]
      exact (List.map_congr_left (g := id) fun x _ => rfl).trans (List.map_id _)
theorem cutK_slots {bot : Nat → Prop} (hb : ∀ n, ¬ bot n) {keep : List (Nat × List Nat)} {m : Nat} {r : Option Nat} {fr : Fr} {σ : Sto} {K : Fr → Sto → Prop} (h : cutK bot keep m r fr σ K) : cutK bot keep m r fr σ (fun fr' σ' => slotsOk keep r fr' ∧ K fr' σ') := by
  unfold cutK at h ⊢
  split at h
  · rename_i L hL
    revert h
    refine norm_par (rel := fun p q : Prop => p → q) (fun n h => h) fun fr σ h => ?_
    have h := norm_slots hb h
    revert h
    refine norm_par (rel := fun p q : Prop => p → q) (fun n h => h) fun fr σ h => ⟨fun L' hL' => ?_, h.2⟩
    rw [hL] at hL'
    cases hL'
    exact h.1
  · rename_i hL
    exact ⟨(fun L' hL' => by rw [hL] at hL'; cases hL'), h⟩
def LoopOK (E : Env) (i : Inl Prop) (keep : List (Nat × List Nat)) (m nt : Nat) (L : Fr → Sto → (Exit → Fr → Sto → Prop) → Prop) (c : Code) : Prop :=
  ∀ fr σ K, slotsOk keep (firstR c) fr → L fr σ K → propLoop (cutK (fun _ => False) keep m (firstR c)) (fun k => evC ⟨PA (ACall E), E, i, keep, m, nt⟩ c (exitK (fun _ => False) keep m (firstR c) k)) K fr σ
def JoinOK (E : Env) (i : Inl Prop) (keep : List (Nat × List Nat)) (m nt : Nat) (L : Fr → Sto → (Exit → Fr → Sto → Prop) → Prop) (r : Nat) (c : Code) : Prop :=
  ∀ fr σ K, slotsOk keep (some r) fr → L fr σ K → evC ⟨PA (ACall E), E, i, keep, m, nt⟩ c (endCut (fun _ => False) keep m (some r) K) fr σ
def SubOK (E : Env) (i : Inl Prop) (keep : List (Nat × List Nat)) (m nt : Nat) (L : Fr → Sto → (Exit → Fr → Sto → Prop) → Prop) : Part → Prop
  | .loop c => LoopOK E i keep m nt L c
  | .join r c => JoinOK E i keep m nt L r c
theorem propLoop_mono {N : Fr → Sto → (Fr → Sto → Prop) → Prop} {body : (Exit → Fr → Sto → Prop) → Fr → Sto → Prop} {K1 K2 : Exit → Fr → Sto → Prop} (hK : ∀ e fr σ, K1 e fr σ → K2 e fr σ)
    (hB : ∀ k1 k2 : Exit → Fr → Sto → Prop, (∀ e fr σ, k1 e fr σ → k2 e fr σ) → ∀ fr σ, body k1 fr σ → body k2 fr σ) {fr : Fr} {σ : Sto} (h : propLoop N body K1 fr σ) : propLoop N body K2 fr σ := by
  intro I hI
  refine h I fun fr σ hb => hI fr σ (hB _ _ (fun e fr σ h => ?_) fr σ hb)
  cases e <;> first
    | exact h
    | exact hK _ _ _ h
def SpecOK (E : Env) (S : FuncId → List AV → Sto → (AV → Sto → Prop) → Prop) : Prop := ∀ f args τ K, S f args τ K → ACall E f args τ K
theorem algRel0 {E : Env} {S L} (hS : SpecOK E S) : AlgRel0 (PS S L) (PA (ACall E)) (fun p q : Prop => p → q) :=
  ⟨fun n h => h, fun f args τ K1 K2 hK h => (hS f args τ K1 h).mono hK, fun _ _ _ _ h1 h2 h => ⟨h1 h.1, h2 h.2⟩⟩
theorem relSelf {E : Env} : AlgRel (PA (ACall E)) (PA (ACall E)) (fun p q : Prop => p → q) := imp_rel fun f args τ K1 K2 hK h => h.mono hK
theorem evC_tr {E : Env} {S L} (hS : SpecOK E S) {i1 i2 : Inl Prop} (hi : CallRel (PS S L) (PA (ACall E)) (fun p q : Prop => p → q) i1 i2) (hi2 : CallRel (PA (ACall E)) (PA (ACall E)) (fun p q : Prop => p → q) i2 i2)
    {keep : List (Nat × List Nat)} {m nt : Nat} : ∀ (c : Code), (∀ c' ∈ subsOf keep c, SubOK E i2 keep m nt L c') → ∀ {K1 K2 : Exit → Fr → Sto → Prop}, (∀ e fr σ, K1 e fr σ → K2 e fr σ) → ∀ fr σ,
    evC ⟨PS S L, E, i1, keep, m, nt⟩ c K1 fr σ → evC ⟨PA (ACall E), E, i2, keep, m, nt⟩ c K2 fr σ := by
  intro c
  induction c with
  | skip => intro _ K1 K2 hK fr σ h; exact hK _ _ _ h
  | ret => intro _ K1 K2 hK fr σ h; exact hK _ _ _ h
  | exit id => intro _ K1 K2 hK fr σ h; exact hK _ _ _ h
  | region id ops draw =>
    intro _ K1 K2 hK fr σ
    have hA := algRel0 (L := L) hS
    exact cutK_par (rel := fun p q : Prop => p → q) (fun n h => h) fun fr σ => regK_par hA hi hK
  | seq x y ihx ihy =>
    intro hl K1 K2 hK fr σ
    have key : (∀ c' ∈ subsOf keep x, SubOK E i2 keep m nt L c') ∧ ∀ {K1 K2 : Exit → Fr → Sto → Prop}, (∀ e fr σ, K1 e fr σ → K2 e fr σ) → ∀ fr σ, joinK ⟨PS S L, E, i1, keep, m, nt⟩ (joinKey x y) (evC ⟨PS S L, E, i1, keep, m, nt⟩ y) K1 fr σ → joinK ⟨PA (ACall E), E, i2, keep, m, nt⟩ (joinKey x y) (evC ⟨PA (ACall E), E, i2, keep, m, nt⟩ y) K2 fr σ := by
      unfold joinK
      dsimp only
      cases hk : joinKey x y with
      | none =>
        simp only [subsOf, hk] at hl
        exact ⟨fun c hc => hl c (List.mem_append_left _ hc), fun hK fr σ => ihy (fun c hc => hl c (List.mem_append_right _ hc)) hK fr σ⟩
      | some r =>
        cases hr : lookup keep r with
        | none =>
          simp only [subsOf, hk, hr] at hl
          refine ⟨fun c hc => hl c (List.mem_append_left _ hc), fun hK fr σ => ?_⟩
          simp only [Option.bind_some, hr]
          exact ihy (fun c hc => hl c (List.mem_append_right _ hc)) hK fr σ
        | some sl =>
          simp only [subsOf, hk, hr] at hl
          refine ⟨fun c hc => hl c (List.mem_cons_of_mem _ hc), fun {K1 K2} hK fr σ h => ?_⟩
          simp only [Option.bind_some, hr] at h ⊢
          have h := cutK_slots (fun n h => h) h
          revert h
          refine cutK_par (rel := fun p q : Prop => p → q) (fun n h => h) fun fr σ h => ?_
          refine evC_par relSelf hi2 y (fun e fr σ => endCut_par (rel := fun p q : Prop => p → q) (fun n h => h) hK e fr σ) fr σ (hl (.join r y) (by simp) fr σ _ h.1 h.2)
    refine ihx key.1 (fun e fr σ => ?_) fr σ
    cases e <;> first
      | exact key.2 hK _ _
      | exact hK _ _ _
  | block id c ih =>
    intro hl K1 K2 hK fr σ
    refine ih hl (fun e fr σ => ?_) fr σ
    cases e <;> first
      | exact hK _ _ _
      | exact bif_par (rel := fun p q : Prop => p → q) (hK _ _ _) (hK _ _ _)
  | cond c x y ihx ihy =>
    intro hl K1 K2 hK fr σ
    have hx := ihx (fun c hc => hl c (List.mem_append_left _ hc)) hK
    have hy := ihy (fun c hc => hl c (List.mem_append_right _ hc)) hK
    simp only [evC, condK]
    split
    · split
      · exact br_par (rel := fun p q : Prop => p → q) (hx _ _) (hy _ _)
      · exact br_par (rel := fun p q : Prop => p → q) (hx _ _) (hy _ _)
    · exact fun h => h
  | loop c ih =>
    intro hl K1 K2 hK fr σ
    intro h
    have h := cutK_slots (fun n h => h) h
    revert h
    refine cutK_par (rel := fun p q : Prop => p → q) (fun n h => h) fun fr σ h => ?_
    refine propLoop_mono hK (fun k1 k2 hk fr σ => evC_par relSelf hi2 c (fun e fr σ => exitK_par (rel := fun p q : Prop => p → q) (fun n h => h) hk e fr σ) fr σ) (hl (.loop c) (by simp [subsOf]) fr σ _ h.1 h.2)
  | _ => intro _ K1 K2 hK fr σ h; exact h.elim
theorem inlF_self {E : Env} (n : Nat) : CallRel (PA (ACall E)) (PA (ACall E)) (fun p q : Prop => p → q) (inlF (PA (ACall E)) E n) (inlF (PA (ACall E)) E n) := inlF_par relSelf n
def InlOK (E : Env) (L : Fr → Sto → (Exit → Fr → Sto → Prop) → Prop) : Prop :=
  ∀ f fn c n m, (E.info f).inl = true → E.fn f = some fn → fn.body = some c → ∀ c' ∈ subsOf (E.info f).keep c, SubOK E (inlF (PA (ACall E)) E n) (E.info f).keep m fn.ntmps L c'
theorem inlF_tr {E : Env} {S L} (hS : SpecOK E S) (hL : InlOK E L) : ∀ n, CallRel (PS S L) (PA (ACall E)) (fun p q : Prop => p → q) (inlF (PS S L) E n) (inlF (PA (ACall E)) E n)
  | 0 => fun f args τ K1 K2 hK h => h
  | n + 1 => fun f args τ K1 K2 hK => by
    unfold inlF
    split
    · rename_i fn hf
      split
      · rename_i c hc
        cases hi : (E.info f).inl with
        | false => exact fun h => h.elim
        | true => exact bif_par (rel := fun p q : Prop => p → q) (fun h => h) (evC_tr hS (inlF_tr hS hL n) (inlF_self n) c (fun c' h' => hL f fn c n _ hi hf hc c' h') (fun e fr σ => endK_par (rel := fun p q : Prop => p → q) (fun n h => h) hK e fr σ) _ _)
      · exact fun h => h
    · exact fun h => h
theorem ACall.spec {E : Env} {S L} (hS : SpecOK E S) {f : FuncId} {fn : Func} {c : Code} (hf : E.fn f = some fn) (hc : fn.body = some c) {args : List AV} {τ : Sto} {Q : AV → Sto → Prop}
    (hL : InlOK E L)
    (hl : ∀ c' ∈ subsOf (E.info f).keep c, SubOK E (inlF (PA (ACall E)) E 8) (E.info f).keep τ.length fn.ntmps L c')
    (h : evFn (PS S L) E f args τ Q) : ACall E f args τ Q := by
  refine ACall.intro ?_
  have e1 : ∀ A : Alg, ∀ Q : AV → Sto → A.R, evFn A E f args τ Q = bif !Nat.ble args.length fn.ntmps then (A.bot 937) else evC ⟨A, E, inlF A E 8, (E.info f).keep, τ.length, fn.ntmps⟩ c (endK A.R A.bot E fn fun v σ => normRet (deepZ (E.info f).keep) A.bot τ.length v (closeS τ.length (v.ids depth) σ) fun v σ => Q v (σ.map Ob.weak)) (frame0 0 args) τ := by
    intro A Q
    unfold evFn
    rw [hf]
    dsimp only
    rw [hc]
  rw [e1] at h ⊢
  revert h
  refine bif_par (rel := fun p q : Prop => p → q) (fun h => h) fun h => evC_tr hS (inlF_tr hS hL 8) (inlF_self 8) c hl (fun e fr σ => endK_par (rel := fun p q : Prop => p → q) (fun n h => h) (fun v σ => normRet_par (rel := fun p q : Prop => p → q) (fun n h => h) fun v σ h => h) e fr σ) _ _ h
end Go.Abs
