/- From the evaluation of examples to facts. -/
import Derived.Test.YteeigkbjjoedoaaAPar2
import Derived.Test.YteeigkbjjoedoaaAOpsM
set_option linter.unusedVariables false
namespace Go.Abs
def Sat (Q : AV → Sto → Prop) (r : Res) (p : Prop) : Prop := ∀ v τ, r = .ok v τ → Q v τ → p
theorem optLoop_sat {Q : AV → Sto → Prop} {k : Nat} {N1 : Fr → Sto → (Fr → Sto → Res) → Res} {N2 : Fr → Sto → (Fr → Sto → Prop) → Prop} {body1 : (Exit → Fr → Sto → Res) → Fr → Sto → Res} {body2 : (Exit → Fr → Sto → Prop) → Fr → Sto → Prop} {K1 : Exit → Fr → Sto → Res} {K2 : Exit → Fr → Sto → Prop}
    (hN : ∀ fr σ k1 k2, (∀ fr σ, Sat Q (k1 fr σ) (k2 fr σ)) → Sat Q (N1 fr σ k1) (N2 fr σ k2)) (hB : ∀ k1 k2, (∀ e fr σ, Sat Q (k1 e fr σ) (k2 e fr σ)) → ∀ fr σ, Sat Q (body1 k1 fr σ) (body2 k2 fr σ))
    (hK : ∀ e fr σ, Sat Q (K1 e fr σ) (K2 e fr σ)) (fr : Fr) (σ : Sto) : Sat Q (optLoop k N1 body1 K1 fr σ) (propLoop N2 body2 K2 fr σ) := by
  intro v τ hr hQ I hI
  have key : ∀ n fr σ, Sat Q (optLoop.go N1 body1 K1 n fr σ) (I fr σ) := by
    intro n
    induction n with
    | zero => intro fr σ v τ h; cases h
    | succ n ih =>
      intro fr σ v τ h hQ
      refine hI fr σ (hB _ _ (fun e fr σ => ?_) fr σ v τ h hQ)
      cases e <;> first
        | exact hN fr σ _ _ ih
        | exact hK _ _ _
  exact key k fr σ v τ hr hQ
theorem run_sat {E : Env} : ∀ (k : Nat) {f : FuncId} {args : List AV} {τ : Sto} {v : AV} {τ' : Sto} {Q : AV → Sto → Prop}, run E k f args τ = .ok v τ' → Q v τ' → ACall E f args τ Q
  | 0, f, args, τ, v, τ', Q, h, _ => by cases h
  | k + 1, f, args, τ, v, τ', Q, h, hQ => by
    intro R hR
    refine hR _ _ _ _ ?_
    have hA : AlgRel ⟨Res, .no, fun f args τ K => match run E k f args τ with | .ok v τ' => K v τ' | .no n => .no (n + 1000 * (f + 1)), optLoop k, fun _ _ => .no 946, fun b K => b K⟩ (PA R) (Sat Q) := by
      refine ⟨⟨fun n v τ h => (by cases h), fun f args τ K1 K2 hK v τ2 h hq => ?_, fun _ _ _ _ _ _ v τ h => (by cases h)⟩, fun hN hB hK fr σ => optLoop_sat hN hB hK fr σ, fun hB hK fr σ => hB _ _ hK fr σ⟩
      dsimp only at h
      split at h
      · rename_i v1 τ1 hrun
        exact run_sat k hrun (Q := K2) (hK v1 τ1 v τ2 h hq) R hR
      · cases h
    exact evFn_par (K1 := fun v τ => .ok v τ) (K2 := Q) hA (fun v σ v' σ' h hq => by cases h; exact hq) v τ' h hQ
theorem imp_rel {c1 c2 : FuncId → List AV → Sto → (AV → Sto → Prop) → Prop} (hc : ∀ f args τ K1 K2, (∀ v τ, K1 v τ → K2 v τ) → c1 f args τ K1 → c2 f args τ K2) : AlgRel (PA c1) (PA c2) (fun p q : Prop => p → q) := by
  refine ⟨⟨fun n h => h, fun f args τ K1 K2 hK h => hc f args τ K1 K2 hK h, fun _ _ _ _ h1 h2 h => ⟨h1 h.1, h2 h.2⟩⟩, fun {N1 N2 b1 b2 K1 K2} hN hB hK fr σ h => ?_, fun hB hK fr σ => hB _ _ hK fr σ⟩
  intro I hI
  refine h I fun fr σ hb => hI fr σ (hB _ _ (fun e fr σ => ?_) fr σ hb)
  cases e <;> first
    | exact hN _ _ _ _ (fun _ _ h => h)
    | exact hK _ _ _
theorem ACall.mono {E : Env} {f : FuncId} {args : List AV} {τ : Sto} {Q Q' : AV → Sto → Prop} (h : ACall E f args τ Q) (hQ : ∀ v σ, Q v σ → Q' v σ) : ACall E f args τ Q' := by
  intro R hR
  refine h (fun f args τ Q => ∀ Q', (∀ v σ, Q v σ → Q' v σ) → R f args τ Q') (fun f args τ Q h Q' hQ => ?_) Q' hQ
  exact hR _ _ _ _ (evFn_par (K1 := Q) (K2 := Q') (imp_rel fun f args τ K1 K2 hK h => h K2 hK) hQ h)
theorem ACall.intro {E : Env} {f : FuncId} {args : List AV} {τ : Sto} {Q : AV → Sto → Prop} (h : evFn (PA (ACall E)) E f args τ Q) : ACall E f args τ Q := by
  intro R hR
  refine hR _ _ _ _ ?_
  have hA : AlgRel (PA (ACall E)) (PA R) (fun p q : Prop => p → q) := imp_rel fun f args τ K1 K2 hK h => (h.mono hK) R hR
  exact evFn_par (K1 := Q) (K2 := Q) hA (fun _ _ h => h) h
end Go.Abs
