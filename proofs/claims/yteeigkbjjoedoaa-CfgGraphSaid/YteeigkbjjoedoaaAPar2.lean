/- The evaluator is alike at all answer types. -/
import Derived.Test.YteeigkbjjoedoaaADef
import Derived.Test.YteeigkbjjoedoaaAPlan
set_option linter.unusedVariables false
namespace Go.Abs
section
variable {R1 R2 : Type} {rel : R1 → R2 → Prop} {b1 : Nat → R1} {b2 : Nat → R2}
theorem br_par {b : Bool} {x1 y1 : R1} {x2 y2 : R2} (hx : rel x1 x2) (hy : rel y1 y2) : rel (br b x1 y1) (br b x2 y2) := by
  cases b
  · exact hy
  · exact hx
theorem bif_par {b : Bool} {x1 y1 : R1} {x2 y2 : R2} (hx : rel x1 x2) (hy : rel y1 y2) : rel (bif b then x1 else y1) (bif b then x2 else y2) := by
  cases b
  · exact hy
  · exact hx
theorem need_par {α : Type} {o : Option α} {n : Nat} {K1 : α → R1} {K2 : α → R2} (hb : ∀ n, rel (b1 n) (b2 n)) (hK : ∀ x, rel (K1 x) (K2 x)) : rel (need (b1 n) o K1) (need (b2 n) o K2) := by
  cases o
  · exact hb n
  · exact hK _
theorem getD_par (hb : ∀ n, rel (b1 n) (b2 n)) : ∀ {t : Ty} {x : t.T} {p : List Nat} {K1 : (u : Ty) → u.T → R1} {K2 : (u : Ty) → u.T → R2}, (∀ u y, rel (K1 u y) (K2 u y)) → rel (getD b1 t x p K1) (getD b2 t x p K2) := by
  intro t
  induction t with
  | pair a b iha ihb =>
    intro x p K1 K2 hK
    cases p with
    | nil => exact hK _ _
    | cons k p =>
      cases k with
      | zero => exact iha hK
      | succ k => exact ihb hK
  | arr n e ih =>
    intro x p K1 K2 hK
    cases p with
    | nil => exact hK _ _
    | cons k p => simp only [getD]; exact need_par hb fun y => ih hK
  | _ =>
    intro x p K1 K2 hK
    cases p with
    | nil => exact hK _ _
    | cons k p => simp only [getD]; exact hb _
theorem getAV_par (hb : ∀ n, rel (b1 n) (b2 n)) : ∀ {n : Nat} {v : AV} {p : List Nat} {K1 : AV → R1} {K2 : AV → R2}, (∀ v, rel (K1 v) (K2 v)) → rel (getAV b1 n v p K1) (getAV b2 n v p K2) := by
  intro n
  induction n with
  | zero =>
    intro v p K1 K2 hK
    cases p with
    | nil => exact hK _
    | cons k p => exact hb _
  | succ n ih =>
    intro v p K1 K2 hK
    cases p with
    | nil => exact hK _
    | cons k p =>
      cases v with
      | d t x => exact getD_par hb fun u y => hK _
      | agg l =>
        simp only [getAV]
        cases l[k]? with
        | none => exact hb _
        | some w => exact ih hK
      | _ => exact hb _
theorem setD_par (hb : ∀ n, rel (b1 n) (b2 n)) : ∀ {t : Ty} {x : t.T} {p : List Nat} {u : Ty} {y : u.T} {K1 : t.T → R1} {K2 : t.T → R2}, (∀ z, rel (K1 z) (K2 z)) → rel (setD b1 t x p u y K1) (setD b2 t x p u y K2) := by
  intro t
  induction t with
  | pair a b iha ihb =>
    intro x p u y K1 K2 hK
    cases p with
    | nil => simp only [setD]; split <;> first | exact hK _ | exact hb _
    | cons k p =>
      cases k with
      | zero => exact iha fun z => hK _
      | succ k => exact ihb fun z => hK _
  | arr n e ih =>
    intro x p u y K1 K2 hK
    cases p with
    | nil => simp only [setD]; split <;> first | exact hK _ | exact hb _
    | cons k p => simp only [setD]; exact need_par hb fun z => ih fun z' => hK _
  | _ =>
    intro x p u y K1 K2 hK
    cases p with
    | nil => simp only [setD]; split <;> first | exact hK _ | exact hb _
    | cons k p => simp only [setD]; exact hb _
theorem setAV_par (hb : ∀ n, rel (b1 n) (b2 n)) {σ : Sto} : ∀ (n : Nat),
    (∀ {t : Ty} {old : AV} {p : List Nat} {v : AV} {K1 : AV → R1} {K2 : AV → R2}, (∀ z, rel (K1 z) (K2 z)) → rel (setAV b1 σ n t old p v K1) (setAV b2 σ n t old p v K2)) ∧
    (∀ {t : Ty} {l : List AV} {k : Nat} {p : List Nat} {v : AV} {K1 : List AV → R1} {K2 : List AV → R2}, (∀ z, rel (K1 z) (K2 z)) → rel (setAV.setAVs b1 σ n t l k p v K1) (setAV.setAVs b2 σ n t l k p v K2)) := by
  intro n
  induction n with
  | zero =>
    refine ⟨fun {t old p v K1 K2} hK => ?_, fun {t l k p v K1 K2} hK => ?_⟩
    · cases p with
      | nil => simp only [setAV]; exact bif_par (hK _) (hb _)
      | cons k p => exact hb _
    · simp only [setAV.setAVs]; exact hb _
  | succ n ih =>
    refine ⟨fun {t old p v K1 K2} hK => ?_, fun {t l k p v K1 K2} hK => ?_⟩
    · cases p with
      | nil => simp only [setAV]; exact bif_par (hK _) (hb _)
      | cons k p =>
        cases old with
        | d u x =>
          cases v <;> simp only [setAV] <;> first
            | exact setD_par hb fun z => hK _
            | exact bif_par (ih.2 fun l => hK _) (hb _)
        | agg l => exact ih.2 fun l => hK _
        | _ => exact hb _
    · cases t <;> cases l <;> cases k <;> simp only [setAV.setAVs] <;> first
        | exact hb _
        | exact ih.1 fun z => hK _
        | exact ih.2 fun z => hK _
theorem norm_par (hb : ∀ n, rel (b1 n) (b2 n)) {m : Nat} {L : List Nat} {fr : Fr} {σ : Sto} {z : Bool} {K1 : Fr → Sto → R1} {K2 : Fr → Sto → R2} (hK : ∀ fr σ, rel (K1 fr σ) (K2 fr σ)) : rel (norm z b1 m L fr σ K1) (norm z b2 m L fr σ K2) := by
  unfold norm
  refine bif_par (hb _) ?_
  split
  · exact hb _
  · exact hK _ _
theorem normRet_par (hb : ∀ n, rel (b1 n) (b2 n)) {m : Nat} {v : AV} {σ : Sto} {z : Bool} {K1 : AV → Sto → R1} {K2 : AV → Sto → R2} (hK : ∀ v σ, rel (K1 v σ) (K2 v σ)) : rel (normRet z b1 m v σ K1) (normRet z b2 m v σ K2) := by
  unfold normRet
  refine bif_par (hb _) ?_
  split
  · exact hK _ _
  · exact hb _
theorem intOp_par (hb : ∀ n, rel (b1 n) (b2 n)) {op : BinOp} {k : IntKind} {x y : Int} {K1 : AV → R1} {K2 : AV → R2} (hK : ∀ v, rel (K1 v) (K2 v)) : rel (intOp b1 op k x y K1) (intOp b2 op k x y K2) := by
  cases op <;> simp only [intOp] <;> first
    | exact hK _
    | exact hb _
    | exact br_par (hb _) (hK _)
theorem shOp_par (hb : ∀ n, rel (b1 n) (b2 n)) {op : BinOp} {k : IntKind} {x y : Int} {K1 : AV → R1} {K2 : AV → R2} (hK : ∀ v, rel (K1 v) (K2 v)) : rel (shOp b1 op k x y K1) (shOp b2 op k x y K2) := by
  cases op <;> simp only [shOp] <;> first
    | exact hb _
    | exact br_par (hb _) (hK _)
theorem strOp_par (hb : ∀ n, rel (b1 n) (b2 n)) {op : BinOp} {x y : List UInt8} {K1 : AV → R1} {K2 : AV → R2} (hK : ∀ v, rel (K1 v) (K2 v)) : rel (strOp b1 op x y K1) (strOp b2 op x y K2) := by
  cases op <;> simp only [strOp] <;> first
    | exact hK _
    | exact hb _
    | exact br_par (hK _) (hb _)
theorem eqK_par (hb : ∀ n, rel (b1 n) (b2 n)) {x y : AV} {K1 : Bool → R1} {K2 : Bool → R2} (hK : ∀ v, rel (K1 v) (K2 v)) : rel (eqK b1 x y K1) (eqK b2 x y K2) := by
  unfold eqK
  split
  · exact hK _
  · exact hb _
  · exact hb _
  · split
    · exact hK _
    · exact hb _
  · split
    · exact hK _
    · exact hb _
  · split
    · exact bif_par (hK _) (hb _)
    · exact hb _
  · exact hb _
theorem binK_par (hb : ∀ n, rel (b1 n) (b2 n)) {σ : Sto} {op : BinOp} {ty : Option Ty} {x y : AV} {K1 : AV → R1} {K2 : AV → R2} (hK : ∀ v, rel (K1 v) (K2 v)) : rel (binK b1 σ op ty x y K1) (binK b2 σ op ty x y K2) := by
  unfold binK
  split
  · split
    · exact shOp_par hb hK
    · exact shOp_par hb hK
    · exact bif_par (intOp_par hb hK) (hb _)
  · exact strOp_par hb hK
  · split
    · refine bif_par ?_ (hb _)
      split
      · exact eqK_par hb fun b => hK _
      · exact eqK_par hb fun b => hK _
      · exact hb _
    · exact hb _
theorem slNil_par {bo1 : R1 → R1 → R1} {bo2 : R2 → R2 → R2} (hb : ∀ n, rel (b1 n) (b2 n)) (hbo : ∀ x1 y1 x2 y2, rel x1 x2 → rel y1 y2 → rel (bo1 x1 y1) (bo2 x2 y2)) {σ : Sto} {x : AV} {K1 : Bool → R1} {K2 : Bool → R2} (hK : ∀ v, rel (K1 v) (K2 v)) : rel (slNil b1 bo1 σ x K1) (slNil b2 bo2 σ x K2) := by
  unfold slNil
  split <;> first
    | exact hK _
    | exact br_par (hbo _ _ _ _ (hK _) (hK _)) (hK _)
    | exact hb _
    | (split <;> first | exact br_par (hbo _ _ _ _ (hK _) (hK _)) (hK _) | exact hb _)
theorem slCmp_par {bo1 : R1 → R1 → R1} {bo2 : R2 → R2 → R2} (hb : ∀ n, rel (b1 n) (b2 n)) (hbo : ∀ x1 y1 x2 y2, rel x1 x2 → rel y1 y2 → rel (bo1 x1 y1) (bo2 x2 y2)) {σ : Sto} {op : BinOp} {x y : AV} {K1 : AV → R1} {K2 : AV → R2} (hK : ∀ v, rel (K1 v) (K2 v)) : rel (slCmp b1 bo1 σ op x y K1) (slCmp b2 bo2 σ op x y K2) := by
  unfold slCmp
  split
  · split <;> first
      | exact slNil_par hb hbo fun b => hK _
      | exact hb _
  · exact hb _
theorem lenK_par (hb : ∀ n, rel (b1 n) (b2 n)) {σ : Sto} {x : AV} {K1 : AV → R1} {K2 : AV → R2} (hK : ∀ v, rel (K1 v) (K2 v)) : rel (lenK b1 σ x K1) (lenK b2 σ x K2) := by
  unfold lenK
  dsimp only
  split <;> first
    | exact hK _
    | exact hb _
    | (split <;> first | exact hK _ | exact hb _)
theorem capK_par (hb : ∀ n, rel (b1 n) (b2 n)) {σ : Sto} {x : AV} {K1 : AV → R1} {K2 : AV → R2} (hK : ∀ v, rel (K1 v) (K2 v)) : rel (capK b1 σ x K1) (capK b2 σ x K2) := by
  unfold capK
  dsimp only
  split <;> first
    | exact hK _
    | exact hb _
    | (split <;> first | exact hK _ | exact hb _)
theorem idxK_par (hb : ∀ n, rel (b1 n) (b2 n)) {σ : Sto} {x : AV} {i : Int} {K1 : AV → R1} {K2 : AV → R2} (hK : ∀ v, rel (K1 v) (K2 v)) : rel (idxK b1 σ x i K1) (idxK b2 σ x i K2) := by
  unfold idxK
  split <;> first
    | exact need_par hb fun y => hK _
    | exact hb _
    | (split <;> first | exact br_par (hK _) (hb _) | exact hb _)
theorem fieldD_par (hb : ∀ n, rel (b1 n) (b2 n)) : ∀ {t : Ty} {x : t.T} {k : Nat} {K1 : (u : Ty) → u.T → R1} {K2 : (u : Ty) → u.T → R2}, (∀ u y, rel (K1 u y) (K2 u y)) → rel (fieldD b1 t x k K1) (fieldD b2 t x k K2) := by
  intro t
  induction t with
  | pair a b iha ihb =>
    intro x k K1 K2 hK
    cases k with
    | zero => exact hK _ _
    | succ k => exact ihb hK
  | _ => intro x k K1 K2 hK; exact hb _
theorem loadK_par (hb : ∀ n, rel (b1 n) (b2 n)) {σ : Sto} {p : AV} {K1 : AV → R1} {K2 : AV → R2} (hK : ∀ v, rel (K1 v) (K2 v)) : rel (loadK b1 σ p K1) (loadK b2 σ p K2) := by
  unfold loadK
  split
  · exact hK _
  · split
    · exact need_par hb fun x => getD_par hb fun u y => hK _
    · exact bif_par (getAV_par hb hK) (hb _)
    · exact hb _
  · exact hb _
theorem dropK_par (hb : ∀ n, rel (b1 n) (b2 n)) {σ : Sto} {i : Nat} {K1 : List (Nat × Nat) → R1} {K2 : List (Nat × Nat) → R2} (hK : ∀ l, rel (K1 l) (K2 l)) : ∀ {hs acc : List (Nat × Nat)}, rel (dropK b1 σ i hs acc K1) (dropK b2 σ i hs acc K2)
  | [], acc => hK acc
  | _ :: _, _ => br_par (dropK_par hb hK) (bif_par (hb _) (dropK_par hb hK))
theorem slotK_par (hb : ∀ n, rel (b1 n) (b2 n)) {σ : Sto} {id i : Nat} {t : Ty} {xs : List (List t.T)} {hs : List (Nat × Nat)} {v : AV} {K1 : Sto → R1} {K2 : Sto → R2} (hK : ∀ v, rel (K1 v) (K2 v)) : rel (slotK b1 σ id i t xs hs v K1) (slotK b2 σ id i t xs hs v K2) := by
  unfold slotK
  refine need_par hb fun _ => ?_
  split
  · split
    · exact bif_par (dropK_par hb fun _ => hK _) (hb _)
    · exact hb _
  · exact bif_par (dropK_par hb fun _ => hK _) (hb _)
  · exact hb _
theorem borrowK_par (hb : ∀ n, rel (b1 n) (b2 n)) {σ : Sto} {id i : Nat} {t : Ty} {xs : List (List t.T)} {hs : List (Nat × Nat)} {K1 : AV → Sto → R1} {K2 : AV → Sto → R2} (hK : ∀ v σ, rel (K1 v σ) (K2 v σ)) : ∀ {hs0 : List (Nat × Nat)}, rel (borrowK b1 σ id i t xs hs K1 hs0) (borrowK b2 σ id i t xs hs K2 hs0)
  | [] => need_par hb fun _ => hK _ _
  | _ :: _ => br_par (hK _ _) (borrowK_par hb hK)
theorem storeK_par (hb : ∀ n, rel (b1 n) (b2 n)) {σ : Sto} {p v : AV} {K1 : Sto → R1} {K2 : Sto → R2} (hK : ∀ v, rel (K1 v) (K2 v)) : rel (storeK b1 σ p v K1) (storeK b2 σ p v K2) := by
  unfold storeK
  split
  · split
    · split
      · split
        · dsimp only
          split
          · exact need_par hb fun x => setD_par hb fun z => hK _
          · exact hb _
        · exact hb _
      · exact hb _
    · exact bif_par ((setAV_par hb _).1 fun w => hK _) (hb _)
    · split
      · exact slotK_par hb hK
      · exact hb _
    · exact hb _
  · exact hb _
theorem newRow_par {σ : Sto} {e : Ty} {xs : List e.T} {ex : Bool} {K1 : AV → Sto → R1} {K2 : AV → Sto → R2} (hK : ∀ v σ, rel (K1 v σ) (K2 v σ)) : rel (newRow σ e xs ex K1) (newRow σ e xs ex K2) := hK _ _
theorem appZ_par (hb : ∀ n, rel (b1 n) (b2 n)) {σ : Sto} {e : Ty} {bytes : Nat} {s x : AV} {K1 : AV → Sto → R1} {K2 : AV → Sto → R2} (hK : ∀ v σ, rel (K1 v σ) (K2 v σ)) : rel (appZ b1 σ e bytes s x K1) (appZ b2 σ e bytes s x K2) := by
  unfold appZ
  split
  · exact bif_par (br_par (newRow_par hK) (hb _)) (hb _)
  · exact hb _
theorem appK_par {bo1 : R1 → R1 → R1} {bo2 : R2 → R2 → R2} (hb : ∀ n, rel (b1 n) (b2 n)) (hbo : ∀ x1 y1 x2 y2, rel x1 x2 → rel y1 y2 → rel (bo1 x1 y1) (bo2 x2 y2)) {σ : Sto} {e : Ty} {bytes : Nat} {s : AV} {ys : List e.T} {K1 : AV → Sto → R1} {K2 : AV → Sto → R2} (hK : ∀ v σ, rel (K1 v σ) (K2 v σ)) : rel (appK b1 bo1 σ e bytes s ys K1) (appK b2 bo2 σ e bytes s ys K2) := by
  unfold appK
  split
  · exact bif_par (br_par (hK _ _) (br_par (newRow_par hK) (hb _))) (hb _)
  · split
    · exact br_par (hK _ _) (br_par (newRow_par hK) (hb _))
    · exact hb _
  · split
    · split
      · exact br_par (hK _ _) (br_par (newRow_par hK) (hb _))
      · exact hb _
    · exact hb _
  · split
    · split
      · exact br_par (hK _ _) (br_par (bif_par (newRow_par hK) (br_par (newRow_par hK) (hbo _ _ _ _ (newRow_par hK) (hK _ _)))) (hb _))
      · exact hb _
    · exact hb _
  · exact hb _
theorem ltK_par (hb : ∀ n, rel (b1 n) (b2 n)) {n : Nat} {x : R1} {y : R2} (hK : rel x y) : ∀ {hs : List (Nat × Nat)}, rel (ltK b1 n x hs) (ltK b2 n y hs)
  | [] => hK
  | _ :: _ => br_par (ltK_par hb hK) (hb _)
theorem appD_par (hb : ∀ n, rel (b1 n) (b2 n)) {σ : Sto} {u : Ty} {bytes : Nat} {s x : AV} {K1 : AV → Sto → R1} {K2 : AV → Sto → R2} (hK : ∀ v σ, rel (K1 v σ) (K2 v σ)) : rel (appD b1 σ u bytes s x K1) (appD b2 σ u bytes s x K2) := by
  unfold appD
  split
  · split
    · split
      · dsimp only
        split
        · exact bif_par (br_par (hK _ _) (br_par (hK _ _) (hb _))) (hb _)
        · split
          · split
            · exact bif_par (hb _) (br_par (hK _ _) (br_par (ltK_par hb (hK _ _)) (hb _)))
            · exact hb _
          · exact hb _
        · exact hb _
      · exact hb _
    · exact hb _
  · exact hb _
theorem srcK_par (hb : ∀ n, rel (b1 n) (b2 n)) {σ : Sto} {e : Ty} {x : AV} {K1 : List e.T → R1} {K2 : List e.T → R2} (hK : ∀ v, rel (K1 v) (K2 v)) : rel (srcK b1 σ e x K1) (srcK b2 σ e x K2) := by
  unfold srcK
  split
  · split
    · exact hK _
    · exact hb _
  · refine loadK_par hb fun u => ?_
    split
    · refine bif_par ?_ (hb _)
      split
      · exact hK _
      · exact hb _
    · exact hb _
  · split
    · exact hK _
    · exact hb _
theorem putRow_par (hb : ∀ n, rel (b1 n) (b2 n)) {σ : Sto} {e : Ty} {dst : AV} {f : Nat → List e.T} {K1 : Nat → Sto → R1} {K2 : Nat → Sto → R2} (hK : ∀ v σ, rel (K1 v σ) (K2 v σ)) : rel (putRow b1 σ e dst f K1) (putRow b2 σ e dst f K2) := by
  unfold putRow
  split
  · exact hK _ _
  · split
    · split
      · exact hK _ _
      · exact hb _
    · exact hb _
  · split
    · split
      · exact hK _ _
      · exact hb _
    · exact hb _
  · exact hb _
theorem sliceK_par (hb : ∀ n, rel (b1 n) (b2 n)) {σ : Sto} {x : AV} {lo hi mx : Option Int} {K1 : AV → R1} {K2 : AV → R2} (hK : ∀ v, rel (K1 v) (K2 v)) : rel (sliceK b1 σ x lo hi mx K1) (sliceK b2 σ x lo hi mx K2) := by
  unfold sliceK
  dsimp only
  split
  · split
    · exact hb _
    · exact br_par (hK _) (hb _)
  · split
    · exact br_par (br_par (hK _) (hK _)) (hb _)
    · exact br_par (hK _) (hb _)
  · exact br_par (br_par (hK _) (hK _)) (hb _)
  · exact br_par (hK _) (hb _)
  · split
    · split
      · exact hK _
      · exact br_par (hK _) (hb _)
    · exact hb _
  · split
    · exact br_par (hK _) (hb _)
    · exact hb _
  · exact hb _
theorem optI_par (hb : ∀ n, rel (b1 n) (b2 n)) {E : Env} {fr : Fr} {x : Option Operand} {K1 : Option Int → R1} {K2 : Option Int → R2} (hK : ∀ v, rel (K1 v) (K2 v)) : rel (optI b1 E fr x K1) (optI b2 E fr x K2) := by
  unfold optI
  split
  · exact hK _
  · split
    · exact hK _
    · exact hb _
end
end Go.Abs

set_option linter.unusedVariables false
namespace Go.Abs
def CallRel (A1 A2 : Alg) (rel : A1.R → A2.R → Prop) (c1 : FuncId → List AV → Sto → (AV → Sto → A1.R) → A1.R) (c2 : FuncId → List AV → Sto → (AV → Sto → A2.R) → A2.R) : Prop :=
  ∀ f args τ K1 K2, (∀ v τ, rel (K1 v τ) (K2 v τ)) → rel (c1 f args τ K1) (c2 f args τ K2)
structure AlgRel0 (A1 A2 : Alg) (rel : A1.R → A2.R → Prop) : Prop where
  bot : ∀ n, rel (A1.bot n) (A2.bot n)
  call : CallRel A1 A2 rel A1.call A2.call
  both : ∀ x1 y1 x2 y2, rel x1 x2 → rel y1 y2 → rel (A1.both x1 y1) (A2.both x2 y2)
structure AlgRel (A1 A2 : Alg) (rel : A1.R → A2.R → Prop) : Prop extends AlgRel0 A1 A2 rel where
  loop : ∀ {N1 N2 body1 body2 K1 K2}, (∀ fr σ k1 k2, (∀ fr σ, rel (k1 fr σ) (k2 fr σ)) → rel (N1 fr σ k1) (N2 fr σ k2)) → (∀ k1 k2, (∀ e fr σ, rel (k1 e fr σ) (k2 e fr σ)) → ∀ fr σ, rel (body1 k1 fr σ) (body2 k2 fr σ)) →
    (∀ e fr σ, rel (K1 e fr σ) (K2 e fr σ)) → ∀ fr σ, rel (A1.loop N1 body1 K1 fr σ) (A2.loop N2 body2 K2 fr σ)
  join : ∀ {body1 body2 K1 K2}, (∀ k1 k2, (∀ e fr σ, rel (k1 e fr σ) (k2 e fr σ)) → ∀ fr σ, rel (body1 k1 fr σ) (body2 k2 fr σ)) →
    (∀ e fr σ, rel (K1 e fr σ) (K2 e fr σ)) → ∀ fr σ, rel (A1.join body1 K1 fr σ) (A2.join body2 K2 fr σ)
section
variable {A1 A2 : Alg} {rel : A1.R → A2.R → Prop}
theorem callM_par (hb : ∀ n, rel (A1.bot n) (A2.bot n)) (hc : CallRel A1 A2 rel A1.call A2.call) {E : Env} {f : FuncId} {fn : Func} {ms : List Nat} {args : List AV} {σ : Sto} {K1 : AV → Sto → A1.R} {K2 : AV → Sto → A2.R} (hK : ∀ v σ, rel (K1 v σ) (K2 v σ)) : rel (callM A1 E f fn ms args σ K1) (callM A2 E f fn ms args σ K2) := by
  unfold callM
  dsimp only
  refine bif_par (hb _) ?_
  split
  · refine hc _ _ _ _ _ fun v τ => bif_par ?_ (hb _)
    split
    · exact hK _ _
    · exact hb _
  · exact hb _
theorem callK_par (hb : ∀ n, rel (A1.bot n) (A2.bot n)) (hc : CallRel A1 A2 rel A1.call A2.call) {E : Env} {f : FuncId} {args : List AV} {σ : Sto} {K1 : AV → Sto → A1.R} {K2 : AV → Sto → A2.R} (hK : ∀ v σ, rel (K1 v σ) (K2 v σ)) : rel (callK A1 E f args σ K1) (callK A2 E f args σ K2) := by
  unfold callK
  split
  · exact hb _
  · exact bif_par (callM_par hb hc hK) (callM_par hb hc hK)
theorem foldI_par (hb : ∀ n, rel (A1.bot n) (A2.bot n)) {f : Int → Int → Int} {k : IntKind} : ∀ {r : List AV} {a : Int} {K1 : AV → A1.R} {K2 : AV → A2.R}, (∀ v, rel (K1 v) (K2 v)) → rel (builtinK.foldI A1 f k a r K1) (builtinK.foldI A2 f k a r K2)
  | [], a, K1, K2, hK => hK _
  | v :: r, a, K1, K2, hK => by
    cases v with
    | d t x =>
      cases t with
      | int k' => exact bif_par (foldI_par hb hK) (hb _)
      | _ => exact hb _
    | _ => exact hb _
theorem builtinK_par (hb : ∀ n, rel (A1.bot n) (A2.bot n)) (hbo : ∀ x1 y1 x2 y2, rel x1 x2 → rel y1 y2 → rel (A1.both x1 y1) (A2.both x2 y2)) {E : Env} {b : Builtin} {ts : List TypeId} {args : List AV} {σ : Sto} {K1 : AV → Sto → A1.R} {K2 : AV → Sto → A2.R} (hK : ∀ v σ, rel (K1 v σ) (K2 v σ)) : rel (builtinK A1 E b ts args σ K1) (builtinK A2 E b ts args σ K2) := by
  unfold builtinK
  split
  · exact bif_par (hb _) (lenK_par hb fun v => hK _ _)
  · exact bif_par (hb _) (capK_par hb fun v => hK _ _)
  · exact foldI_par hb fun v => hK _ _
  · exact foldI_par hb fun v => hK _ _
  · refine bif_par (bif_par ?_ (hb _)) ?_
    · split
      · exact appZ_par hb hK
      · exact hb _
    split
    · refine bif_par ?_ (srcK_par hb fun ys => appK_par hb hbo hK)
      split
      · exact appD_par hb hK
      · exact hb _
    · exact hb _
  · refine bif_par (hb _) ?_
    split
    · exact srcK_par hb fun ys => putRow_par hb fun n σ => hK _ _
    · exact hb _
  · split
    · exact putRow_par hb fun n σ => hK _ _
    · exact hb _
  · exact hb _
theorem insK_par (hb : ∀ n, rel (A1.bot n) (A2.bot n)) {σ : Sto} {args : List AV} {K1 : AV → Sto → A1.R} {K2 : AV → Sto → A2.R} (hK : ∀ v σ, rel (K1 v σ) (K2 v σ)) : rel (insK A1.bot σ args K1) (insK A2.bot σ args K2) := by
  unfold insK
  split
  · split
    · refine br_par (hb _) ?_
      split
      · exact br_par (br_par (hK _ _) (hb _)) (hb _)
      · refine bif_par (hb _) ?_
        split
        · exact br_par (br_par (hK _ _) (hb _)) (hb _)
        · exact hb _
      · exact hb _
    · exact hb _
  · exact hb _
theorem callV_par (hb : ∀ n, rel (A1.bot n) (A2.bot n)) (hc : CallRel A1 A2 rel A1.call A2.call) {E : Env} {i1 : Inl A1.R} {i2 : Inl A2.R} (hi : CallRel A1 A2 rel i1 i2) {v : AV} {args : List AV} {σ : Sto} {K1 : AV → Sto → A1.R} {K2 : AV → Sto → A2.R} (hK : ∀ v σ, rel (K1 v σ) (K2 v σ)) : rel (callV A1 E i1 v args σ K1) (callV A2 E i2 v args σ K2) := by
  unfold callV
  split
  · exact bif_par (hb _) (bif_par (insK_par hb hK) (bif_par (hi _ _ _ _ _ hK) (callK_par hb hc hK)))
  · exact hb _
theorem lookK_par {R1 R2 : Type} {rel : R1 → R2 → Prop} {b1 : Nat → R1} {b2 : Nat → R2} (hb : ∀ n, rel (b1 n) (b2 n)) {σ : Sto} {u : Ty} {id : Nat} {k : Int} {ok : Bool} {K1 : AV → R1} {K2 : AV → R2} (hK : ∀ v, rel (K1 v) (K2 v)) : rel (lookK b1 σ u id k ok K1) (lookK b2 σ u id k ok K2) := by
  unfold lookK
  split
  · exact bif_par (bif_par (hK _) (hK _)) (hb _)
  · exact hb _
theorem mputK_par {R1 R2 : Type} {rel : R1 → R2 → Prop} {b1 : Nat → R1} {b2 : Nat → R2} (hb : ∀ n, rel (b1 n) (b2 n)) {σ : Sto} {u : Ty} {id : Nat} {k : Int} {w : Ty} {y : w.T} {K1 : Sto → R1} {K2 : Sto → R2} (hK : ∀ v, rel (K1 v) (K2 v)) : rel (mputK b1 σ u id k w y K1) (mputK b2 σ u id k w y K2) := by
  unfold mputK
  split
  · refine bif_par ?_ (hb _)
    split
    · exact hK _
    · exact hb _
  · exact hb _
theorem opK_par (hb : ∀ n, rel (A1.bot n) (A2.bot n)) (hbo : ∀ x1 y1 x2 y2, rel x1 x2 → rel y1 y2 → rel (A1.both x1 y1) (A2.both x2 y2)) {E : Env} {i1 : Inl A1.R} {i2 : Inl A2.R} {o : Oper} (hc : (∃ c f, o.op = .call c ∧ c.callee = .value f) → CallRel A1 A2 rel A1.call A2.call ∧ CallRel A1 A2 rel i1 i2)
    {fr : Fr} {σ : Sto} {K1 : AV → Sto → A1.R} {K2 : AV → Sto → A2.R} (hK : ∀ v σ, rel (K1 v σ) (K2 v σ)) : rel (opK A1 E i1 o fr σ K1) (opK A2 E i2 o fr σ K2) := by
  obtain ⟨dst, op, type, pos, after, guard⟩ := o
  cases op <;> simp only [opK] <;> try exact hb _
  case move x => exact hK _ _
  case assign x => exact hK _ _
  case pick c x y =>
    split
    · exact br_par (hK _ _) (hK _ _)
    · exact hb _
  case alloc t =>
    split
    · exact hK _ _
    · exact hb _
  case box t x =>
    split
    · exact bif_par (hK _ _) (hb _)
    · exact hb _
  case build t parts =>
    split
    · refine bif_par ?_ (hb _)
      split
      · exact hK _ _
      · exact hb _
    · exact bif_par (hK _ _) (hb _)
    · exact hb _
  case buildSlice t n parts =>
    split
    · refine bif_par ?_ (bif_par ?_ (hb _))
      · split
        · refine bif_par (hb _) ?_
          split
          · exact hK _ _
          · exact hb _
        · exact hb _
      · split
        · exact newRow_par hK
        · exact hb _
    · exact hb _
  case load t x =>
    split
    · refine bif_par ?_ (loadK_par hb fun v => bif_par (hK _ _) (hb _))
      split
      · split
        · exact bif_par (need_par hb fun _ => borrowK_par hb hK) (hb _)
        · exact loadK_par hb fun v => bif_par (hK _ _) (hb _)
      · exact loadK_par hb fun v => bif_par (hK _ _) (hb _)
    · exact hb _
  case store t x y =>
    split
    · exact bif_par (storeK_par hb fun σ => hK _ _) (hb _)
    · exact hb _
  case nilCheck x => split <;> first | exact hK _ _ | exact hb _
  case binOp op xt x y yt => exact bif_par (slCmp_par hb hbo fun v => hK _ _) (binK_par hb fun v => hK _ _)
  case unOp op t x =>
    split
    · exact hK _ _
    · exact intOp_par hb fun v => hK _ _
    · exact intOp_par hb fun v => hK _ _
    · exact hb _
  case convert src dst x => split <;> first | exact hK _ _ | exact hb _
  case makeFunc fn first cap =>
    cases fn with
    | func f => exact bif_par (hK _ _) (hb _)
    | _ => exact hb _
  case makeSlice t l c =>
    split
    · refine bif_par ?_ (br_par ?_ (hb _))
      · split
        · exact br_par (br_par (hK _ _) (hb _)) (hb _)
        · exact hb _
      split
      · exact bif_par (newRow_par hK) (hK _ _)
      · exact bif_par (newRow_par hK) (hK _ _)
      · exact hK _ _
    · exact hb _
  case makeMap t r =>
    cases r with
    | some r => exact hb _
    | none =>
      dsimp only
      split
      · exact hK _ _
      · exact hb _
  case lookup t x ix ok =>
    split
    · exact lookK_par hb fun v => hK _ _
    · exact hb _
  case mapUpdate t x ix y =>
    split
    · exact mputK_par hb fun σ => hK _ _
    · exact hb _
  case slice t x lo hi mx =>
    split
    · split
      · exact bif_par (hK _ _) (hb _)
      · exact hb _
    exact bif_par (hb _) (optI_par hb fun lo => optI_par hb fun hi => optI_par hb fun mx => sliceK_par hb fun v => hK _ _)
  case fieldAddr s x f =>
    split
    · split
      · exact bif_par (hK _ _) (hb _)
      · exact hb _
    · exact bif_par (fieldD_par hb fun u y => hK _ _) (hb _)
    · exact hb _
  case field s x f =>
    refine bif_par (hb _) ?_
    split
    · exact fieldD_par hb fun u y => hK _ _
    · split
      · exact hK _ _
      · exact hb _
    · exact hb _
  case indexAddr t x ix =>
    split
    · split
      · split
        · exact bif_par (hb _) (br_par (hK _ _) (hb _))
        · exact hb _
      · exact bif_par (hb _) (idxK_par hb fun v => hK _ _)
    · exact hb _
  case index t x ix =>
    refine bif_par (hb _) ?_
    split
    · exact need_par hb fun y => hK _ _
    · exact need_par hb fun y => hK _ _
    · exact hb _
  case extract t i =>
    split
    · split
      · exact hK _ _
      · exact hb _
    · exact hb _
  case call c =>
    obtain ⟨callee, cargs, cts⟩ := c
    cases callee with
    | builtin b => exact builtinK_par hb hbo hK
    | value f =>
      obtain ⟨h1, h2⟩ := hc ⟨_, f, rfl, rfl⟩
      exact callV_par hb h1 h2 hK
    | invoke r m => exact hb _
theorem evOps_par (hA : AlgRel0 A1 A2 rel) {E : Env} {i1 : Inl A1.R} {i2 : Inl A2.R} (hi : CallRel A1 A2 rel i1 i2) {nt : Nat} {all : Array Oper} : ∀ {r : List Oper} {fr : Fr} {σ : Sto} {K1 : Fr → Sto → A1.R} {K2 : Fr → Sto → A2.R}, (∀ fr σ, rel (K1 fr σ) (K2 fr σ)) →
    rel (evOps A1 E i1 nt all r fr σ K1) (evOps A2 E i2 nt all r fr σ K2)
  | [], fr, σ, K1, K2, hK => hK _ _
  | o :: r, fr, σ, K1, K2, hK => by
    simp only [evOps]
    refine bif_par (hA.bot _) ?_
    have go : ∀ (fr fr' : Fr), rel (opK A1 E i1 o fr σ fun v σ' => evOps A1 E i1 nt all r (fr'.set o.dst v) σ' K1) (opK A2 E i2 o fr σ fun v σ' => evOps A2 E i2 nt all r (fr'.set o.dst v) σ' K2) := fun fr fr' => opK_par hA.bot hA.both (fun _ => ⟨hA.call, hi⟩) fun v σ => evOps_par hA hi hK
    split
    · exact go _ _
    · split
      · exact hA.bot _
      · split
        · exact evOps_par hA hi hK
        · exact bif_par (br_par (go _ _) (evOps_par hA hi hK)) (br_par (evOps_par hA hi hK) (go _ _))
        · exact hA.bot _
theorem evQuiet_par (hA : AlgRel0 A1 A2 rel) {E : Env} {i1 : Inl A1.R} {i2 : Inl A2.R} (hi : CallRel A1 A2 rel i1 i2) {all : Array Oper} {o : Oper} {fr : Fr} {σ : Sto} {K1 : Fr → AV → A1.R} {K2 : Fr → AV → A2.R} (hK : ∀ fr v, rel (K1 fr v) (K2 fr v)) :
    rel (evQuiet A1 E i1 all o fr σ K1) (evQuiet A2 E i2 all o fr σ K2) := by
  unfold evQuiet
  have go : ∀ (fr fr' : Fr), rel (opK A1.nb E i1 o fr σ fun v _ => K1 fr' v) (opK A2.nb E i2 o fr σ fun v _ => K2 fr' v) := fun fr fr' => opK_par (A1 := A1.nb) (A2 := A2.nb) (rel := rel) hA.bot (fun _ _ _ _ _ _ => hA.bot _) (fun _ => ⟨hA.call, hi⟩) fun v σ => hK _ _
  split
  · exact go _ _
  · split
    · exact hA.bot _
    · split
      · exact hK _ _
      · exact bif_par (br_par (go _ _) (hK _ _)) (br_par (hK _ _) (go _ _))
      · exact hA.bot _
theorem evQs_par (hA : AlgRel0 A1 A2 rel) {E : Env} {i1 : Inl A1.R} {i2 : Inl A2.R} (hi : CallRel A1 A2 rel i1 i2) {nt : Nat} {all : Array Oper} {seen : List Nat} {σ : Sto} {K1 : Fr → A1.R} {K2 : Fr → A2.R} (hK : ∀ fr, rel (K1 fr) (K2 fr)) : ∀ {is : List Nat} {fr : Fr},
    rel (evQs A1 E i1 nt all seen is fr σ K1) (evQs A2 E i2 nt all seen is fr σ K2)
  | [], fr => hK _
  | i :: r, fr => by
    simp only [evQs]
    split
    · exact hA.bot _
    · refine bif_par (hA.bot _) (evQuiet_par hA hi fun fr v => bif_par ?_ (evQs_par hA hi hK))
      split
      · exact bif_par (evQs_par hA hi hK) (hA.bot _)
      · exact evQs_par hA hi hK
theorem allOf_par (hb : ∀ n, rel (A1.bot n) (A2.bot n)) (hbo : ∀ x1 y1 x2 y2, rel x1 x2 → rel y1 y2 → rel (A1.both x1 y1) (A2.both x2 y2)) {F1 : Nat → A1.R} {F2 : Nat → A2.R} (hF : ∀ e, rel (F1 e) (F2 e)) : ∀ (l : List Nat), rel (allOf A1 F1 l) (allOf A2 F2 l)
  | [] => hb _
  | [e] => hF e
  | e :: e' :: r => hbo _ _ _ _ (hF e) (allOf_par hb hbo hF (e' :: r))
theorem evPh_par (hA : AlgRel0 A1 A2 rel) {E : Env} {i1 : Inl A1.R} {i2 : Inl A2.R} (hi : CallRel A1 A2 rel i1 i2) {nt m : Nat} {all : Array Oper} {T : List (List Nat)} {K1 : Fr → Sto → A1.R} {K2 : Fr → Sto → A2.R} (hK : ∀ fr σ, rel (K1 fr σ) (K2 fr σ)) : ∀ {n : Nat} {rest done seen : List Nat} {fr : Fr} {σ : Sto},
    rel (evPh A1 E i1 nt m all T n rest done seen fr σ K1) (evPh A2 E i2 nt m all T n rest done seen fr σ K2) := by
  intro n
  induction n with
  | zero =>
    intro rest done seen fr σ
    simp only [evPh]
    refine evQs_par hA hi fun fr => ?_
    cases rest with
    | nil => exact hK _ _
    | cons => exact hA.bot _
  | succ n ih =>
    intro rest done seen fr σ
    simp only [evPh]
    refine evQs_par hA hi fun fr => ?_
    cases rest with
    | nil => exact hK _ _
    | cons e rest =>
      refine allOf_par hA.bot hA.both (fun e' => ?_) _
      split
      · exact hA.bot _
      · exact evOps_par hA hi fun fr σ => ih
theorem evDraw_par (hA : AlgRel0 A1 A2 rel) {E : Env} {i1 : Inl A1.R} {i2 : Inl A2.R} (hi : CallRel A1 A2 rel i1 i2) {nt m : Nat} {all : Array Oper} {fr : Fr} {σ : Sto} {K1 : Fr → Sto → A1.R} {K2 : Fr → Sto → A2.R} (hK : ∀ fr σ, rel (K1 fr σ) (K2 fr σ)) :
    rel (evDraw A1 E i1 nt m all fr σ K1) (evDraw A2 E i2 nt m all fr σ K2) := bif_par (evPh_par hA hi fun fr σ => evOps_par hA hi hK) (hA.bot _)
theorem regK_par (hA : AlgRel0 A1 A2 rel) {E : Env} {i1 : Inl A1.R} {i2 : Inl A2.R} (hi : CallRel A1 A2 rel i1 i2) {keep : List (Nat × List Nat)} {m nt id : Nat} {ops : Array Oper} {draw : Bool} {fr : Fr} {σ : Sto} {K1 : Exit → Fr → Sto → A1.R} {K2 : Exit → Fr → Sto → A2.R} (hK : ∀ e fr σ, rel (K1 e fr σ) (K2 e fr σ)) :
    rel (regK ⟨A1, E, i1, keep, m, nt⟩ id ops draw K1 fr σ) (regK ⟨A2, E, i2, keep, m, nt⟩ id ops draw K2 fr σ) := by
  unfold regK
  refine bif_par ?_ (evOps_par hA hi fun fr σ => hK _ _ _)
  dsimp only
  split
  · rw [evDrawP_eq, evDrawP_eq]
    exact bif_par (evDraw_par hA hi fun fr σ => hK _ _ _) (hA.bot _)
  · exact evDraw_par hA hi fun fr σ => hK _ _ _
theorem cutK_par {R1 R2 : Type} {rel : R1 → R2 → Prop} {b1 : Nat → R1} {b2 : Nat → R2} (hb : ∀ n, rel (b1 n) (b2 n)) {keep : List (Nat × List Nat)} {m : Nat} {r : Option Nat} {fr : Fr} {σ : Sto} {K1 : Fr → Sto → R1} {K2 : Fr → Sto → R2} (hK : ∀ fr σ, rel (K1 fr σ) (K2 fr σ)) : rel (cutK b1 keep m r fr σ K1) (cutK b2 keep m r fr σ K2) := by
  unfold cutK
  split
  · exact norm_par hb fun fr σ => norm_par hb fun fr σ => hK _ _
  · exact hK _ _
theorem exitK_par {R1 R2 : Type} {rel : R1 → R2 → Prop} {b1 : Nat → R1} {b2 : Nat → R2} (hb : ∀ n, rel (b1 n) (b2 n)) {keep : List (Nat × List Nat)} {m : Nat} {r : Option Nat} {K1 : Exit → Fr → Sto → R1} {K2 : Exit → Fr → Sto → R2} (hK : ∀ e fr σ, rel (K1 e fr σ) (K2 e fr σ)) (e : Exit) (fr : Fr) (σ : Sto) : rel (exitK b1 keep m r K1 e fr σ) (exitK b2 keep m r K2 e fr σ) := by
  cases e <;> first
    | exact hK _ _ _
    | exact cutK_par hb fun fr σ => hK _ fr σ
theorem endCut_par {R1 R2 : Type} {rel : R1 → R2 → Prop} {b1 : Nat → R1} {b2 : Nat → R2} (hb : ∀ n, rel (b1 n) (b2 n)) {keep : List (Nat × List Nat)} {m : Nat} {r : Option Nat} {K1 : Exit → Fr → Sto → R1} {K2 : Exit → Fr → Sto → R2} (hK : ∀ e fr σ, rel (K1 e fr σ) (K2 e fr σ)) (e : Exit) (fr : Fr) (σ : Sto) : rel (endCut b1 keep m r K1 e fr σ) (endCut b2 keep m r K2 e fr σ) :=
  cutK_par hb fun fr σ => hK _ fr σ
theorem joinK_par (hA : AlgRel A1 A2 rel) {E : Env} {i1 : Inl A1.R} {i2 : Inl A2.R} {keep : List (Nat × List Nat)} {m nt : Nat} {r : Option Nat} {body1 : (Exit → Fr → Sto → A1.R) → Fr → Sto → A1.R} {body2 : (Exit → Fr → Sto → A2.R) → Fr → Sto → A2.R}
    (hB : ∀ k1 k2, (∀ e fr σ, rel (k1 e fr σ) (k2 e fr σ)) → ∀ fr σ, rel (body1 k1 fr σ) (body2 k2 fr σ)) {K1 : Exit → Fr → Sto → A1.R} {K2 : Exit → Fr → Sto → A2.R} (hK : ∀ e fr σ, rel (K1 e fr σ) (K2 e fr σ)) (fr : Fr) (σ : Sto) :
    rel (joinK ⟨A1, E, i1, keep, m, nt⟩ r body1 K1 fr σ) (joinK ⟨A2, E, i2, keep, m, nt⟩ r body2 K2 fr σ) := by
  unfold joinK
  dsimp only
  split
  · exact cutK_par hA.bot fun fr σ => hA.join (fun k1 k2 hk fr σ => hB _ _ (fun e fr σ => endCut_par hA.bot hk e fr σ) fr σ) hK fr σ
  · exact hB _ _ hK _ _
theorem evC_par (hA : AlgRel A1 A2 rel) {E : Env} {i1 : Inl A1.R} {i2 : Inl A2.R} (hi : CallRel A1 A2 rel i1 i2) {keep : List (Nat × List Nat)} {m nt : Nat} : ∀ (c : Code) {K1 : Exit → Fr → Sto → A1.R} {K2 : Exit → Fr → Sto → A2.R}, (∀ e fr σ, rel (K1 e fr σ) (K2 e fr σ)) → ∀ fr σ,
    rel (evC ⟨A1, E, i1, keep, m, nt⟩ c K1 fr σ) (evC ⟨A2, E, i2, keep, m, nt⟩ c K2 fr σ) := by
  intro c
  induction c with
  | skip => intro K1 K2 hK fr σ; exact hK _ _ _
  | ret => intro K1 K2 hK fr σ; exact hK _ _ _
  | exit id => intro K1 K2 hK fr σ; exact hK _ _ _
  | region id ops draw =>
    intro K1 K2 hK fr σ
    exact cutK_par hA.bot fun fr σ => regK_par hA.toAlgRel0 hi hK
  | seq x y ihx ihy =>
    intro K1 K2 hK fr σ
    refine ihx (fun e fr σ => ?_) fr σ
    cases e <;> first
      | exact joinK_par hA (fun k1 k2 hk fr σ => ihy hk fr σ) hK _ _
      | exact hK _ _ _
  | block id c ih =>
    intro K1 K2 hK fr σ
    refine ih (fun e fr σ => ?_) fr σ
    cases e <;> first
      | exact hK _ _ _
      | exact bif_par (hK _ _ _) (hK _ _ _)
  | cond c x y ihx ihy =>
    intro K1 K2 hK fr σ
    simp only [evC, condK]
    split
    · split
      · exact br_par (ihx hK _ _) (ihy hK _ _)
      · exact br_par (ihx hK _ _) (ihy hK _ _)
    · exact hA.bot _
  | loop c ih =>
    intro K1 K2 hK fr σ
    exact cutK_par hA.bot fun fr σ => hA.loop (N1 := cutK A1.bot keep m (firstR c)) (N2 := cutK A2.bot keep m (firstR c)) (body1 := fun k => evC ⟨A1, E, i1, keep, m, nt⟩ c (exitK A1.bot keep m (firstR c) k)) (body2 := fun k => evC ⟨A2, E, i2, keep, m, nt⟩ c (exitK A2.bot keep m (firstR c) k)) (fun fr σ k1 k2 hk => cutK_par hA.bot hk) (fun k1 k2 hk fr σ => ih (fun e fr σ => exitK_par hA.bot hk e fr σ) fr σ) hK fr σ
  | _ => intro K1 K2 hK fr σ; exact hA.bot _
theorem resAV_par {R1 R2 : Type} {rel : R1 → R2 → Prop} {b1 : Nat → R1} {b2 : Nat → R2} (hb : ∀ n, rel (b1 n) (b2 n)) {E : Env} {σ : Sto} {fr : Fr} : ∀ {rs : List ResultVar} {K1 : List AV → R1} {K2 : List AV → R2}, (∀ l, rel (K1 l) (K2 l)) → rel (resAV R1 b1 E σ fr rs K1) (resAV R2 b2 E σ fr rs K2)
  | [], K1, K2, hK => hK _
  | .tmp t :: r, K1, K2, hK => resAV_par hb (rs := r) fun l => hK _
  | .cell a t :: r, K1, K2, hK => by
    simp only [resAV]
    exact loadK_par hb fun v => bif_par (resAV_par hb (rs := r) fun l => hK _) (hb _)
theorem endK_par {R1 R2 : Type} {rel : R1 → R2 → Prop} {b1 : Nat → R1} {b2 : Nat → R2} (hb : ∀ n, rel (b1 n) (b2 n)) {E : Env} {fn : Func} {K1 : AV → Sto → R1} {K2 : AV → Sto → R2} (hK : ∀ v σ, rel (K1 v σ) (K2 v σ)) (e : Exit) (fr : Fr) (σ : Sto) : rel (endK R1 b1 E fn K1 e fr σ) (endK R2 b2 E fn K2 e fr σ) := by
  cases e <;> first
    | exact hb _
    | exact resAV_par hb fun l => hK _ _
theorem inlF_par (hA : AlgRel A1 A2 rel) {E : Env} : ∀ n, CallRel A1 A2 rel (inlF A1 E n) (inlF A2 E n)
  | 0 => fun f args τ K1 K2 hK => hA.bot _
  | n + 1 => fun f args τ K1 K2 hK => by
    unfold inlF
    split
    · split
      · exact bif_par (hA.bot _) (evC_par hA (inlF_par hA n) _ (fun e fr σ => endK_par hA.bot hK e fr σ) _ _)
      · exact hA.bot _
    · exact hA.bot _
theorem evFn_par (hA : AlgRel A1 A2 rel) {E : Env} {f : FuncId} {args : List AV} {τ : Sto} {K1 : AV → Sto → A1.R} {K2 : AV → Sto → A2.R} (hK : ∀ v σ, rel (K1 v σ) (K2 v σ)) : rel (evFn A1 E f args τ K1) (evFn A2 E f args τ K2) := by
  unfold evFn
  split
  · split
    · exact bif_par (hA.bot _) (evC_par hA (inlF_par hA 8) _ (fun e fr σ => endK_par hA.bot (fun v σ => normRet_par hA.bot fun v σ => hK _ _) e fr σ) _ _)
    · exact hA.bot _
  · exact hA.bot _
end
end Go.Abs
