/- The evaluator is alike at all answer types. -/
import Derived.Test.YtdljpdafghdedaaADef
set_option linter.unusedVariables false
namespace Go.Abs

section
variable {R1 R2 : Type} {rel : R1 → R2 → Prop} {b1 : Nat → R1} {b2 : Nat → R2}

theorem br_par {b : Bool} {x1 y1 : R1} {x2 y2 : R2} (hx : rel x1 x2) (hy : rel y1 y2) : rel (br b x1 y1) (br b x2 y2) := by
  cases b
  · exact hy
  · exact hx
theorem bif_par {b : Bool} {x1 y1 : R1} {x2 y2 : R2} (hx : rel x1 x2) (hy : rel y1 y2) : rel (bif b then x1 else y1) (bif b then x2 else y2) := by
  cases b
  · exact hy
  · exact hx
theorem need_par {α : Type} {o : Option α} {n : Nat} {K1 : α → R1} {K2 : α → R2} (hb : ∀ n, rel (b1 n) (b2 n)) (hK : ∀ x, rel (K1 x) (K2 x)) : rel (need (b1 n) o K1) (need (b2 n) o K2) := by
  cases o
  · exact hb n
  · exact hK _

theorem getD_par (hb : ∀ n, rel (b1 n) (b2 n)) : ∀ {t : Ty} {x : t.T} {p : List Nat} {K1 : (u : Ty) → u.T → R1} {K2 : (u : Ty) → u.T → R2}, (∀ u y, rel (K1 u y) (K2 u y)) → rel (getD b1 t x p K1) (getD b2 t x p K2) := by
  intro t
  induction t with
  | pair a b iha ihb =>
    intro x p K1 K2 hK
    cases p with
    | nil => exact hK _ _
    | cons k p =>
      cases k with
      | zero => exact iha hK
      | succ k => exact ihb hK
  | arr n e ih =>
    intro x p K1 K2 hK
    cases p with
    | nil => exact hK _ _
    | cons k p => simp only [getD]; exact need_par hb fun y => ih hK
  | _ =>
    intro x p K1 K2 hK
    cases p with
    | nil => exact hK _ _
    | cons k p => simp only [getD]; exact hb _

theorem getAV_par (hb : ∀ n, rel (b1 n) (b2 n)) : ∀ {n : Nat} {v : AV} {p : List Nat} {K1 : AV → R1} {K2 : AV → R2}, (∀ v, rel (K1 v) (K2 v)) → rel (getAV b1 n v p K1) (getAV b2 n v p K2) := by
  intro n
  induction n with
  | zero =>
    intro v p K1 K2 hK
    cases p with
    | nil => exact hK _
    | cons k p => exact hb _
  | succ n ih =>
    intro v p K1 K2 hK
    cases p with
    | nil => exact hK _
    | cons k p =>
      cases v with
      | d t x => exact getD_par hb fun u y => hK _
      | agg l =>
        simp only [getAV]
        cases l[k]? with
        | none => exact hb _
        | some w => exact ih hK
      | _ => exact hb _

theorem setD_par (hb : ∀ n, rel (b1 n) (b2 n)) : ∀ {t : Ty} {x : t.T} {p : List Nat} {u : Ty} {y : u.T} {K1 : t.T → R1} {K2 : t.T → R2}, (∀ z, rel (K1 z) (K2 z)) → rel (setD b1 t x p u y K1) (setD b2 t x p u y K2) := by
  intro t
  induction t with
  | pair a b iha ihb =>
    intro x p u y K1 K2 hK
    cases p with
    | nil => simp only [setD]; split <;> first | exact hK _ | exact hb _
    | cons k p =>
      cases k with
      | zero => exact iha fun z => hK _
      | succ k => exact ihb fun z => hK _
  | arr n e ih =>
    intro x p u y K1 K2 hK
    cases p with
    | nil => simp only [setD]; split <;> first | exact hK _ | exact hb _
    | cons k p => simp only [setD]; exact need_par hb fun z => ih fun z' => hK _
  | _ =>
    intro x p u y K1 K2 hK
    cases p with
    | nil => simp only [setD]; split <;> first | exact hK _ | exact hb _
    | cons k p => simp only [setD]; exact hb _

theorem setAV_par (hb : ∀ n, rel (b1 n) (b2 n)) {σ : Sto} : ∀ (n : Nat),
    (∀ {t : Ty} {old : AV} {p : List Nat} {v : AV} {K1 : AV → R1} {K2 : AV → R2}, (∀ z, rel (K1 z) (K2 z)) → rel (setAV b1 σ n t old p v K1) (setAV b2 σ n t old p v K2)) ∧
    (∀ {t : Ty} {l : List AV} {k : Nat} {p : List Nat} {v : AV} {K1 : List AV → R1} {K2 : List AV → R2}, (∀ z, rel (K1 z) (K2 z)) → rel (setAV.setAVs b1 σ n t l k p v K1) (setAV.setAVs b2 σ n t l k p v K2)) := by
  intro n
  induction n with
  | zero =>
    refine ⟨fun {t old p v K1 K2} hK => ?_, fun {t l k p v K1 K2} hK => ?_⟩
    · cases p with
      | nil => simp only [setAV]; exact bif_par (hK _) (hb _)
      | cons k p => exact hb _
    · simp only [setAV.setAVs]; exact hb _
  | succ n ih =>
    refine ⟨fun {t old p v K1 K2} hK => ?_, fun {t l k p v K1 K2} hK => ?_⟩
    · cases p with
      | nil => simp only [setAV]; exact bif_par (hK _) (hb _)
      | cons k p =>
        cases old with
        | d u x =>
          cases v <;> simp only [setAV] <;> first
            | exact setD_par hb fun z => hK _
            | exact bif_par (ih.2 fun l => hK _) (hb _)
        | agg l => exact ih.2 fun l => hK _
        | _ => exact hb _
    · cases t <;> cases l <;> cases k <;> simp only [setAV.setAVs] <;> first
        | exact hb _
        | exact ih.1 fun z => hK _
        | exact ih.2 fun z => hK _

theorem norm_par (hb : ∀ n, rel (b1 n) (b2 n)) {m : Nat} {L : List Nat} {fr : Fr} {σ : Sto} {K1 : Fr → Sto → R1} {K2 : Fr → Sto → R2} (hK : ∀ fr σ, rel (K1 fr σ) (K2 fr σ)) : rel (norm b1 m L fr σ K1) (norm b2 m L fr σ K2) := by
  unfold norm
  refine bif_par (hb _) ?_
  split
  · exact hb _
  · exact hK _ _
theorem normRet_par (hb : ∀ n, rel (b1 n) (b2 n)) {m : Nat} {v : AV} {σ : Sto} {K1 : AV → Sto → R1} {K2 : AV → Sto → R2} (hK : ∀ v σ, rel (K1 v σ) (K2 v σ)) : rel (normRet b1 m v σ K1) (normRet b2 m v σ K2) := by
  unfold normRet
  refine bif_par (hb _) ?_
  split
  · exact hK _ _
  · exact hb _

theorem intOp_par (hb : ∀ n, rel (b1 n) (b2 n)) {op : BinOp} {k : IntKind} {x y : Int} {K1 : AV → R1} {K2 : AV → R2} (hK : ∀ v, rel (K1 v) (K2 v)) : rel (intOp b1 op k x y K1) (intOp b2 op k x y K2) := by
  cases op <;> simp only [intOp] <;> first
    | exact hK _
    | exact hb _
    | exact br_par (hb _) (hK _)
theorem shOp_par (hb : ∀ n, rel (b1 n) (b2 n)) {op : BinOp} {k : IntKind} {x y : Int} {K1 : AV → R1} {K2 : AV → R2} (hK : ∀ v, rel (K1 v) (K2 v)) : rel (shOp b1 op k x y K1) (shOp b2 op k x y K2) := by
  cases op <;> simp only [shOp] <;> first
    | exact hb _
    | exact br_par (hb _) (hK _)
theorem strOp_par (hb : ∀ n, rel (b1 n) (b2 n)) {op : BinOp} {x y : List UInt8} {K1 : AV → R1} {K2 : AV → R2} (hK : ∀ v, rel (K1 v) (K2 v)) : rel (strOp b1 op x y K1) (strOp b2 op x y K2) := by
  cases op <;> simp only [strOp] <;> first
    | exact hK _
    | exact hb _
    | exact br_par (hK _) (hb _)
theorem eqK_par (hb : ∀ n, rel (b1 n) (b2 n)) {x y : AV} {K1 : Bool → R1} {K2 : Bool → R2} (hK : ∀ v, rel (K1 v) (K2 v)) : rel (eqK b1 x y K1) (eqK b2 x y K2) := by
  unfold eqK
  split
  · exact hK _
  · exact hb _
  · exact hb _
  · split
    · exact hK _
    · exact hb _
  · split
    · exact hK _
    · exact hb _
  · split
    · exact bif_par (hK _) (hb _)
    · exact hb _
  · exact hb _
theorem binK_par (hb : ∀ n, rel (b1 n) (b2 n)) {σ : Sto} {op : BinOp} {ty : Option Ty} {x y : AV} {K1 : AV → R1} {K2 : AV → R2} (hK : ∀ v, rel (K1 v) (K2 v)) : rel (binK b1 σ op ty x y K1) (binK b2 σ op ty x y K2) := by
  unfold binK
  split
  · split
    · exact shOp_par hb hK
    · exact shOp_par hb hK
    · exact bif_par (intOp_par hb hK) (hb _)
  · exact strOp_par hb hK
  · split
    · refine bif_par ?_ (hb _)
      split
      · exact eqK_par hb fun b => hK _
      · exact eqK_par hb fun b => hK _
      · exact hb _
    · exact hb _
theorem slNil_par {bo1 : R1 → R1 → R1} {bo2 : R2 → R2 → R2} (hb : ∀ n, rel (b1 n) (b2 n)) (hbo : ∀ x1 y1 x2 y2, rel x1 x2 → rel y1 y2 → rel (bo1 x1 y1) (bo2 x2 y2)) {σ : Sto} {x : AV} {K1 : Bool → R1} {K2 : Bool → R2} (hK : ∀ v, rel (K1 v) (K2 v)) : rel (slNil b1 bo1 σ x K1) (slNil b2 bo2 σ x K2) := by
  unfold slNil
  split <;> first
    | exact hK _
    | exact br_par (hbo _ _ _ _ (hK _) (hK _)) (hK _)
    | exact hb _
    | (split <;> first | exact br_par (hbo _ _ _ _ (hK _) (hK _)) (hK _) | exact hb _)
theorem slCmp_par {bo1 : R1 → R1 → R1} {bo2 : R2 → R2 → R2} (hb : ∀ n, rel (b1 n) (b2 n)) (hbo : ∀ x1 y1 x2 y2, rel x1 x2 → rel y1 y2 → rel (bo1 x1 y1) (bo2 x2 y2)) {σ : Sto} {op : BinOp} {x y : AV} {K1 : AV → R1} {K2 : AV → R2} (hK : ∀ v, rel (K1 v) (K2 v)) : rel (slCmp b1 bo1 σ op x y K1) (slCmp b2 bo2 σ op x y K2) := by
  unfold slCmp
  split
  · split <;> first
      | exact slNil_par hb hbo fun b => hK _
      | exact hb _
  · exact hb _
theorem lenK_par (hb : ∀ n, rel (b1 n) (b2 n)) {σ : Sto} {x : AV} {K1 : AV → R1} {K2 : AV → R2} (hK : ∀ v, rel (K1 v) (K2 v)) : rel (lenK b1 σ x K1) (lenK b2 σ x K2) := by
  unfold lenK
  dsimp only
  split <;> first
    | exact hK _
    | exact hb _
    | (split <;> first | exact hK _ | exact hb _)
theorem capK_par (hb : ∀ n, rel (b1 n) (b2 n)) {σ : Sto} {x : AV} {K1 : AV → R1} {K2 : AV → R2} (hK : ∀ v, rel (K1 v) (K2 v)) : rel (capK b1 σ x K1) (capK b2 σ x K2) := by
  unfold capK
  dsimp only
  split <;> first
    | exact hK _
    | exact hb _
    | (split <;> first | exact hK _ | exact hb _)
theorem idxK_par (hb : ∀ n, rel (b1 n) (b2 n)) {σ : Sto} {x : AV} {i : Int} {K1 : AV → R1} {K2 : AV → R2} (hK : ∀ v, rel (K1 v) (K2 v)) : rel (idxK b1 σ x i K1) (idxK b2 σ x i K2) := by
  unfold idxK
  split <;> first
    | exact need_par hb fun y => hK _
    | exact hb _
    | (split <;> first | exact br_par (hK _) (hb _) | exact hb _)
theorem fieldD_par (hb : ∀ n, rel (b1 n) (b2 n)) : ∀ {t : Ty} {x : t.T} {k : Nat} {K1 : (u : Ty) → u.T → R1} {K2 : (u : Ty) → u.T → R2}, (∀ u y, rel (K1 u y) (K2 u y)) → rel (fieldD b1 t x k K1) (fieldD b2 t x k K2) := by
  intro t
  induction t with
  | pair a b iha ihb =>
    intro x k K1 K2 hK
    cases k with
    | zero => exact hK _ _
    | succ k => exact ihb hK
  | _ => intro x k K1 K2 hK; exact hb _
theorem loadK_par (hb : ∀ n, rel (b1 n) (b2 n)) {σ : Sto} {p : AV} {K1 : AV → R1} {K2 : AV → R2} (hK : ∀ v, rel (K1 v) (K2 v)) : rel (loadK b1 σ p K1) (loadK b2 σ p K2) := by
  unfold loadK
  split
  · exact hK _
  · split
    · exact need_par hb fun x => getD_par hb fun u y => hK _
    · exact bif_par (getAV_par hb hK) (hb _)
    · exact hb _
  · exact hb _
theorem storeK_par (hb : ∀ n, rel (b1 n) (b2 n)) {σ : Sto} {p v : AV} {K1 : Sto → R1} {K2 : Sto → R2} (hK : ∀ v, rel (K1 v) (K2 v)) : rel (storeK b1 σ p v K1) (storeK b2 σ p v K2) := by
  unfold storeK
  split
  · split
    · split
      · split
        · dsimp only
          split
          · exact need_par hb fun x => setD_par hb fun z => hK _
          · exact hb _
        · exact hb _
      · exact hb _
    · exact bif_par ((setAV_par hb _).1 fun w => hK _) (hb _)
    · exact hb _
  · exact hb _
theorem newRow_par {σ : Sto} {e : Ty} {xs : List e.T} {ex : Bool} {K1 : AV → Sto → R1} {K2 : AV → Sto → R2} (hK : ∀ v σ, rel (K1 v σ) (K2 v σ)) : rel (newRow σ e xs ex K1) (newRow σ e xs ex K2) := hK _ _
theorem appK_par {bo1 : R1 → R1 → R1} {bo2 : R2 → R2 → R2} (hb : ∀ n, rel (b1 n) (b2 n)) (hbo : ∀ x1 y1 x2 y2, rel x1 x2 → rel y1 y2 → rel (bo1 x1 y1) (bo2 x2 y2)) {σ : Sto} {e : Ty} {bytes : Nat} {s : AV} {ys : List e.T} {K1 : AV → Sto → R1} {K2 : AV → Sto → R2} (hK : ∀ v σ, rel (K1 v σ) (K2 v σ)) : rel (appK b1 bo1 σ e bytes s ys K1) (appK b2 bo2 σ e bytes s ys K2) := by
  unfold appK
  split
  · exact bif_par (br_par (hK _ _) (br_par (newRow_par hK) (hb _))) (hb _)
  · split
    · exact br_par (hK _ _) (br_par (newRow_par hK) (hb _))
    · exact hb _
  · split
    · split
      · exact br_par (hK _ _) (br_par (newRow_par hK) (hb _))
      · exact hb _
    · exact hb _
  · split
    · split
      · exact br_par (hK _ _) (br_par (bif_par (newRow_par hK) (br_par (newRow_par hK) (hbo _ _ _ _ (newRow_par hK) (hK _ _)))) (hb _))
      · exact hb _
    · exact hb _
  · exact hb _
theorem srcK_par (hb : ∀ n, rel (b1 n) (b2 n)) {σ : Sto} {e : Ty} {x : AV} {K1 : List e.T → R1} {K2 : List e.T → R2} (hK : ∀ v, rel (K1 v) (K2 v)) : rel (srcK b1 σ e x K1) (srcK b2 σ e x K2) := by
  unfold srcK
  split
  · split
    · exact hK _
    · exact hb _
  · refine loadK_par hb fun u => ?_
    split
    · refine bif_par ?_ (hb _)
      split
      · exact hK _
      · exact hb _
    · exact hb _
  · split
    · exact hK _
    · exact hb _
theorem putRow_par (hb : ∀ n, rel (b1 n) (b2 n)) {σ : Sto} {e : Ty} {dst : AV} {f : Nat → List e.T} {K1 : Nat → Sto → R1} {K2 : Nat → Sto → R2} (hK : ∀ v σ, rel (K1 v σ) (K2 v σ)) : rel (putRow b1 σ e dst f K1) (putRow b2 σ e dst f K2) := by
  unfold putRow
  split
  · exact hK _ _
  · split
    · split
      · exact hK _ _
      · exact hb _
    · exact hb _
  · split
    · split
      · exact hK _ _
      · exact hb _
    · exact hb _
  · exact hb _
theorem sliceK_par (hb : ∀ n, rel (b1 n) (b2 n)) {σ : Sto} {x : AV} {lo hi mx : Option Int} {K1 : AV → R1} {K2 : AV → R2} (hK : ∀ v, rel (K1 v) (K2 v)) : rel (sliceK b1 σ x lo hi mx K1) (sliceK b2 σ x lo hi mx K2) := by
  unfold sliceK
  dsimp only
  split
  · split
    · exact hb _
    · exact br_par (hK _) (hb _)
  · split
    · exact br_par (br_par (hK _) (hK _)) (hb _)
    · exact br_par (hK _) (hb _)
  · exact br_par (br_par (hK _) (hK _)) (hb _)
  · exact br_par (hK _) (hb _)
  · split
    · split
      · exact hK _
      · exact br_par (hK _) (hb _)
    · exact hb _
  · split
    · exact br_par (hK _) (hb _)
    · exact hb _
  · exact hb _
theorem optI_par (hb : ∀ n, rel (b1 n) (b2 n)) {E : Env} {fr : Fr} {x : Option Operand} {K1 : Option Int → R1} {K2 : Option Int → R2} (hK : ∀ v, rel (K1 v) (K2 v)) : rel (optI b1 E fr x K1) (optI b2 E fr x K2) := by
  unfold optI
  split
  · exact hK _
  · split
    · exact hK _
    · exact hb _
end
end Go.Abs
