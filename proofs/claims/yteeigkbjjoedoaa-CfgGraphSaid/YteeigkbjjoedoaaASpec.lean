/- Specifications of functions and of loops. -/
import Derived.Test.YteeigkbjjoedoaaATr
set_option linter.unusedVariables false
namespace Go.Abs
abbrev Sp := List AV → Sto → (AV → Sto → Prop) → Prop
abbrev LSp := List AV → Sto → (Exit → Fr → Sto → Prop) → Prop
abbrev I (n : Int) : AV := .d (.int .i64) n
abbrev B (b : Bool) : AV := .d .bool b
theorem eqNs_eq2 : ∀ {a b : List Nat}, eqNs a b = true → a = b
  | [], [], _ => rfl
  | x :: a, y :: b, h => by
    simp only [eqNs, Bool.and_eq_true] at h
    rw [Nat.eq_of_beq_eq_true h.1, eqNs_eq2 h.2]
  | [], _ :: _, h => by cases h
  | _ :: _, [], h => by cases h
def asD (t : Ty) (v : AV) (F : t.T → Prop) : Prop :=
  match v with
  | .d u x => if h : u = t then F (cst h x) else False
  | _ => False
def asRow (t : Ty) (o : Ob) (F : List t.T → Bool → Prop) : Prop :=
  match o with
  | .row u xs ex => if h : Ty.sl u = Ty.sl t then F (cst h xs) ex else False
  | _ => False
def isVec (v : AV) (i : Nat) : Bool :=
  match v with
  | .vec j => Nat.beq j i
  | _ => false
theorem asD_inv {t : Ty} {v : AV} {F : t.T → Prop} (h : asD t v F) : ∃ x, v = .d t x ∧ F x := by
  unfold asD at h
  split at h
  · split at h
    · rename_i u x hu
      cases hu
      exact ⟨_, rfl, h⟩
    · exact h.elim
  · exact h.elim
theorem asRow_inv {t : Ty} {o : Ob} {F : List t.T → Bool → Prop} (h : asRow t o F) : ∃ xs ex, o = .row t xs ex ∧ F xs ex := by
  unfold asRow at h
  split at h
  · split at h
    · rename_i u x _ hu
      cases hu
      exact ⟨_, _, rfl, h⟩
    · exact h.elim
  · exact h.elim
theorem isVec_inv {v : AV} {i : Nat} (h : isVec v i = true) : v = .vec i := by
  unfold isVec at h
  split at h
  · rw [Nat.eq_of_beq_eq_true h]
  · cases h
def asCons {α : Type} (l : List α) (F : α → List α → Prop) : Prop := match l with | a :: r => F a r | [] => False
def asNil {α : Type} (l : List α) (F : Prop) : Prop := match l with | [] => F | _ :: _ => False
def asDp (t : Ty) (v : AV) (F : t.T → Prop) : Prop :=
  match v with
  | .dp u x => if h : u = t then F (cst h x) else False
  | _ => False
def asDx (t : Ty) (v : AV) (F : List t.T → Prop) : Prop :=
  match v with
  | .dx u x => if h : Ty.sl u = Ty.sl t then F (cst h x) else False
  | _ => False
def isP : AV → AV → Bool
  | .undef, .undef => true
  | .skip, .skip => true
  | .vec i, .vec j => Nat.beq i j
  | .ptr i k p, .ptr i' k' p' => Nat.beq i i' && Nat.beq k k' && eqNs p p'
  | .nils t, .nils u => decide (t = u)
  | .mp i, .mp j => Nat.beq i j
  | _, _ => false
def asP (p v : AV) (F : Prop) : Prop := match isP p v with | true => F | false => False
def asAgL (v : AV) (F : List AV → Prop) : Prop := match v with | .agg l => F l | _ => False
def asTup (v : AV) (F : List AV → Prop) : Prop := match v with | .tup l => F l | _ => False
def asFn (f : Nat) (v : AV) (F : List AV → List AV → Prop) : Prop := match v with | .fn g a b => (bif Nat.beq f g then F a b else False) | _ => False
def asSl (i : Nat) (ex : Bool) (v : AV) (F : Nat → Nat → Nat → Prop) : Prop := match v with | .sl j o l c x => (bif Nat.beq i j && (ex == x) then F o l c else False) | _ => False
def asRw (t : Ty) (ex : Bool) (o : Ob) (F : List t.T → Prop) : Prop :=
  match o with
  | .row u xs x => if h : Ty.sl u = Ty.sl t then (bif ex == x then F (cst h xs) else False) else False
  | _ => False
def asOne (t : Ty) (o : Ob) (F : AV → Prop) : Prop :=
  match o with
  | .one u v => if u = t then F v else False
  | _ => False
def cstKv {t u : Ty} (h : t = u) (l : List (Int × t.T)) : List (Int × u.T) := h ▸ l
def asKv (t : Ty) (o : Ob) (F : List (Int × t.T) → Prop) : Prop :=
  match o with
  | .kv u l => if h : u = t then F (cstKv h l) else False
  | _ => False
def asDeep (t : Ty) (o : Ob) (F : List (List t.T) → List (Nat × Nat) → Prop) : Prop :=
  match o with
  | .deep u xs hs => if h : Ty.sl (.sl u) = Ty.sl (.sl t) then F (cst h xs) hs else False
  | _ => False
def asHole (j : Nat) (p : Nat × Nat) (F : Nat → Prop) : Prop := bif Nat.beq p.2 j then F p.1 else False
def asDead (o : Ob) (F : Prop) : Prop := match o with | .dead => F | _ => False
theorem asCons_inv {α : Type} {l : List α} {F} (h : asCons l F) : ∃ a r, l = a :: r ∧ F a r := by
  cases l with
  | nil => exact h.elim
  | cons a r => exact ⟨a, r, rfl, h⟩
theorem asNil_inv {α : Type} {l : List α} {F} (h : asNil l F) : l = [] ∧ F := by
  cases l with
  | nil => exact ⟨rfl, h⟩
  | cons a r => exact h.elim
theorem asDp_inv {t : Ty} {v : AV} {F : t.T → Prop} (h : asDp t v F) : ∃ x, v = .dp t x ∧ F x := by
  unfold asDp at h
  split at h
  · split at h
    · rename_i u x hu
      cases hu
      exact ⟨_, rfl, h⟩
    · exact h.elim
  · exact h.elim
theorem asDx_inv {t : Ty} {v : AV} {F : List t.T → Prop} (h : asDx t v F) : ∃ x, v = .dx t x ∧ F x := by
  unfold asDx at h
  split at h
  · split at h
    · rename_i u x hu
      cases hu
      exact ⟨_, rfl, h⟩
    · exact h.elim
  · exact h.elim
theorem isP_eq {p v : AV} (h : isP p v = true) : v = p := by
  unfold isP at h
  split at h
  · rfl
  · rfl
  · rw [Nat.eq_of_beq_eq_true h]
  · simp only [Bool.and_eq_true] at h
    rw [Nat.eq_of_beq_eq_true h.1.1, Nat.eq_of_beq_eq_true h.1.2, eqNs_eq2 h.2]
  · rw [of_decide_eq_true h]
  · rw [Nat.eq_of_beq_eq_true h]
  · cases h
theorem asP_inv {p v : AV} {F} (h : asP p v F) : v = p ∧ F := by
  unfold asP at h
  split at h
  · exact ⟨isP_eq (by assumption), h⟩
  · exact h.elim
theorem asAgL_inv {v : AV} {F} (h : asAgL v F) : ∃ l, v = .agg l ∧ F l := by
  unfold asAgL at h
  split at h
  · exact ⟨_, rfl, h⟩
  · exact h.elim
theorem asTup_inv {v : AV} {F} (h : asTup v F) : ∃ l, v = .tup l ∧ F l := by
  unfold asTup at h
  split at h
  · exact ⟨_, rfl, h⟩
  · exact h.elim
theorem asFn_inv {f : Nat} {v : AV} {F} (h : asFn f v F) : ∃ a b, v = .fn f a b ∧ F a b := by
  unfold asFn at h
  split at h
  · rename_i g a b
    cases hb : Nat.beq f g with
    | true => rw [hb] at h; exact ⟨a, b, by rw [Nat.eq_of_beq_eq_true hb], h⟩
    | false => rw [hb] at h; exact h.elim
  · exact h.elim
theorem asSl_inv {i : Nat} {ex : Bool} {v : AV} {F} (h : asSl i ex v F) : ∃ o l c, v = .sl i o l c ex ∧ F o l c := by
  unfold asSl at h
  split at h
  · rename_i j o l c x
    cases hb : Nat.beq i j && (ex == x) with
    | true =>
      rw [hb] at h
      simp only [Bool.and_eq_true, beq_iff_eq] at hb
      exact ⟨o, l, c, by rw [Nat.eq_of_beq_eq_true hb.1, hb.2], h⟩
    | false => rw [hb] at h; exact h.elim
  · exact h.elim
theorem asRw_inv {t : Ty} {ex : Bool} {o : Ob} {F : List t.T → Prop} (h : asRw t ex o F) : ∃ xs, o = .row t xs ex ∧ F xs := by
  unfold asRw at h
  split at h
  · split at h
    · rename_i u xs x hu
      cases hu
      cases hb : ex == x with
      | true =>
        rw [hb] at h
        rw [beq_iff_eq] at hb
        subst hb
        exact ⟨_, rfl, h⟩
      | false => rw [hb] at h; exact h.elim
    · exact h.elim
  · exact h.elim
theorem asOne_inv {t : Ty} {o : Ob} {F : AV → Prop} (h : asOne t o F) : ∃ v, o = .one t v ∧ F v := by
  unfold asOne at h
  split at h
  · split at h
    · rename_i u v hu
      subst hu
      exact ⟨_, rfl, h⟩
    · exact h.elim
  · exact h.elim
theorem asKv_inv {t : Ty} {o : Ob} {F : List (Int × t.T) → Prop} (h : asKv t o F) : ∃ l, o = .kv t l ∧ F l := by
  unfold asKv at h
  split at h
  · split at h
    · rename_i u l hu
      subst hu
      exact ⟨_, rfl, h⟩
    · exact h.elim
  · exact h.elim
theorem asDeep_inv {t : Ty} {o : Ob} {F : List (List t.T) → List (Nat × Nat) → Prop} (h : asDeep t o F) : ∃ xs hs, o = .deep t xs hs ∧ F xs hs := by
  unfold asDeep at h
  split at h
  · split at h
    · rename_i u xs hs hu
      have hu' : u = t := by simpa using hu
      subst hu'
      exact ⟨_, _, rfl, h⟩
    · exact h.elim
  · exact h.elim
theorem asHole_inv {j : Nat} {p : Nat × Nat} {F : Nat → Prop} (h : asHole j p F) : ∃ i, p = (i, j) ∧ F i := by
  unfold asHole at h
  obtain ⟨i, k⟩ := p
  cases hb : Nat.beq k j with
  | true => rw [hb] at h; rw [Nat.eq_of_beq_eq_true hb]; exact ⟨i, rfl, h⟩
  | false => rw [hb] at h; exact h.elim
theorem asDead_inv {o : Ob} {F : Prop} (h : asDead o F) : o = .dead ∧ F := by
  cases o with
  | dead => exact ⟨rfl, h⟩
  | _ => exact h.elim
inductive Shp where
  | d (t : Ty) | dp (t : Ty) | dx (t : Ty) | fix (v : AV) | sl (i : Nat) (ex : Bool)
  | agg (l : List Shp) | tup (l : List Shp) | fn (f : Nat) (a b : List Shp)
inductive OShp where
  | row (t : Ty) (ex : Bool) | one (t : Ty) (v : Shp) | dead | kv (t : Ty) | deep (t : Ty) (l : List Nat)
def shB : Nat → Shp → AV → Bool
  | n + 1, s, v =>
    match s, v with
    | .d t, .d u _ => decide (t = u)
    | .dp t, .dp u _ => decide (t = u)
    | .dx t, .dx u _ => decide (t = u)
    | .fix p, v => isP p v
    | .sl i x, .sl j _ _ _ y => Nat.beq i j && (x == y)
    | .agg l, .agg m => eqTs' (shB n) l m
    | .tup l, .tup m => eqTs' (shB n) l m
    | .fn f a b, .fn g c d => Nat.beq f g && eqTs' (shB n) a c && eqTs' (shB n) b d
    | _, _ => false
  | 0, _, _ => false
  where
  eqTs' {α β : Type} (f : α → β → Bool) : List α → List β → Bool
    | [], [] => true
    | x :: r, y :: s => f x y && eqTs' f r s
    | _, _ => false
def oshB : OShp → Ob → Bool
  | .row t x, .row u _ y => decide (t = u) && (x == y)
  | .one t s, .one u v => decide (t = u) && shB depth s v
  | .dead, .dead => true
  | .kv t, .kv u _ => decide (t = u)
  | .deep t l, .deep u _ hs => decide (t = u) && eqNs l (hs.map fun p => p.2)
  | _, _ => false
abbrev Pat := Option (List Shp × List OShp)
def patB (p : Pat) (vs : List AV) (σ : Sto) : Bool :=
  match p with
  | none => true
  | some (l, m) => shB.eqTs' (shB depth) l vs && shB.eqTs' oshB m σ
def ofL : List (Nat × Pat × Sp) → FuncId → List AV → Sto → (AV → Sto → Prop) → Prop
  | [], _, _, _, _ => False
  | (k, p, s) :: r, f, args, τ, K => bif Nat.beq k f && patB p args τ then s args τ K else ofL r f args τ K
def lofS : List (Nat × List Nat × Pat × LSp) → Nat → List Nat → LSp
  | [], _, _, _, _, _ => False
  | (k, sl, p, s) :: r, mk, sl', vs, σ, K => bif Nat.beq k mk && patB p vs σ then (bif eqNs sl' sl then s vs σ K else False) else lofS r mk sl' vs σ K
def lofL (l : List (Nat × List Nat × Pat × LSp)) : Fr → Sto → (Exit → Fr → Sto → Prop) → Prop
  | (mk, .undef) :: fr, σ, K => lofS l mk (fr.map (·.1)) (fr.map (·.2)) σ K
  | _, _, _ => False
def specsOf : List (Nat × List Nat × Pat × LSp) → Nat → List (List Nat × LSp)
  | [], _ => []
  | (k, sl, _, s) :: r, mk => bif Nat.beq k mk then (sl, s) :: specsOf r mk else specsOf r mk
theorem lofS_inv {l : List (Nat × List Nat × Pat × LSp)} {mk : Nat} {sl' : List Nat} {vs : List AV} {σ : Sto} {K : Exit → Fr → Sto → Prop} (h : lofS l mk sl' vs σ K) : ∃ q ∈ specsOf l mk, sl' = q.1 ∧ q.2 vs σ K := by
  induction l with
  | nil => exact h.elim
  | cons e r ih =>
    obtain ⟨k, sl, p, s⟩ := e
    simp only [lofS] at h
    simp only [specsOf]
    cases hb : Nat.beq k mk with
    | false =>
      rw [hb] at h
      exact ih h
    | true =>
      rw [hb] at h
      cases hp : patB p vs σ with
      | false =>
        rw [hp] at h
        obtain ⟨q, h1, h2⟩ := ih h
        exact ⟨q, List.mem_cons_of_mem _ h1, h2⟩
      | true =>
        rw [hp] at h
        cases he : eqNs sl' sl with
        | false => rw [he] at h; exact h.elim
        | true => rw [he] at h; exact ⟨(sl, s), List.mem_cons_self, eqNs_eq2 he, h⟩
theorem specOK_nil {E : Env} : SpecOK E (ofL []) := fun f args τ K h => h.elim
theorem specOK_cons {E : Env} {l : List (Nat × Pat × Sp)} {f : Nat} {p : Pat} {s : Sp} (hs : ∀ args τ K, s args τ K → ACall E f args τ K) (hl : SpecOK E (ofL l)) : SpecOK E (ofL ((f, p, s) :: l)) := by
  intro g args τ K h
  unfold ofL at h
  cases hb : Nat.beq f g && patB p args τ with
  | true => rw [hb] at h; rw [Bool.and_eq_true] at hb; rw [← Nat.eq_of_beq_eq_true hb.1]; exact hs _ _ _ h
  | false => rw [hb] at h; exact hl _ _ _ _ h
def zipF : List Nat → List AV → Fr
  | t :: r, v :: s => (t, v) :: zipF r s
  | _, _ => []
theorem zipF_map : ∀ (fr : Fr), zipF (fr.map (·.1)) (fr.map (·.2)) = fr
  | [] => rfl
  | (t, v) :: r => by
    simp only [List.map_cons, zipF]
    rw [zipF_map r]
def LoopV (E : Env) (i : Inl Prop) (keep : List (Nat × List Nat)) (m nt : Nat) (mk : Nat) (c : Code) (q : List Nat × LSp) : Prop :=
  ∀ vs σ K, q.2 vs σ K → propLoop (cutK (fun _ => False) keep m (firstR c)) (fun k => evC ⟨PA (ACall E), E, i, keep, m, nt⟩ c (exitK (fun _ => False) keep m (firstR c) k)) K ((mk, .undef) :: zipF q.1 vs) σ
structure Holds (p : Prop) : Prop where
  of : p
def JoinV (E : Env) (i : Inl Prop) (keep : List (Nat × List Nat)) (m nt : Nat) (mk r : Nat) (c : Code) (q : List Nat × LSp) : Prop :=
  ∀ vs σ K, q.2 vs σ K → Holds (evC ⟨PA (ACall E), E, i, keep, m, nt⟩ c (endCut (fun _ => False) keep m (some r) K) ((mk, .undef) :: zipF q.1 vs) σ)
theorem lof_inv {l : List (Nat × List Nat × Pat × LSp)} {mk : Nat} {fr : Fr} {σ : Sto} {K : Exit → Fr → Sto → Prop} {sl : List Nat} (hs : fr.map (·.1) = mk :: sl) (h : lofL l fr σ K) : ∃ vs, ∃ q ∈ specsOf l mk, fr = (mk, .undef) :: zipF q.1 vs ∧ q.2 vs σ K := by
  cases fr with
  | nil => simp at hs
  | cons p fr' =>
    obtain ⟨mk', v⟩ := p
    cases v <;> try exact h.elim
    simp only [List.map_cons, List.cons.injEq] at hs
    obtain ⟨h1, h2⟩ := hs
    subst h1
    obtain ⟨q, k1, k2, k3⟩ := lofS_inv h
    exact ⟨_, q, k1, by rw [← k2, zipF_map], k3⟩
theorem loopOK_of {E : Env} {i : Inl Prop} {keep : List (Nat × List Nat)} {m nt : Nat} {l : List (Nat × List Nat × Pat × LSp)} {c : Code} {mk : Nat} {sl : List Nat} {ss : List (List Nat × LSp)}
    (hk : (firstR c).bind (lookup keep) = some (mk :: sl)) (hl : specsOf l mk = ss) (h : ∀ q ∈ ss, LoopV E i keep m nt mk c q) : SubOK E i keep m nt (lofL l) (.loop c) := by
  intro fr σ K hs hL
  obtain ⟨vs, q, k1, k2, k3⟩ := lof_inv (hs _ hk) hL
  rw [hl] at k1
  rw [k2]
  exact h q k1 vs σ K k3
theorem joinOK_of {E : Env} {i : Inl Prop} {keep : List (Nat × List Nat)} {m nt : Nat} {l : List (Nat × List Nat × Pat × LSp)} {r : Nat} {c : Code} {mk : Nat} {sl : List Nat} {ss : List (List Nat × LSp)}
    (hk : lookup keep r = some (mk :: sl)) (hl : specsOf l mk = ss) (h : ∀ q ∈ ss, JoinV E i keep m nt mk r c q) : SubOK E i keep m nt (lofL l) (.join r c) := by
  intro fr σ K hs hL
  obtain ⟨vs, q, k1, k2, k3⟩ := lof_inv (hs _ hk) hL
  rw [hl] at k1
  rw [k2]
  exact (h q k1 vs σ K k3).of
theorem loop_round {E : Env} {S L} (hS : SpecOK E S) (hL : InlOK E L) {c : Code} {keep : List (Nat × List Nat)} {m nt : Nat} (hl : ∀ c' ∈ subsOf keep c, SubOK E (inlF (PA (ACall E)) E 8) keep m nt L c')
    {K : Exit → Fr → Sto → Prop} {J : Fr → Sto → Prop} (hJ : ∀ fr σ, evC ⟨PA (ACall E), E, inlF (PA (ACall E)) E 8, keep, m, nt⟩ c (exitK (fun _ => False) keep m (firstR c) (thenK (fun fr σ => cutK (fun _ => False) keep m (firstR c) fr σ J) K)) fr σ → J fr σ) {fr : Fr} {σ : Sto}
    (h : evC ⟨PS S L, E, inlF (PS S L) E 8, keep, m, nt⟩ c (exitK (fun _ => False) keep m (firstR c) (thenK (fun fr σ => cutK (fun _ => False) keep m (firstR c) fr σ J) K)) fr σ) : J fr σ :=
  hJ fr σ (evC_tr hS (inlF_tr hS hL 8) (inlF_self 8) c hl (fun _ _ _ h => h) fr σ h)
theorem join_round {E : Env} {S L} (hS : SpecOK E S) (hL : InlOK E L) {c : Code} {keep : List (Nat × List Nat)} {m nt : Nat} (hl : ∀ c' ∈ subsOf keep c, SubOK E (inlF (PA (ACall E)) E 8) keep m nt L c')
    {K : Exit → Fr → Sto → Prop} {fr : Fr} {σ : Sto} (h : evC ⟨PS S L, E, inlF (PS S L) E 8, keep, m, nt⟩ c K fr σ) : evC ⟨PA (ACall E), E, inlF (PA (ACall E)) E 8, keep, m, nt⟩ c K fr σ :=
  evC_tr hS (inlF_tr hS hL 8) (inlF_self 8) c hl (fun _ _ _ h => h) fr σ h
theorem loop_round2 {E : Env} {S L} (hS : SpecOK E S) (hL : InlOK E L) {c : Code} {keep : List (Nat × List Nat)} {m nt : Nat} (hl : ∀ c' ∈ subsOf keep c, SubOK E (inlF (PA (ACall E)) E 8) keep m nt L c')
    {K : Exit → Fr → Sto → Prop} {J : Fr → Sto → Prop} (hJ : ∀ fr σ, evC ⟨PA (ACall E), E, inlF (PA (ACall E)) E 8, keep, m, nt⟩ c (exitK (fun _ => False) keep m (firstR c) (thenK (fun fr σ => cutK (fun _ => False) keep m (firstR c) fr σ J) K)) fr σ → J fr σ) {fr : Fr} {σ : Sto} {β : Prop}
    (e : evC ⟨PS S L, E, inlF (PS S L) E 8, keep, m, nt⟩ c (exitK (fun _ => False) keep m (firstR c) (thenK (fun fr σ => cutK (fun _ => False) keep m (firstR c) fr σ J) K)) fr σ = β) (hb : β) : J fr σ := loop_round hS hL hl hJ (Eq.mpr e hb)
theorem join_round2 {E : Env} {S L} (hS : SpecOK E S) (hL : InlOK E L) {c : Code} {keep : List (Nat × List Nat)} {m nt : Nat} (hl : ∀ c' ∈ subsOf keep c, SubOK E (inlF (PA (ACall E)) E 8) keep m nt L c')
    {K : Exit → Fr → Sto → Prop} {fr : Fr} {σ : Sto} {β : Prop} (e : evC ⟨PS S L, E, inlF (PS S L) E 8, keep, m, nt⟩ c K fr σ = β) (hb : β) : Holds (evC ⟨PA (ACall E), E, inlF (PA (ACall E)) E 8, keep, m, nt⟩ c K fr σ) := ⟨join_round hS hL hl (Eq.mpr e hb)⟩
theorem ACall.spec2 {E : Env} {S L} (hS : SpecOK E S) {f : FuncId} {fn : Func} {c : Code} (hf : E.fn f = some fn) (hc : fn.body = some c) {args : List AV} {τ : Sto} {Q : AV → Sto → Prop}
    (hL : InlOK E L)
    (hl : ∀ c' ∈ subsOf (E.info f).keep c, SubOK E (inlF (PA (ACall E)) E 8) (E.info f).keep τ.length fn.ntmps L c') {β : Prop}
    (e : evFn (PS S L) E f args τ Q = β) (hb : β) : ACall E f args τ Q := ACall.spec hS hf hc hL hl (Eq.mpr e hb)
theorem inlOK_none {E : Env} (h : ∀ f, (E.info f).inl = false) (L) : InlOK E L := fun f fn c n m hi => by rw [h f] at hi; cases hi
theorem to {α : Prop} (β : Prop) (h : α = β) (hb : β) : α := h ▸ hb
def shlI (k : IntKind) (a b : Int) : Int := k.wrap (a * 2 ^ min b.toNat k.bits)
def shrI (k : IntKind) (a b : Int) : Int := a.fdiv (2 ^ min b.toNat k.bits)
theorem br_intro {b : Bool} {x y : Prop} (h1 : b = true → x) (h2 : b = false → y) : br b x y := by
  cases b
  · exact h2 rfl
  · exact h1 rfl
def infoOf (l : List (Nat × FnInfo)) (f : FuncId) : FnInfo := match lookup l f with | some i => i | none => {}
theorem infoOf_inl {l : List (Nat × FnInfo)} (h : (l.all fun p => !p.2.inl) = true) (f : FuncId) : (infoOf l f).inl = false := by
  unfold infoOf
  split
  · rename_i i hi
    induction l with
    | nil => simp [lookup] at hi
    | cons p r ih =>
      obtain ⟨k, u⟩ := p
      simp only [List.all_cons, Bool.and_eq_true, Bool.not_eq_true'] at h
      simp only [lookup] at hi
      cases hb : Nat.beq k f with
      | true => rw [hb] at hi; cases hi; exact h.1
      | false => rw [hb] at hi; exact ih h.2 hi
  · rfl
def codeOf (fn : Func) : Code := match fn.body with | some c => c | none => .skip
def loopAt (r : Nat) : Code → Option Code
  | .seq a b => match loopAt r a with | some c => some c | none => loopAt r b
  | .block _ c => loopAt r c
  | .cond _ x y => match loopAt r x with | some c => some c | none => loopAt r y
  | .loop c => match firstR c with | some q => bif Nat.beq q r then some c else loopAt r c | none => loopAt r c
  | _ => none
def body (fn : Func) (r : Nat) : Code := match loopAt r (codeOf fn) with | some c => c | none => .skip
theorem all_nil {α : Type} {P : α → Prop} : ∀ c ∈ ([] : List α), P c := fun c h => absurd h List.not_mem_nil
theorem all_cons {α : Type} {P : α → Prop} {a : α} {l : List α} (h : P a) (hl : ∀ c ∈ l, P c) : ∀ c ∈ a :: l, P c := fun c hc => by
  cases hc with
  | head => exact h
  | tail _ hc => exact hl c hc
theorem all_eq {α : Type} {P : α → Prop} {l l' : List α} (e : l = l') (h : ∀ c ∈ l', P c) : ∀ c ∈ l, P c := e ▸ h
def joinAt (r : Nat) : Code → Option Code
  | .seq a b =>
    match joinKey a b with
    | some q => bif Nat.beq q r then some b else (match joinAt r a with | some c => some c | none => joinAt r b)
    | none => (match joinAt r a with | some c => some c | none => joinAt r b)
  | .block _ c => joinAt r c
  | .cond _ x y => match joinAt r x with | some c => some c | none => joinAt r y
  | .loop c => joinAt r c
  | _ => none
def jbody (fn : Func) (r : Nat) : Code := match joinAt r (codeOf fn) with | some c => c | none => .skip
end Go.Abs
