/- The evaluator's single operations against the model's: fields, slices, new objects. -/
import Derived.Test.YteeigkbjjoedoaaAOps7
set_option linter.unusedVariables false
set_option linter.unusedSimpArgs false
namespace Go.Abs
section
variable {P : Program}
theorem fdb_get {P : Program} : ∀ {t : Ty} {fs : List Field} {off k : Nat} {u : Ty}, fdb P t fs off = true → fieldTy t k = some u → ∃ f, fs[k]? = some f ∧ f.offset = off + offP t [k] ∧ tyb P u f.type = true ∧ u.csz ≠ 0 ∧ placeTy t [k] = some u := by
  intro t
  induction t with
  | pair a b iha ihb =>
    intro fs off k u h hu
    cases fs with
    | nil => simp [fdb] at h
    | cons f fs =>
      simp only [fdb, Bool.and_eq_true, Bool.not_eq_true', beq_eq_false_iff_ne, beq_iff_eq] at h
      obtain ⟨⟨⟨⟨h1, h2⟩, h3⟩, h4⟩, h5⟩ := h
      cases k with
      | zero =>
        simp only [fieldTy, Option.some.injEq] at hu
        subst hu
        exact ⟨f, rfl, by rw [h1]; simp [offP, offP_nil], h2, h3, by simp [placeTy, placeTy_nil]⟩
      | succ k =>
        simp only [fieldTy] at hu
        obtain ⟨f', k1, k2, k3, k4, k5⟩ := ihb h5 hu
        exact ⟨f', by simpa using k1, by rw [k2]; simp [offP]; omega, k3, k4, by simpa [placeTy] using k5⟩
  | _ => intro fs off k u h hu; simp [fieldTy] at hu
theorem fieldTy_pair {t : Ty} {k : Nat} {u : Ty} (h : fieldTy t k = some u) : ∃ a b, t = .pair a b := by
  cases t <;> first | exact ⟨_, _, rfl⟩ | simp [fieldTy] at h
theorem field_run {t : TypeId} {ty : Ty} (ht : tyb P ty t = true) {k : Nat} {u : Ty} (hu : fieldTy ty k = some u) {ad : Addr} {w : World} : (Instr.fieldAt t (.pointer (some ad)) k).run P w = .ok (.pointer (some (ad.add (offP ty [k])))) w := by
  obtain ⟨a, b, rfl⟩ := fieldTy_pair hu
  obtain ⟨fs, hs, hf, _⟩ := pair_under ht
  obtain ⟨f, h1, h2, h3, h4, _⟩ := fdb_get hf hu
  have h1' : fs[k]? = some f := by simpa using h1
  simp only [Instr.fieldAt, Sem.run_bind, run_underlying hs w, Result.andThen_ok, h1', Instr.sureAddr, Sem.run_pure, fieldPlace, run_sizeOf' h3 w, h4, if_false, h2, Nat.zero_add]
theorem fieldD_prop {w : World} {F : Nat → Prop} : ∀ {t : Ty} {x : t.T} {k : Nat} {cs : List Value} {K : (u : Ty) → u.T → Prop}, fieldD (fun _ => False) t x k K → Imm w F t x cs →
    ∃ u y c, K u y ∧ Imm w F u y c ∧ Sub c (offP t [k]) cs ∧ fieldTy t k = some u := by
  intro t
  induction t with
  | pair a b iha ihb =>
    intro x k cs K h hI
    obtain ⟨c, r, e, h1, h2⟩ := hI
    subst e
    cases k with
    | zero => exact ⟨a, x.1, c, h, h1, (Sub.left c r).cast (by simp [offP, offP_nil]), rfl⟩
    | succ k =>
      simp only [fieldD] at h
      obtain ⟨u, y, c', k1, k2, k3, k4⟩ := ihb h h2
      exact ⟨u, y, c', k1, k2, (k3.trans (Sub.right c r)).cast (by rw [h1.length]; simp [offP]), k4⟩
  | _ => intro x k cs K h hI; simp [fieldD] at h
theorem placeTy_snoc : ∀ {t : Ty} {p : List Nat} {u : Ty} {k : Nat}, placeTy t p = some u → placeTy t (p ++ [k]) = placeTy u [k] ∧ offP t (p ++ [k]) = offP t p + offP u [k] := by
  intro t
  induction t with
  | pair a b iha ihb =>
    intro p u k h
    match p, h with
    | [], h => rw [placeTy_nil] at h; cases h; simp [offP_nil]
    | 0 :: p, h =>
      simp only [placeTy] at h
      obtain ⟨h1, h2⟩ := iha h (k := k)
      exact ⟨by simpa [placeTy] using h1, by simpa [offP] using h2⟩
    | (n + 1) :: p, h =>
      simp only [placeTy] at h
      obtain ⟨h1, h2⟩ := ihb h (k := k)
      exact ⟨by simpa [placeTy] using h1, by simp only [List.cons_append, offP] at h2 ⊢; omega⟩
  | arr n e ihe =>
    intro p u k h
    match p, h with
    | [], h => rw [placeTy_nil] at h; cases h; simp [offP_nil]
    | i :: p, h =>
      simp only [placeTy] at h
      obtain ⟨h1, h2⟩ := ihe h (k := k)
      exact ⟨by simpa [placeTy] using h1, by simp only [List.cons_append, offP] at h2 ⊢; omega⟩
  | _ =>
    intro p u k h
    match p, h with
    | [], h => rw [placeTy_nil] at h; cases h; simp [offP_nil]
    | _ :: _, h => simp [placeTy] at h
theorem obTy_map {s : St} (hS : Sim s) {id : Nat} {t : Ty} (h : obTy (Sto.get s.σ id) = some t) : ∃ m, s.ρ id = some m ∧ m.ty = t := by
  have ho := hS.obj id
  cases hg : Sto.get s.σ id with
  | dead => rw [hg] at h; cases h
  | row e xs ex =>
    rw [hg] at h ho
    cases h
    obtain ⟨m, h1, h2, _⟩ := ho
    exact ⟨m, h1, h2⟩
  | one e v =>
    rw [hg] at h ho
    cases h
    obtain ⟨m, _, _, _, h1, h2, _⟩ := ho
    exact ⟨m, h1, h2⟩
  | kv e l => rw [hg] at h; cases h
  | deep e l hs => rw [hg] at h; cases h
theorem bound_run {i : Int} {k : IntKind} {y : Nat} {code : BoundsCode} {w : World} (h0 : 0 ≤ i) (h1 : i ≤ (y : Int)) : (Instr.sliceBound (.int k i) y code).run P w = .ok i.toNat w := by
  simp [Instr.sliceBound, asIntOf, h0, h1]
def OptV (x : Option Int) (c : Option Value) : Prop :=
  match x, c with
  | none, none => True
  | some n, some v => ∃ k, v = .int k n
  | _, _ => False
theorem bounds_run {isS : Bool} {len cap : Nat} {lo hi mx : Option Int} {clo chi cmx : Option Value} {w : World} (h1 : OptV lo clo) (h2 : OptV hi chi) (h3 : OptV mx cmx) (hmx : mx.isSome = true → hi.isSome = true)
    (l : 0 ≤ lo.getD 0) (lh : lo.getD 0 ≤ hi.getD len) (hm : hi.getD len ≤ mx.getD cap) (mc : mx.getD cap ≤ (cap : Int)) :
    (Instr.sliceBounds isS len cap clo chi cmx).run P w = .ok ((lo.getD 0).toNat, (hi.getD len).toNat, (mx.getD cap).toNat) w := by
  unfold Instr.sliceBounds
  cases mx with
  | none =>
    cases cmx with
    | some _ => exact h3.elim
    | none =>
      cases hi with
      | none =>
        cases chi with
        | some _ => exact h2.elim
        | none =>
          cases lo with
          | none =>
            cases clo with
            | some _ => exact h1.elim
            | none => simp
          | some l' =>
            cases clo with
            | none => exact h1.elim
            | some c =>
              obtain ⟨k, rfl⟩ := h1
              simp only [Option.getD_some, Option.getD_none] at l lh hm mc ⊢
              simp [bound_run l (show l' ≤ (len : Int) from lh)]
      | some h' =>
        cases chi with
        | none => exact h2.elim
        | some c =>
          obtain ⟨k, rfl⟩ := h2
          simp only [Option.getD_some, Option.getD_none] at l lh hm mc ⊢
          have b1 := fun code => bound_run (P := P) (k := k) (code := code) (w := w) (show 0 ≤ h' by omega) (show h' ≤ (cap : Int) from hm)
          cases lo with
          | none =>
            cases clo with
            | some _ => exact h1.elim
            | none => simp [b1]
          | some l' =>
            cases clo with
            | none => exact h1.elim
            | some c =>
              obtain ⟨k', rfl⟩ := h1
              simp only [Option.getD_some] at l lh ⊢
              have b2 := fun code => bound_run (P := P) (k := k') (code := code) (w := w) l (show l' ≤ ((h'.toNat : Nat) : Int) by omega)
              simp [b1, b2]
  | some m' =>
    cases cmx with
    | none => exact h3.elim
    | some c =>
      obtain ⟨k, rfl⟩ := h3
      cases hi with
      | none => simp at hmx
      | some h' =>
        cases chi with
        | none => exact h2.elim
        | some c =>
          obtain ⟨k2, rfl⟩ := h2
          simp only [Option.getD_some, Option.getD_none] at l lh hm mc ⊢
          have b0 := fun code => bound_run (P := P) (k := k) (code := code) (w := w) (show 0 ≤ m' by omega) (show m' ≤ (cap : Int) from mc)
          have b1 := fun code => bound_run (P := P) (k := k2) (code := code) (w := w) (show 0 ≤ h' by omega) (show h' ≤ ((m'.toNat : Nat) : Int) by omega)
          cases lo with
          | none =>
            cases clo with
            | some _ => exact h1.elim
            | none => simp [b0, b1]
          | some l' =>
            cases clo with
            | none => exact h1.elim
            | some c =>
              obtain ⟨k', rfl⟩ := h1
              simp only [Option.getD_some] at l lh ⊢
              have b2 := fun code => bound_run (P := P) (k := k') (code := code) (w := w) l (show l' ≤ ((h'.toNat : Nat) : Int) by omega)
              simp [b0, b1, b2]
theorem slice_run {t te : TypeId} {e : Ty} (hu : P.underlying t = some (.slice te)) (he : tyb P e te = true) {a : Option Addr} {len cap : Nat} {lo hi mx : Option Int} {clo chi cmx : Option Value} {w : World} (h1 : OptV lo clo) (h2 : OptV hi chi) (h3 : OptV mx cmx)
    (hmx : mx.isSome = true → hi.isSome = true) (l : 0 ≤ lo.getD 0) (lh : lo.getD 0 ≤ hi.getD len) (hm : hi.getD len ≤ mx.getD cap) (mc : mx.getD cap ≤ (cap : Int)) :
    (Instr.sliceAt t (.slice a len cap) clo chi cmx).run P w = .ok (.slice (if (mx.getD cap).toNat = (lo.getD 0).toNat then a else a.map (·.add ((lo.getD 0).toNat * e.csz))) ((hi.getD len).toNat - (lo.getD 0).toNat) ((mx.getD cap).toNat - (lo.getD 0).toNat)) w := by
  simp only [Instr.sliceAt, Sem.run_bind, run_underlying hu w, Result.andThen_ok, Instr.slice, bounds_run h1 h2 h3 hmx l lh hm mc, run_sizeOf' he w, Sem.run_pure]
end
end Go.Abs
