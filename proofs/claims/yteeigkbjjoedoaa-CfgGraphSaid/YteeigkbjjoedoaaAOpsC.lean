/- The evaluator's single operations against the model's: new values and objects. -/
import Derived.Test.YteeigkbjjoedoaaAOpsB
set_option linter.unusedVariables false
set_option linter.unusedSimpArgs false
namespace Go.Abs
section
variable {P : Program}
theorem Imm.flat {w w' : World} {F F' : Nat → Prop} : ∀ {t : Ty} {x : t.T} {cs}, t.flat = true → Imm w F t x cs → Imm w' F' t x cs
  | .int _, _, _, _, h => h
  | .bool, _, _, _, h => h
  | .str, _, _, _, h => h
  | .opq _, _, _, _, h => h
  | .unit, _, _, _, h => h
  | .sl e, xs, cs, hf, _ => by simp [Ty.flat, Ty.hasSl] at hf
  | .pair a b, x, cs, hf, ⟨c, r, e, h1, h2⟩ => by
    simp only [Ty.flat, Ty.hasSl, Bool.not_eq_true', Bool.or_eq_false_iff] at hf
    exact ⟨c, r, e, Imm.flat (by simp [Ty.flat, hf.1]) h1, Imm.flat (by simp [Ty.flat, hf.2]) h2⟩
  | .arr n e, xs, cs, hf, ⟨h1, h2⟩ => ⟨h1, ImmL.mono (fun _ _ _ h => Imm.flat (by simpa [Ty.flat, Ty.hasSl] using hf) h) h2⟩
theorem zero_imm {w : World} {F : Nat → Prop} : ∀ (t : Ty), Imm w F t t.zero (zcells t)
  | .int _ => rfl
  | .bool => rfl
  | .str => ⟨⟨#[]⟩, rfl, rfl⟩
  | .opq _ => rfl
  | .unit => rfl
  | .sl e => ⟨none, 0, 0, rfl, rfl, Nat.le_refl _, .inl rfl⟩
  | .pair a b => ⟨_, _, rfl, zero_imm a, zero_imm b⟩
  | .arr n e => by
    refine ⟨by simp [Ty.zero], ?_⟩
    have h := zero_imm (w := w) (F := F) e
    show ImmL (Imm w F e) (List.replicate n e.zero) (List.replicate n (zcells e)).flatten
    induction n with
    | zero => rfl
    | succ n ih => exact ⟨_, _, by rw [List.replicate_succ, List.flatten_cons], h, ih⟩
theorem zero_imms {w : World} {F : Nat → Prop} (e : Ty) (n : Nat) : ImmL (Imm w F e) (List.replicate n e.zero) (List.replicate n (zcells e)).flatten := (zero_imm (.arr n e)).2
theorem zz_VR {w : World} {F : Nat → Prop} {ρ : Map} : ∀ (t : Ty), VR w F ρ t (zz t).1 (zcells t) ∧ (isRec t = true → VR w F ρ t (.agg (zz t).2) (zcells t))
  | .int k => ⟨.d (zero_imm (.int k)), fun h => by simp [isRec] at h⟩
  | .bool => ⟨.d (zero_imm .bool), fun h => by simp [isRec] at h⟩
  | .str => ⟨.d (zero_imm .str), fun h => by simp [isRec] at h⟩
  | .opq z => ⟨.d (zero_imm (.opq z)), fun h => by simp [isRec] at h⟩
  | .unit => ⟨.d (zero_imm .unit), fun _ => .unit⟩
  | .sl e => ⟨.nils, fun h => by simp [isRec] at h⟩
  | .arr n e => ⟨.d (zero_imm (.arr n e)), fun h => by simp [isRec] at h⟩
  | .pair a b => by
    have h1 := zz_VR (w := w) (F := F) (ρ := ρ) a
    have h2 := zz_VR (w := w) (F := F) (ρ := ρ) b
    refine ⟨?_, fun h => .pair h1.1 (h2.2 (by simpa [isRec] using h))⟩
    simp only [zz]
    cases hc : (Ty.pair a b).hasSl && isRec b with
    | false => exact .d (zero_imm (.pair a b))
    | true =>
      simp only [Bool.and_eq_true] at hc
      exact .pair h1.1 (h2.2 hc.2)
theorem packL_VR {w : World} {F : Nat → Prop} {ρ : Map} : ∀ {l : List AV} {ty : Ty} {cs : List Value} {t : Ty} {x : t.T}, VR w F ρ ty (.agg l) cs → packL l = some ⟨t, x⟩ → t = ty ∧ Imm w F t x cs
  | [], _, _, t, x, .unit, h => by
    simp only [packL, Option.some.injEq] at h
    cases h
    exact ⟨rfl, rfl⟩
  | v :: l, _, _, t, x, .pair h1 h2, h => by
    cases v with
    | d a y =>
      simp only [packL] at h
      split at h
      · rename_i b z hz
        obtain ⟨e1, i1⟩ := packL_VR h2 hz
        simp only [Option.some.injEq] at h
        cases h
        cases h1 with
        | d hI =>
          subst e1
          exact ⟨rfl, _, _, rfl, hI, i1⟩
      · cases h
    | _ => simp [packL] at h
theorem mkAgg_VV {w : World} {F : Nat → Prop} {ρ : Map} {l : List AV} {ty : Ty} {cs : List Value} (h : VR w F ρ ty (.agg l) cs) : VV w F ρ (mkAgg l) (toV ty cs) := by
  unfold mkAgg
  split
  · rename_i t x hx
    obtain ⟨e, hI⟩ := packL_VR h hx
    subst e
    exact VV_dI hI
  · exact VV_of_VR h
theorem setL_VR {w : World} {F : Nat → Prop} {ρ : Map} : ∀ {l : List AV} {ty : Ty} {cs : List Value} {k : Nat} {u : Ty} {v : AV} {cv : List Value}, VR w F ρ ty (.agg l) cs → fieldTy ty k = some u → VR w F ρ u v cv →
    ∃ pre c post, cs = pre ++ c ++ post ∧ pre.length = offP ty [k] ∧ c.length = cv.length ∧ VR w F ρ ty (.agg (setL l k v)) (pre ++ cv ++ post)
  | [], _, _, k, u, v, cv, .unit, h, _ => by simp [fieldTy] at h
  | x :: l, _, _, 0, u, v, cv, .pair (a := a) (b := b) (c := c) (r := r) h1 h2, h, hv => by
    simp only [fieldTy, Option.some.injEq] at h
    subst h
    exact ⟨[], c, r, by simp, by simp [offP, offP_nil], by rw [h1.length, hv.length], by simpa [setL] using VR.pair hv h2⟩
  | x :: l, _, _, k + 1, u, v, cv, .pair (a := a) (b := b) (c := c) (r := r) h1 h2, h, hv => by
    simp only [fieldTy] at h
    obtain ⟨pre, c', post, e, k1, k2, k3⟩ := setL_VR h2 h hv
    subst e
    exact ⟨c ++ pre, c', post, by simp, by simp [offP, h1.length, k1], k2, by have := VR.pair h1 k3; simpa [setL] using this⟩
theorem foldl_set (cv : List Value) : ∀ (l : List Value) (o k : Nat), o + k + cv.length ≤ l.length →
    ((cv.zipIdx k).foldl (fun (cs : Array Value) (p : Value × Nat) => cs.setIfInBounds (o + p.2) p.1) l.toArray).toList = l.take (o + k) ++ cv ++ l.drop (o + k + cv.length) := by
  induction cv with
  | nil => intro l o k _; simp
  | cons v cv ih =>
    intro l o k h
    simp only [List.length_cons] at h
    simp only [List.zipIdx_cons, List.foldl_cons, List.setIfInBounds_toArray]
    rw [ih (l.set (o + k) v) o (k + 1) (by rw [List.length_set]; omega)]
    have := list_seg_step l (o + k) v cv (by omega)
    simp only [List.length_cons]
    rw [show o + (k + 1) = o + k + 1 by omega, ← this]
theorem fill_step {place : Nat → Option (Nat × Nat)} {cells : List Value} {i off size : Nat} {v : Value} {rest : List (Nat × Value)} {cv : List Value} (hp : place i = some (off, size)) (hv : v.cells = cv.toArray) (hs : cv.length = size) (hf : off + cv.length ≤ cells.length) :
    Instr.fill place cells.toArray ((i, v) :: rest) = Instr.fill place (cells.take off ++ cv ++ cells.drop (off + cv.length)).toArray rest := by
  have h1 : ¬ (v.cells.size ≠ size || off + v.cells.size > cells.toArray.size) = true := by
    rw [hv]
    simp [hs]
    omega
  simp only [Instr.fill, hp]
  rw [if_neg (by simpa using h1)]
  congr 1
  have := foldl_set cv cells off 0 (by omega)
  apply Array.ext'
  rw [hv]
  simpa [Array.zipIdx_toArray] using this
theorem mapM_places {fs : List Field} {w : World} (hf : ∀ f ∈ fs, ∃ n, (sizeOf f.type).run P w = .ok n w ∧ (P.info? f.type).map (·.size) = some n) :
    (fs.mapM (fun f => do pure (f.offset, ← sizeOf f.type) : Field → Sem (Nat × Nat))).run P w = .ok (fs.map fun f => (f.offset, ((P.info? f.type).map (·.size)).getD 0)) w := by
  induction fs with
  | nil => rfl
  | cons f fs ih =>
    obtain ⟨n, h1, h2⟩ := hf f (by simp)
    have := ih (fun g hg => hf g (by simp [hg]))
    simp only [List.mapM_cons, Sem.run_bind, h1, Result.andThen_ok, Sem.run_pure, this, List.map_cons, h2, Option.getD_some]
end
end Go.Abs
