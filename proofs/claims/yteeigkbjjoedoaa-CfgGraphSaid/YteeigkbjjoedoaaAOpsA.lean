/- The evaluator's single operations against the model's: '==' and the other binary operations. -/
import Derived.Test.YteeigkbjjoedoaaAOps9
import Derived.Laws.StructEq
import Derived.ChangeKeysEq
set_option linter.unusedVariables false
set_option linter.unusedSimpArgs false
namespace Go.Abs
section
variable {P : Program}
theorem part_run {a : Ty} {t : TypeId} (ht : tyb P a t = true) {cs c : List Value} {off : Nat} (hl : c.length = a.csz) (h : Sub c off cs) {w : World} : (part t cs.toArray off).run P w = .ok (toV a c) w := by
  unfold part
  rw [Sem.run_bind, run_isAgg' ht w, Result.andThen_ok]
  cases hA : a.isA with
  | true =>
    simp only [if_true, Sem.run_bind, run_sizeOf' ht w, Result.andThen_ok, Sem.run_pure, toV, hA]
    congr 2
    apply Array.ext'
    simp only [Array.toList_extract, List.extract_eq_take_drop]
    apply List.ext_getElem?
    intro j
    rw [List.getElem?_take, List.getElem?_drop]
    by_cases hj : j < c.length
    · rw [if_pos (by omega), h j c[j] (by simp [hj])]
      simp [hj]
    · rw [if_neg (by omega)]
      rw [List.getElem?_eq_none (by omega)]
  | false =>
    obtain ⟨v, rfl⟩ := single_of_len (hl.trans (csz_one hA))
    have := h 0 v rfl
    simp only [Nat.add_zero] at this
    simp [this, toV, hA]
def eq1 : Ty → Bool
  | .int _ | .bool | .str => true
  | _ => false
theorem eq1_run {w : World} {F : Nat → Prop} {ty : Ty} (h1 : eq1 ty = true) {t : TypeId} {x y : ty.T} {cs ds : List Value} {d : Nat} (ht : tyb P ty t = true) (hx : Imm w F ty x cs) (hy : Imm w F ty y ds) :
    (Op.equalIn (d + 1) t (toV ty cs) (toV ty ds)).run P w = .ok (eqT ty x y) w := by
  cases ty with
  | int k =>
    simp only [tyb, Bool.and_eq_true] at ht
    have h2 := ht.2
    split at h2
    · rename_i hu
      have hx' : cs = [.int k x] := hx
      have hy' : ds = [.int k y] := hy
      subst hx'; subst hy'
      exact run_equalIn_int w d t k _ x y hu
    · cases h2
  | bool =>
    simp only [tyb, Bool.and_eq_true] at ht
    have h2 := ht.2
    split at h2
    · rename_i hu
      have hx' : cs = [.bool x] := hx
      have hy' : ds = [.bool y] := hy
      subst hx'; subst hy'
      exact run_equalIn_bool w d t x y hu
    · cases h2
  | str =>
    obtain ⟨ba, rfl, h1⟩ := hx
    obtain ⟨bb, rfl, h2⟩ := hy
    have := run_equalIn_string w d t ba bb (str_under ht)
    rw [ByteArray.toList_eq, ByteArray.toList_eq, h1, h2] at this
    exact this
  | _ => simp [eq1] at h1
theorem items_run {w : World} {F : Nat → Prop} {e : Ty} (h1 : eq1 e = true) {te : TypeId} (he : tyb P e te = true) {cs ds : List Value} {d : Nat} :
    ∀ (m j : Nat) (xs ys : List e.T) (c r : List Value), xs.length = m → ys.length = m → ImmL (Imm w F e) xs c → ImmL (Imm w F e) ys r → Sub c (j * e.csz) cs → Sub r (j * e.csz) ds →
      (Op.eqItems (d + 1) te e.csz cs.toArray ds.toArray (List.range' j m)).run P w = .ok (eqTs (eqT e) xs ys) w := by
  intro m
  induction m with
  | zero =>
    intro j xs ys c r hx hy _ _ _ _
    have : xs = [] := List.length_eq_zero_iff.1 hx
    subst this
    have : ys = [] := List.length_eq_zero_iff.1 hy
    subst this
    rfl
  | succ m ih =>
    intro j xs ys c r hx hy ix iy sc sr
    cases xs with
    | nil => simp at hx
    | cons x xs =>
      cases ys with
      | nil => simp at hy
      | cons y ys =>
        obtain ⟨c1, c2, rfl, i1, i2⟩ := ix
        obtain ⟨r1, r2, rfl, j1, j2⟩ := iy
        have p1 := part_run (P := P) he (cs := cs) (off := j * e.csz) i1.length (((Sub.left c1 c2).trans sc).cast (by omega)) (w := w)
        have p2 := part_run (P := P) he (cs := ds) (off := j * e.csz) j1.length (((Sub.left r1 r2).trans sr).cast (by omega)) (w := w)
        have q1 := eq1_run (P := P) h1 (d := d) he i1 j1
        have q2 := ih (j + 1) xs ys c2 r2 (by simpa using hx) (by simpa using hy) i2 j2 (((Sub.right c1 c2).trans sc).cast (by rw [i1.length, Nat.add_mul]; omega)) (((Sub.right r1 r2).trans sr).cast (by rw [j1.length, Nat.add_mul]; omega))
        rw [List.range'_succ]
        simp only [Op.eqItems, Sem.run_bind, p1, p2, q1, Result.andThen_ok, Sem.run_ite]
        cases hq : eqT e x y with
        | false => simp [eqTs, hq]
        | true => simp only [Bool.not_true, Bool.false_eq_true, if_false, q2, eqTs, hq, Bool.true_and]
theorem arrEq_run {w : World} {F : Nat → Prop} {n : Nat} {e : Ty} (h1 : eq1 e = true) {t : TypeId} {x y : (Ty.arr n e).T} {cs ds : List Value} {d : Nat} (ht : tyb P (.arr n e) t = true) (hd : 1 ≤ d) (hx : Imm w F (.arr n e) x cs) (hy : Imm w F (.arr n e) y ds) :
    (Op.equalIn (d + 1) t (toV (.arr n e) cs) (toV (.arr n e) ds)).run P w = .ok (eqT (.arr n e) x y) w := by
  obtain ⟨te, hu, he, _⟩ := arr_under ht
  obtain ⟨i, hi, hs, _⟩ := tyb_info he
  obtain ⟨d, rfl⟩ : ∃ d', d = d' + 1 := ⟨d - 1, by omega⟩
  have e1 : toV (.arr n e) cs = .agg cs.toArray := rfl
  have e2 : toV (.arr n e) ds = .agg ds.toArray := rfl
  have hc : P.cellsOf te = e.csz := by simp [Program.cellsOf, hi, hs]
  rw [e1, e2, run_equalIn_array w (d + 1) cs.toArray ds.toArray hu hi, hc, List.range_eq_range']
  exact items_run h1 he n 0 x y cs ds hx.1 hy.1 hx.2 hy.2 ((Sub.refl cs).cast (by omega)) ((Sub.refl ds).cast (by omega))
theorem eqD_run {w : World} {F : Nat → Prop} : ∀ {ty : Ty} (_ : eqOk ty = true),
    (∀ {t : TypeId} {x y : ty.T} {cs ds : List Value} {d : Nat}, tyb P ty t = true → ty ≠ .unit → ty.height ≤ d → Imm w F ty x cs → Imm w F ty y ds → (Op.equalIn (d + 1) t (toV ty cs) (toV ty ds)).run P w = .ok (eqD ty x y) w) ∧
    (∀ {fs : List Field} {off : Nat} {x y : ty.T} {cs ds c r : List Value} {d : Nat}, fdb P ty fs off = true → ty.height ≤ d → Imm w F ty x c → Imm w F ty y r → Sub c off cs → Sub r off ds → (Op.eqFields d cs.toArray ds.toArray fs).run P w = .ok (eqD ty x y) w) := by
  intro ty
  induction ty with
  | int k =>
    intro _
    refine ⟨?_, ?_⟩
    · intro t x y cs ds d ht _ _ hx hy
      simp only [tyb, Bool.and_eq_true] at ht
      have h2 := ht.2
      split at h2
      · rename_i hu
        have hx' : cs = [.int k x] := hx
        have hy' : ds = [.int k y] := hy
        subst hx'; subst hy'
        exact run_equalIn_int w d t k _ x y hu
      · cases h2
    · intro fs off x y cs ds c r d h; simp [fdb] at h
  | bool =>
    intro _
    refine ⟨?_, ?_⟩
    · intro t x y cs ds d ht _ _ hx hy
      simp only [tyb, Bool.and_eq_true] at ht
      have h2 := ht.2
      split at h2
      · rename_i hu
        have hx' : cs = [.bool x] := hx
        have hy' : ds = [.bool y] := hy
        subst hx'; subst hy'
        exact run_equalIn_bool w d t x y hu
      · cases h2
    · intro fs off x y cs ds c r d h; simp [fdb] at h
  | str =>
    intro _
    refine ⟨?_, ?_⟩
    · intro t x y cs ds d ht _ _ hx hy
      obtain ⟨ba, rfl, h1⟩ := hx
      obtain ⟨bb, rfl, h2⟩ := hy
      have := run_equalIn_string w d t ba bb (str_under ht)
      rw [ByteArray.toList_eq, ByteArray.toList_eq, h1, h2] at this
      exact this
    · intro fs off x y cs ds c r d h; simp [fdb] at h
  | unit =>
    intro _
    refine ⟨?_, ?_⟩
    · intro t x y cs ds d ht hn hd hx hy
      exact (hn rfl).elim
    · intro fs off x y cs ds c r d h _ hx hy _ _
      simp only [fdb] at h
      have : fs = [] := by simpa using h
      subst this
      rfl
  | pair a b iha ihb =>
    intro hok
    simp only [eqOk, Bool.and_eq_true] at hok
    have fields : ∀ {fs : List Field} {off : Nat} {x y : (Ty.pair a b).T} {cs ds c r : List Value} {d : Nat}, fdb P (.pair a b) fs off = true → (Ty.pair a b).height ≤ d → Imm w F (.pair a b) x c → Imm w F (.pair a b) y r → Sub c off cs → Sub r off ds → (Op.eqFields d cs.toArray ds.toArray fs).run P w = .ok (eqD (.pair a b) x y) w := by
      intro fs off x y cs ds c r d h hd hx hy hc hr
      cases fs with
      | nil => simp [fdb] at h
      | cons f fs =>
        simp only [fdb, Bool.and_eq_true, Bool.not_eq_true', beq_eq_false_iff_ne, beq_iff_eq] at h
        obtain ⟨⟨⟨⟨h1, h2⟩, h3⟩, h4⟩, h5⟩ := h
        obtain ⟨c1, c2, rfl, i1, i2⟩ := hx
        obtain ⟨r1, r2, rfl, j1, j2⟩ := hy
        simp only [Ty.height] at hd
        have p1 := part_run (P := P) h2 (cs := cs) (off := f.offset) i1.length (by rw [h1]; exact ((Sub.left c1 c2).trans hc).cast (by omega)) (w := w)
        have p2 := part_run (P := P) h2 (cs := ds) (off := f.offset) j1.length (by rw [h1]; exact ((Sub.left r1 r2).trans hr).cast (by omega)) (w := w)
        obtain ⟨d, rfl⟩ : ∃ d', d = d' + 1 := ⟨d - 1, by have := (show 1 ≤ a.height from by cases a <;> simp [Ty.height]; omega); omega⟩
        have q1 := (iha hok.1).1 h2 (fun e => by subst e; exact h3 rfl) (d := d) (by omega) i1 j1
        have q2 := (ihb hok.2).2 h5 (d := d + 1) (cs := cs) (ds := ds) (by omega) i2 j2 (((Sub.right c1 c2).trans hc).cast (by rw [i1.length])) (((Sub.right r1 r2).trans hr).cast (by rw [j1.length]))
        simp only [Op.eqFields, h4, ne_eq, not_false_eq_true, if_true, Sem.run_bind, p1, p2, q1, Result.andThen_ok, Sem.run_ite]
        cases hq : eqD a x.1 y.1 with
        | false => simp [eqD, hq]
        | true => simp only [Bool.not_true, Bool.false_eq_true, if_false, q2, eqD, hq, Bool.true_and]
    refine ⟨?_, fields⟩
    intro t x y cs ds d ht _ hd hx hy
    obtain ⟨fs, hu, hf, hg⟩ := pair_under ht
    obtain ⟨hs, _⟩ := hg (by simp [eqOk, hok])
    have hfo : P.fieldsOf t = fs := by simp [Program.fieldsOf, hu]
    have := run_equalIn_struct (P := P) w d t cs.toArray ds.toArray (by rw [hfo]; exact hu) hs
    have e1 : toV (.pair a b) cs = .agg cs.toArray := rfl
    have e2 : toV (.pair a b) ds = .agg ds.toArray := rfl
    rw [e1, e2, this, hfo]
    exact fields hf hd hx hy (Sub.refl cs) (Sub.refl ds)
  | arr n e ih =>
    intro h
    have h1 : eq1 e = true := by cases e <;> first | rfl | simp [eqOk] at h
    refine ⟨?_, ?_⟩
    · intro t x y cs ds d ht _ hd hx hy
      exact arrEq_run h1 ht (by simp [Ty.height] at hd; omega) hx hy
    · intro fs off x y cs ds c r d h; simp [fdb] at h
  | _ => intro h; simp [eqOk] at h
theorem height_le : ∀ (t : Ty), 1 ≤ t.height
  | .pair a b => by simp [Ty.height]; omega
  | .unit | .int _ | .bool | .str | .opq _ | .sl _ | .arr _ _ => by simp [Ty.height]
theorem opq_under {z : Nk} {t : TypeId} (h : tyb P (.opq z) t = true) : ∃ d, P.underlying t = some d ∧ (match z, d with | .ptr, .pointer _ => True | .func, .func _ _ _ => True | .map, .map _ _ => True | .iface, .interface _ => True | _, _ => False) := by
  simp only [tyb, Bool.and_eq_true] at h
  have h2 := h.2
  unfold nkb at h2
  split at h2 <;> first | (cases h2; done) | exact ⟨_, by assumption, trivial⟩
def EqRun (P : Program) (w : World) (t : TypeId) (k : Nat) (c d : Value) (b : Bool) : Prop := (Op.equalIn (k + 1) t c d).run P w = .ok b w
theorem nil_eq {w : World} {F : Nat → Prop} {ρ : Map} {z : Nk} (hz : z ≠ .iface) {t : TypeId} (ht : tyb P (.opq z) t = true) {v : AV} {cs : List Value} (hv : VR w F ρ (.opq z) v cs) {b : Bool} (hb : nilB v = some b) (k : Nat) :
    EqRun P w t k z.val (toV (.opq z) cs) b ∧ EqRun P w t k (toV (.opq z) cs) z.val b ∧ (∀ l, toV (.opq z) cs ≠ .agg l) ∧ toV (.opq z) cs ≠ .nilIface := by
  obtain ⟨dd, hu, hk⟩ := opq_under ht
  cases hv with
  | d hI =>
    rename_i x
    have hI' : cs = [z.val] := hI
    subst hI'
    cases hb
    cases z <;> first
      | exact (hz rfl).elim
      | (cases dd <;> first
          | exact hk.elim
          | (refine ⟨?_, ?_, (fun l h => by cases h), (fun h => by cases h)⟩ <;> simp [EqRun, Op.equalIn, run_underlying hu, Nk.val, toV, Ty.isA]))
  | dp h1 h2 h3 h4 =>
    cases hb
    cases dd <;> first
      | exact hk.elim
      | (refine ⟨?_, ?_, (fun l h => by cases h), (fun h => by cases h)⟩ <;> simp [EqRun, Op.equalIn, run_underlying hu, Nk.val, toV, Ty.isA])
  | ptr h1 h2 =>
    cases hb
    cases dd <;> first
      | exact hk.elim
      | (refine ⟨?_, ?_, (fun l h => by cases h), (fun h => by cases h)⟩ <;> simp [EqRun, Op.equalIn, run_underlying hu, Nk.val, toV, Ty.isA])
  | fn h1 h2 h3 h4 =>
    cases hb
    cases dd <;> first
      | exact hk.elim
      | (refine ⟨?_, ?_, (fun l h => by cases h), (fun h => by cases h)⟩ <;> simp [EqRun, Op.equalIn, run_underlying hu, Nk.val, toV, Ty.isA])
  | mp h1 h2 => cases hb
theorem val_ne (z : Nk) (hz : z ≠ .iface) : (∀ l, z.val ≠ .agg l) ∧ z.val ≠ .nilIface := by
  cases z <;> first | exact (hz rfl).elim | exact ⟨(fun l h => by cases h), (fun h => by cases h)⟩
theorem eq_val {w : World} {F : Nat → Prop} {t : Ty} (h : eqOk t = true) (hu : t ≠ .unit) {x : t.T} {cs : List Value} (hI : Imm w F t x cs) : toV t cs ≠ .nilIface ∧ ∀ l, toV t cs = .agg l → (∃ a b, t = .pair a b) ∨ ∃ n e, t = .arr n e := by
  cases t with
  | int k => have h' : cs = [.int k x] := hI; subst h'; exact ⟨(fun h => by cases h), (fun l h => by cases h)⟩
  | bool => have h' : cs = [.bool x] := hI; subst h'; exact ⟨(fun h => by cases h), (fun l h => by cases h)⟩
  | str => obtain ⟨ba, h', _⟩ := hI; subst h'; exact ⟨(fun h => by cases h), (fun l h => by cases h)⟩
  | pair a b => exact ⟨(fun h => by cases h), fun _ _ => .inl ⟨a, b, rfl⟩⟩
  | arr n e => exact ⟨(fun h => by cases h), fun _ _ => .inr ⟨n, e, rfl⟩⟩
  | unit => exact (hu rfl).elim
  | _ => simp [eqOk] at h
theorem eqK_sound {s : St} (hS : Sim s) {tp : Ty} {t : TypeId} (ht : tyb P tp t = true) {k : Nat} (hh : tp.height ≤ k) {x y : AV} {c d : Value} (hx : s.vv x c) (hy : s.vv y d) (hcx : conf s.σ depth tp x = true) (hcy : conf s.σ depth tp y = true) {say : Bool → Prop}
    (h : eqK (fun _ => False) x y say) : ∃ b, say b ∧ EqRun P s.w t k c d b ∧ ((∃ l, c = .agg l) → P.eqGuardType P.depth t = false) ∧ c ≠ .nilIface ∧ d ≠ .nilIface := by
  obtain ⟨cx, vx, rfl⟩ := vv_conf hS hx hcx
  obtain ⟨cy, vy, rfl⟩ := vv_conf hS hy hcy
  unfold eqK at h
  split at h
  · rename_i a b
    have := conf_d hcx
    subst this
    have e1 := VV_bool hx
    have e2 := VV_bool hy
    rw [e1, e2]
    simp only [tyb, Bool.and_eq_true] at ht
    have h2 := ht.2
    split at h2
    · rename_i hu
      exact ⟨_, h, run_equalIn_bool s.w _ t a b hu, (fun ⟨cs, he⟩ => by cases he), (fun he => by cases he), (fun he => by cases he)⟩
    · cases h2
  · exact h.elim
  · exact h.elim
  · rename_i z u hz' _
    have := conf_d hcx
    subst this
    have e1 := VV_opq hx
    rw [e1]
    split at h
    · rename_i b hb
      obtain ⟨k1, k2, k3, k4⟩ := nil_eq (P := P) hz' ht vy hb k
      exact ⟨b, h, k1, (fun ⟨l, he⟩ => ((val_ne z hz').1 l he).elim), (val_ne z hz').2, k4⟩
    · exact h.elim
  · rename_i z u hz' _ _
    have := conf_d hcy
    subst this
    have e1 := VV_opq hy
    rw [e1]
    split at h
    · rename_i b hb
      obtain ⟨k1, k2, k3, k4⟩ := nil_eq (P := P) hz' ht vx hb k
      exact ⟨b, h, k2, (fun ⟨l, he⟩ => (k3 l he).elim), k4, (val_ne z hz').2⟩
    · exact h.elim
  · rename_i t1 a u b _ _ _ _ _
    have e1 := conf_d hcx
    have e2 := conf_d hcy
    subst e1
    subst e2
    rw [dif_pos rfl] at h
    cases hok : eqOk tp && !(tp == .unit) with
    | false => rw [hok] at h; exact h.elim
    | true =>
      rw [hok] at h
      simp only [Bool.and_eq_true, Bool.not_eq_true', beq_eq_false_iff_ne, ne_eq] at hok
      obtain ⟨hok, hun⟩ := hok
      obtain ⟨cx', i1, e1⟩ := VV_d hx
      obtain ⟨cy', i2, e2⟩ := VV_d hy
      rw [e1, e2]
      have g1 := eq_val hok hun i1
      have g2 := eq_val hok hun i2
      exact ⟨_, h, (eqD_run hok).1 ht hun hh i1 i2, (fun ⟨l, hl⟩ => by
        rcases g1.2 l hl with ⟨a, b, rfl⟩ | ⟨n, e, rfl⟩
        · obtain ⟨fs, hu, hf, hg⟩ := pair_under ht
          exact (hg hok).2
        · obtain ⟨te, _, _, _, hg⟩ := arr_under' ht
          exact hg hok), g1.1, g2.1⟩
  · exact h.elim
end
end Go.Abs
