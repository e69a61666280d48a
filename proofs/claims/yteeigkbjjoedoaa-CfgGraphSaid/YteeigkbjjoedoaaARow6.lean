/- From the reading of a statement's arguments to data: how many bytes they are. -/
import Derived.Test.YteeigkbjjoedoaaARow5
set_option linter.unusedVariables false
set_option linter.unusedSimpArgs false
namespace Go.Abs
def Ty.lay : Ty → (Nat × Nat) × (Nat → Nat → Nat × Nat)
  | .int k => ((k.bits / 8, k.bits / 8), fun _ _ => (0, 1))
  | .bool => ((1, 1), fun _ _ => (0, 1))
  | .str => ((16, 8), fun _ _ => (0, 1))
  | .opq _ => ((8, 8), fun _ _ => (0, 1))
  | .sl _ => ((24, 8), fun _ _ => (0, 1))
  | .pair a b =>
    let f := fun off al => let s := a.lay.1; b.lay.2 ((off + s.2 - 1) / s.2 * s.2 + s.1) (max al s.2)
    (f 0 1, f)
  | .unit => ((0, 1), fun off al => ((off + al - 1) / al * al, al))
  | .arr n e => ((n * e.lay.1.1, e.lay.1.2), fun _ _ => (0, 1))
def Ty.bts (t : Ty) : Nat := t.lay.1.1
def Sz : (t : Ty) → t.T → Prop
  | .str, s => List.length s ≤ 140737488351232
  | .sl e, xs => List.length xs * e.bts ≤ 140737488351232 ∧ ∀ x ∈ (show List e.T from xs), Sz e x
  | .pair a b, x => Sz a x.1 ∧ Sz b x.2
  | .arr _ e, xs => ∀ x ∈ (show List e.T from xs), Sz e x
  | _, _ => True
mutual
def szb (P : Program) : Ty → TypeId → Bool
  | .sl e, t => (match P.underlying t with | some (.slice te) => Nat.ble e.bts (P.bytesOf te) && szb P e te | _ => false)
  | .pair a b, t => (match P.underlying t with | some (.struct fs) => (match fs.toList with | f :: r => szb P a f.type && fsb P b r | [] => false) | _ => false)
  | .arr _ e, t => (match P.underlying t with | some (.array _ te) => szb P e te | _ => false)
  | _, _ => true
def fsb (P : Program) : Ty → List Field → Bool
  | .unit, fs => fs.isEmpty
  | .pair a b, f :: fs => szb P a f.type && fsb P b fs
  | _, _ => false
end
section
variable {P : Program} {H : Type} {enc : TypeId × Value → H} {w : World} {sp : Nat → Bool} {hd : Bool}
theorem weightsAll_mem {e : TypeId} {d : DataW H} {n : Nat} : ∀ {l : List (DataW H)}, d ∈ l → n ∈ d.weights P e → n ∈ DataW.weightsAll P e l
  | x :: r, h, hn => by
    simp only [DataW.weightsAll, List.mem_append]
    rcases List.mem_cons.1 h with rfl | h
    · exact .inl hn
    · exact .inr (weightsAll_mem h hn)
theorem weightsEach_mem {t : TypeId} {d : DataW H} {n : Nat} : ∀ {i : Nat} {ts : List TypeId} {l : List (DataW H)}, ts[i]? = some t → l[i]? = some d → n ∈ d.weights P t → n ∈ DataW.weightsEach P ts l
  | 0, t' :: ts, x :: r, h1, h2, hn => by
    simp only [List.getElem?_cons_zero, Option.some.injEq] at h1 h2
    subst h1; subst h2
    simp only [DataW.weightsEach, List.mem_append]
    exact .inl hn
  | i + 1, t' :: ts, x :: r, h1, h2, hn => by
    simp only [List.getElem?_cons_succ] at h1 h2
    simp only [DataW.weightsEach, List.mem_append]
    exact .inr (weightsEach_mem h1 h2 hn)
  | _, [], _, h1, _, _ => by simp at h1
  | _, _ :: _, [], _, h2, _ => by simp at h2
theorem trod_sz : ∀ (ty : Ty), (∀ {t : TypeId} {fuel : Nat} {cs : List Value} {y : DataW H × List MemPlace}, tyb P ty t = true → szb P ty t = true → dataTy ty = true → DataW.trod enc P w 0 sp hd fuel t cs = some y → (∀ n ∈ y.1.weights P t, n ≤ reachBytes) → ∃ x, Imm w (Old w) ty x cs ∧ Good ty x ∧ Sz ty x) ∧
    (∀ {fs : List Field} {off m : Nat} {cs : List Value}, fdb P ty fs off = true → fsb P ty fs = true → dataTy ty = true → (∀ f ∈ fs, ∃ y, DataW.trod enc P w 0 sp hd m f.type ((cs.drop f.offset).take (P.cellsOf f.type)) = some (y : DataW H × List MemPlace) ∧ ∀ n ∈ y.1.weights P f.type, n ≤ reachBytes) → cs.length = off + ty.csz →
        ∃ x, Imm w (Old w) ty x (cs.drop off) ∧ Good ty x ∧ Sz ty x) := by
  intro ty
  induction ty with
  | int k =>
    refine ⟨?_, fun hf => by simp [fdb] at hf⟩
    intro t fuel cs y ht _ _ h hw
    obtain ⟨n, rfl, _, hw'⟩ := DataW.trod_int (int_under ht) h
    exact ⟨n, rfl, hw', trivial⟩
  | bool =>
    refine ⟨?_, fun hf => by simp [fdb] at hf⟩
    intro t fuel cs y ht _ _ h hw
    have hu : P.underlying t = some .bool := by
      simp only [tyb, Bool.and_eq_true] at ht
      have h2 := ht.2
      split at h2
      · rename_i hu; exact hu
      · cases h2
    obtain ⟨b, rfl, _⟩ := DataW.trod_bool hu h
    exact ⟨b, rfl, trivial, trivial⟩
  | str =>
    refine ⟨?_, fun hf => by simp [fdb] at hf⟩
    intro t fuel cs y ht _ _ h hw
    obtain ⟨s, rfl, rfl, hs⟩ := DataW.trod_string (str_under ht) h
    exact ⟨s.data.toList, ⟨s, rfl, rfl⟩, by simpa [Good] using hs, hw _ (by simp [DataW.weights])⟩
  | opq z => exact ⟨(fun _ _ hd _ => by cases hd), fun hf => by simp [fdb] at hf⟩
  | sl e ih =>
    refine ⟨?_, fun hf => by simp [fdb] at hf⟩
    intro t fuel cs y ht hz hd h hw
    obtain ⟨te, hu, he, hpos⟩ := sl_under ht
    simp only [szb, hu, Bool.and_eq_true] at hz
    rcases DataW.trod_slice hu h with ⟨rfl, _⟩ | ⟨a, len, cap, elems, rest, n, rfl, rfl, rfl, _, h1, h2, h3, h4, h5⟩
    · exact ⟨([] : List e.T), ⟨none, 0, 0, rfl, rfl, Nat.le_refl _, .inl rfl⟩, by simp [Good], by simp [Sz]⟩
    · have hc := cellsOf_tyb (P := P) he
      simp only [DataW.weights, hu] at hw
      have hsz : len * e.bts ≤ 140737488351232 := by
        have h6 := hw _ List.mem_cons_self
        simp only [List.length_map] at h6
        have h7 : len * e.bts ≤ (elems.length + rest.length) * P.bytesOf te := Nat.mul_le_mul (by omega) (Nat.le_of_ble_eq_true hz.1)
        exact Nat.le_trans h7 h6
      have hel : ∀ i, i < len → ∃ x c, Imm w (Old w) e x c ∧ (Good e x ∧ Sz e x) ∧ At w (a.add (i * e.csz)) c := by
        intro i hi
        have h6 := h4 i hi
        rw [List.getElem?_eq_getElem (by omega), Option.bind_eq_some_iff] at h6
        obtain ⟨c, k1, k2⟩ := h6
        obtain ⟨x, k3, k4⟩ := ih.1 he hz.2 hd k2 (fun m hm => hw m (List.mem_cons_of_mem _ (List.mem_append_left _ (weightsAll_mem (List.mem_map.2 ⟨_, List.getElem_mem (by omega), rfl⟩) hm))))
        rw [hc] at k1
        exact ⟨x, c, k3, k4, (cells_at k1).2⟩
      by_cases h0 : len = 0
      · subst h0
        exact ⟨([] : List e.T), ⟨some a, 0, cap, rfl, rfl, h1, .inl rfl⟩, by simp [Good], by simp [Sz]⟩
      · obtain ⟨x, c, k1, _, k3⟩ := hel 0 (by omega)
        have hcl := k1.length
        have hc0 : c[0]? = some c[0] := List.getElem?_eq_getElem (by omega)
        have hcell := k3 0 _ hc0
        have hsp : a.spot = none ∧ a.block < w.heap.size := by
          rw [Nat.zero_mul] at hcell
          have hcell' : w.cell? a = some c[0] := hcell
          unfold World.cell? at hcell'
          split at hcell'
          · rename_i cc el fz hb
            refine ⟨?_, (Array.getElem?_eq_some_iff.1 hb).1⟩
            cases hsp : a.spot with
            | none => rfl
            | some z => rw [hsp] at hcell'; cases hcell'
          · cases hcell'
        obtain ⟨xs, ds, g1, g2, g3, g4⟩ := imms_of (w := w) (e := e) (p := Imm w (Old w) e) (csz := e.csz) (fun _ _ h => Imm.length h) (G := fun x => Good e x ∧ Sz e x) hsp.1 len hel
        exact ⟨xs, ⟨some a, len, cap, rfl, g1.symm, h1, .inr ⟨a, ds, rfl, hsp.1, hsp.2, g2, g3⟩⟩, ⟨by rw [g1]; omega, fun x hx => (g4 x hx).1⟩, by rw [g1]; exact hsz, fun x hx => (g4 x hx).2⟩
  | pair a b iha ihb =>
    have key : ∀ {fs : List Field} {off m : Nat} {cs : List Value}, fdb P (.pair a b) fs off = true → fsb P (.pair a b) fs = true → dataTy (.pair a b) = true → (∀ f ∈ fs, ∃ y, DataW.trod enc P w 0 sp hd m f.type ((cs.drop f.offset).take (P.cellsOf f.type)) = some (y : DataW H × List MemPlace) ∧ ∀ n ∈ y.1.weights P f.type, n ≤ reachBytes) → cs.length = off + (Ty.pair a b).csz →
        ∃ x, Imm w (Old w) (.pair a b) x (cs.drop off) ∧ Good (.pair a b) x ∧ Sz (.pair a b) x := by
      intro fs off m cs hf hz hd hall hl
      cases fs with
      | nil => simp [fdb] at hf
      | cons f fs =>
        simp only [fdb, Bool.and_eq_true, beq_iff_eq] at hf
        simp only [dataTy, Bool.and_eq_true] at hd
        simp only [fsb, Bool.and_eq_true] at hz
        obtain ⟨y, hy, hyw⟩ := hall f (by simp)
        have hta := hf.1.1.1.2
        have hoff : f.offset = off := hf.1.1.1.1
        rw [cellsOf_tyb hta, hoff] at hy
        obtain ⟨x, k1, k2, k3⟩ := iha.1 hta hz.1 hd.1 hy hyw
        simp only [Ty.csz] at hl
        obtain ⟨z, g1, g2, g3⟩ := ihb.2 hf.2 hz.2 hd.2 (fun g hg => hall g (by simp [hg])) (by omega)
        refine ⟨(x, z), ⟨_, _, ?_, k1, g1⟩, ⟨k2, g2⟩, k3, g3⟩
        rw [← List.drop_drop, List.take_append_drop]
    refine ⟨?_, key⟩
    intro t fuel cs y ht hz hd h hw
    obtain ⟨fs, hu, hf, _⟩ := pair_under ht
    have hz : fsb P (.pair a b) fs.toList = true := by
      simp only [szb, hu] at hz
      revert hz
      cases fs.toList with
      | nil => exact fun h => by cases h
      | cons f r => exact fun h => h
    obtain ⟨xs, n, rfl, rfl, h1, h2, h3⟩ := DataW.trod_struct hu h
    rw [cellsOf_tyb ht] at h1
    simp only [DataW.weights, hu] at hw
    obtain ⟨x, g1, g2, g3⟩ := key (m := n) (cs := cs) hf hz hd (fun f hf => by
      obtain ⟨i, hi⟩ := List.getElem?_of_mem hf
      have hi' : fs[i]? = some f := by simpa using hi
      have hlt := (Array.getElem?_eq_some_iff.1 hi').1
      exact ⟨xs[i]'(by omega), by rw [h3 i f hi']; exact List.getElem?_eq_getElem (by omega), fun m hm => hw m (weightsEach_mem (i := i) (t := f.type) (d := (xs[i]'(by omega)).1) (by rw [List.getElem?_map, hi]; rfl) (by rw [List.getElem?_map, List.getElem?_eq_getElem (by omega)]; rfl) hm)⟩) (by rw [h1]; omega)
    exact ⟨x, by simpa using g1, g2, g3⟩
  | unit =>
    refine ⟨?_, ?_⟩
    · intro t fuel cs y ht _ _ h hw
      simp only [tyb, Bool.and_eq_true] at ht
      have h2 := ht.2
      split at h2
      · rename_i fs hu
        obtain ⟨xs, n, rfl, _, h1, _⟩ := DataW.trod_struct hu h
        rw [cellsOf_tyb (ty := .unit) (by simp only [tyb, Bool.and_eq_true]; exact ht)] at h1
        exact ⟨(), List.eq_nil_of_length_eq_zero h1, trivial, trivial⟩
      · cases h2
    · intro fs off m cs hf _ hd hall hl
      exact ⟨(), by simp only [Imm, Ty.csz] at hl ⊢; exact List.drop_eq_nil_of_le (by omega), trivial, trivial⟩
  | arr n e ih =>
    refine ⟨?_, fun hf => by simp [fdb] at hf⟩
    intro t fuel cs y ht hz hd h hw
    obtain ⟨te, hu, he, hpos⟩ := arr_under ht
    simp only [szb, hu] at hz
    obtain ⟨xs, m, rfl, rfl, h1, h2, h3⟩ := DataW.trod_array hu h
    simp only [DataW.weights, hu] at hw
    have hc := cellsOf_tyb (P := P) he
    rw [cellsOf_tyb ht] at h1
    have key : ∀ k, k ≤ n → ∃ l : List e.T, l.length = k ∧ ImmL (Imm w (Old w) e) l (cs.take (k * e.csz)) ∧ ∀ x ∈ l, Good e x ∧ Sz e x := by
      intro k
      induction k with
      | zero => intro _; exact ⟨[], rfl, by simp [ImmL], fun x h => by cases h⟩
      | succ k ihk =>
        intro hk
        obtain ⟨l, g1, g2, g3⟩ := ihk (by omega)
        have h6 := h3 k (by omega)
        rw [List.getElem?_eq_getElem (by omega)] at h6
        obtain ⟨x, k3, k4⟩ := ih.1 he hz hd h6 (fun m hm => hw m (weightsAll_mem (List.mem_map.2 ⟨_, List.getElem_mem (by omega), rfl⟩) hm))
        rw [hc] at k3
        refine ⟨l ++ [x], by simp [g1], ?_, fun y hy => ?_⟩
        · rw [Nat.add_mul, Nat.one_mul, List.take_add]
          exact ImmL.append g2 ⟨_, [], by simp, k3, rfl⟩
        · rcases List.mem_append.1 hy with hy | hy
          · exact g3 y hy
          · have : y = x := by simpa using hy
            rw [this]; exact k4
    obtain ⟨l, g1, g2, g3⟩ := key n (Nat.le_refl _)
    rw [List.take_of_length_le (by rw [h1]; exact Nat.le_refl _)] at g2
    exact ⟨l, ⟨g1, g2⟩, ⟨g1, fun x hx => (g3 x hx).1⟩, fun x hx => (g3 x hx).2⟩
theorem arg_sized {W : World} {base : Nat} {ty : Ty} {t : TypeId} {v : Value} {d : DataW H} {ps : List MemPlace} (ht : tyb P ty t = true) (hz : szb P ty t = true) (hd : dataTy ty = true) (hok : Value.okWide P W .any base t v)
    (h : DataW.Trod enc P W 0 (fun _ => true) true t v d ps) (hw : ∀ n ∈ d.weights P t, n ≤ reachBytes) : ∃ x : ty.T, (Good ty x ∧ Sz ty x) ∧ ∀ {l cs}, Datas W l cs → Datas W (⟨ty, x⟩ :: l) (v :: cs) := by
  obtain ⟨fuel, h⟩ := h
  obtain ⟨x, h1, h2⟩ := (trod_sz ty).1 ht hz hd h hw
  refine ⟨x, h2, fun hl => ?_⟩
  rw [toV_of_ok ht hd hok h1.length]
  exact .cons h1 hl
theorem weights_head {t : TypeId} {ts : List TypeId} {d : DataW H} {ds : List (DataW H)} (h : ∀ n ∈ DataW.weightsEach P (t :: ts) (d :: ds), n ≤ reachBytes) : (∀ n ∈ d.weights P t, n ≤ reachBytes) ∧ ∀ n ∈ DataW.weightsEach P ts ds, n ≤ reachBytes := by
  simp only [DataW.weightsEach, List.mem_append] at h
  exact ⟨fun n hn => h n (.inl hn), fun n hn => h n (.inr hn)⟩
end
end Go.Abs
