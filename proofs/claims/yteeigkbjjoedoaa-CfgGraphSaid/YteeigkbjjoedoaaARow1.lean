/- From the reading of a statement's arguments to data. -/
import Derived.Test.YteeigkbjjoedoaaAOpsQ
import Derived.ProofKit
import Derived.OpenShut
set_option linter.unusedVariables false
set_option linter.unusedSimpArgs false
namespace Go.Abs
def dataTy : Ty → Bool
  | .opq _ => false
  | .sl e => dataTy e
  | .pair a b => dataTy a && dataTy b
  | .arr _ e => dataTy e
  | _ => true
def Good : (t : Ty) → t.T → Prop
  | .int k, n => (Lit.int k n).wf = true
  | .str, s => List.length s ≤ maxLen
  | .sl e, xs => List.length xs ≤ maxLen ∧ ∀ x ∈ (show List e.T from xs), Good e x
  | .pair a b, x => Good a x.1 ∧ Good b x.2
  | .arr n e, xs => List.length xs = n ∧ ∀ x ∈ (show List e.T from xs), Good e x
  | _, _ => True
section
variable {P : Program} {H : Type} {enc : TypeId × Value → H} {w : World} {sp : Nat → Bool} {hd : Bool}
theorem cellsOf_tyb {ty : Ty} {t : TypeId} (h : tyb P ty t = true) : P.cellsOf t = ty.csz := by
  obtain ⟨i, h1, h2, _⟩ := tyb_info h
  simp [Program.cellsOf, h1, h2]
abbrev Old (w : World) : Nat → Prop := fun b => b < w.heap.size
theorem cells_at {a : Addr} {n : Nat} {cs : List Value} (h : w.cells? 0 a n = some cs) : cs.length = n ∧ At w a cs := by
  obtain ⟨_, h1, h2⟩ := World.cells?_some h
  refine ⟨h1, fun j v hj => ?_⟩
  rw [h2 j (by rw [← h1]; exact (List.getElem?_eq_some_iff.1 hj).1)]
  exact hj
theorem imms_of {e : Ty} {csz : Nat} {p : e.T → List Value → Prop} (hlen : ∀ x c, p x c → c.length = csz) {G : e.T → Prop} {a : Addr} (hs : a.spot = none) : ∀ (k : Nat), (∀ i, i < k → ∃ x c, p x c ∧ G x ∧ At w (a.add (i * csz)) c) →
    ∃ (xs : List e.T) (ds : List Value), xs.length = k ∧ ImmL p xs ds ∧ At w a ds ∧ ∀ x ∈ xs, G x
  | 0, _ => ⟨[], [], rfl, rfl, fun j v h => by simp at h, fun x h => by cases h⟩
  | k + 1, h => by
    obtain ⟨xs, ds, h1, h2, h3, h4⟩ := imms_of hlen hs k fun i hi => h i (by omega)
    obtain ⟨x, c, g1, g2, g3⟩ := h k (by omega)
    have hl : ds.length = k * csz := by rw [ImmL.length hlen h2, h1]
    refine ⟨xs ++ [x], ds ++ c, by simp [h1], ImmL.append h2 ⟨c, [], by simp, g1, rfl⟩, fun j v hj => ?_, fun y hy => ?_⟩
    · by_cases hjl : j < ds.length
      · rw [List.getElem?_append_left hjl] at hj
        exact h3 j v hj
      · rw [List.getElem?_append_right (by omega)] at hj
        have := g3 _ v hj
        obtain ⟨b, o, sp⟩ := a
        have hsp : sp = none := hs
        subst hsp
        rw [add_eq, add_eq] at this
        rw [add_eq]
        rw [show o + k * csz + (j - ds.length) = o + j by omega] at this
        exact this
    · rcases List.mem_append.1 hy with hy | hy
      · exact h4 y hy
      · have : y = x := by simpa using hy
        rw [this]; exact g2
theorem trod_both : ∀ (ty : Ty), (∀ {t : TypeId} {fuel : Nat} {cs : List Value} {y : DataW H × List MemPlace}, tyb P ty t = true → dataTy ty = true → DataW.trod enc P w 0 sp hd fuel t cs = some y → ∃ x, Imm w (Old w) ty x cs ∧ Good ty x) ∧
    (∀ {fs : List Field} {off m : Nat} {cs : List Value}, fdb P ty fs off = true → dataTy ty = true → (∀ f ∈ fs, ∃ y, DataW.trod enc P w 0 sp hd m f.type ((cs.drop f.offset).take (P.cellsOf f.type)) = some (y : DataW H × List MemPlace)) → cs.length = off + ty.csz →
        ∃ x, Imm w (Old w) ty x (cs.drop off) ∧ Good ty x) := by
  intro ty
  induction ty with
  | int k =>
    refine ⟨?_, fun hf => by simp [fdb] at hf⟩
    intro t fuel cs y ht _ h
    obtain ⟨n, rfl, _, hw⟩ := DataW.trod_int (int_under ht) h
    exact ⟨n, rfl, hw⟩
  | bool =>
    refine ⟨?_, fun hf => by simp [fdb] at hf⟩
    intro t fuel cs y ht _ h
    have hu : P.underlying t = some .bool := by
      simp only [tyb, Bool.and_eq_true] at ht
      have h2 := ht.2
      split at h2
      · rename_i hu; exact hu
      · cases h2
    obtain ⟨b, rfl, _⟩ := DataW.trod_bool hu h
    exact ⟨b, rfl, trivial⟩
  | str =>
    refine ⟨?_, fun hf => by simp [fdb] at hf⟩
    intro t fuel cs y ht _ h
    obtain ⟨s, rfl, _, hs⟩ := DataW.trod_string (str_under ht) h
    exact ⟨s.data.toList, ⟨s, rfl, rfl⟩, by simpa [Good] using hs⟩
  | opq z => exact ⟨(fun _ hd _ => by cases hd), fun hf => by simp [fdb] at hf⟩
  | sl e ih =>
    refine ⟨?_, fun hf => by simp [fdb] at hf⟩
    intro t fuel cs y ht hd h
    obtain ⟨te, hu, he, hpos⟩ := sl_under ht
    rcases DataW.trod_slice hu h with ⟨rfl, _⟩ | ⟨a, len, cap, elems, rest, n, rfl, rfl, _, _, h1, h2, h3, h4, h5⟩
    · exact ⟨([] : List e.T), ⟨none, 0, 0, rfl, rfl, Nat.le_refl _, .inl rfl⟩, by simp [Good]⟩
    · have hc := cellsOf_tyb (P := P) he
      have hel : ∀ i, i < len → ∃ x c, Imm w (Old w) e x c ∧ Good e x ∧ At w (a.add (i * e.csz)) c := by
        intro i hi
        have h6 := h4 i hi
        rw [List.getElem?_eq_getElem (by omega), Option.bind_eq_some_iff] at h6
        obtain ⟨c, k1, k2⟩ := h6
        obtain ⟨x, k3, k4⟩ := ih.1 he hd k2
        rw [hc] at k1
        exact ⟨x, c, k3, k4, (cells_at k1).2⟩
      by_cases h0 : len = 0
      · subst h0
        exact ⟨([] : List e.T), ⟨some a, 0, cap, rfl, rfl, h1, .inl rfl⟩, by simp [Good]⟩
      · obtain ⟨x, c, k1, _, k3⟩ := hel 0 (by omega)
        have hcl := k1.length
        have hc0 : c[0]? = some c[0] := List.getElem?_eq_getElem (by omega)
        have hcell := k3 0 _ hc0
        have hsp : a.spot = none ∧ a.block < w.heap.size := by
          rw [Nat.zero_mul] at hcell
          have hcell' : w.cell? a = some c[0] := hcell
          unfold World.cell? at hcell'
          split at hcell'
          · rename_i cc el fz hb
            refine ⟨?_, (Array.getElem?_eq_some_iff.1 hb).1⟩
            cases hsp : a.spot with
            | none => rfl
            | some z => rw [hsp] at hcell'; cases hcell'
          · cases hcell'
        obtain ⟨xs, ds, g1, g2, g3, g4⟩ := imms_of (w := w) (e := e) (p := Imm w (Old w) e) (csz := e.csz) (fun _ _ h => Imm.length h) (G := Good e) hsp.1 len hel
        exact ⟨xs, ⟨some a, len, cap, rfl, g1.symm, h1, .inr ⟨a, ds, rfl, hsp.1, hsp.2, g2, g3⟩⟩, by rw [g1]; omega, g4⟩
  | pair a b iha ihb =>
    have key : ∀ {fs : List Field} {off m : Nat} {cs : List Value}, fdb P (.pair a b) fs off = true → dataTy (.pair a b) = true → (∀ f ∈ fs, ∃ y, DataW.trod enc P w 0 sp hd m f.type ((cs.drop f.offset).take (P.cellsOf f.type)) = some (y : DataW H × List MemPlace)) → cs.length = off + (Ty.pair a b).csz →
        ∃ x, Imm w (Old w) (.pair a b) x (cs.drop off) ∧ Good (.pair a b) x := by
      intro fs off m cs hf hd hall hl
      cases fs with
      | nil => simp [fdb] at hf
      | cons f fs =>
        simp only [fdb, Bool.and_eq_true, beq_iff_eq] at hf
        simp only [dataTy, Bool.and_eq_true] at hd
        obtain ⟨y, hy⟩ := hall f (by simp)
        have hta := hf.1.1.1.2
        have hoff : f.offset = off := hf.1.1.1.1
        rw [cellsOf_tyb hta, hoff] at hy
        obtain ⟨x, k1, k2⟩ := iha.1 hta hd.1 hy
        simp only [Ty.csz] at hl
        obtain ⟨z, g1, g2⟩ := ihb.2 hf.2 hd.2 (fun g hg => hall g (by simp [hg])) (by omega)
        refine ⟨(x, z), ⟨_, _, ?_, k1, g1⟩, k2, g2⟩
        rw [← List.drop_drop, List.take_append_drop]
    refine ⟨?_, key⟩
    intro t fuel cs y ht hd h
    obtain ⟨fs, hu, hf, _⟩ := pair_under ht
    obtain ⟨xs, n, rfl, _, h1, h2, h3⟩ := DataW.trod_struct hu h
    rw [cellsOf_tyb ht] at h1
    obtain ⟨x, g1, g2⟩ := key (m := n) (cs := cs) hf hd (fun f hf => by
      obtain ⟨i, hi⟩ := List.getElem?_of_mem hf
      have hi' : fs[i]? = some f := by simpa using hi
      have hlt := (Array.getElem?_eq_some_iff.1 hi').1
      exact ⟨xs[i]'(by omega), by rw [h3 i f hi']; exact List.getElem?_eq_getElem (by omega)⟩) (by rw [h1]; omega)
    exact ⟨x, by simpa using g1, g2⟩
  | unit =>
    refine ⟨?_, ?_⟩
    · intro t fuel cs y ht _ h
      simp only [tyb, Bool.and_eq_true] at ht
      have h2 := ht.2
      split at h2
      · rename_i fs hu
        obtain ⟨xs, n, rfl, _, h1, _⟩ := DataW.trod_struct hu h
        rw [cellsOf_tyb (ty := .unit) (by simp only [tyb, Bool.and_eq_true]; exact ht)] at h1
        exact ⟨(), List.eq_nil_of_length_eq_zero h1, trivial⟩
      · cases h2
    · intro fs off m cs hf hd hall hl
      exact ⟨(), by simp only [Imm, Ty.csz] at hl ⊢; exact List.drop_eq_nil_of_le (by omega), trivial⟩
  | arr n e ih =>
    refine ⟨?_, fun hf => by simp [fdb] at hf⟩
    intro t fuel cs y ht hd h
    obtain ⟨te, hu, he, hpos⟩ := arr_under ht
    obtain ⟨xs, m, rfl, _, h1, h2, h3⟩ := DataW.trod_array hu h
    have hc := cellsOf_tyb (P := P) he
    rw [cellsOf_tyb ht] at h1
    have key : ∀ k, k ≤ n → ∃ l : List e.T, l.length = k ∧ ImmL (Imm w (Old w) e) l (cs.take (k * e.csz)) ∧ ∀ x ∈ l, Good e x := by
      intro k
      induction k with
      | zero => intro _; exact ⟨[], rfl, by simp [ImmL], fun x h => by cases h⟩
      | succ k ihk =>
        intro hk
        obtain ⟨l, g1, g2, g3⟩ := ihk (by omega)
        have h6 := h3 k (by omega)
        rw [List.getElem?_eq_getElem (by omega)] at h6
        obtain ⟨x, k3, k4⟩ := ih.1 he hd h6
        rw [hc] at k3
        refine ⟨l ++ [x], by simp [g1], ?_, fun y hy => ?_⟩
        · rw [Nat.add_mul, Nat.one_mul, List.take_add]
          exact ImmL.append g2 ⟨_, [], by simp, k3, rfl⟩
        · rcases List.mem_append.1 hy with hy | hy
          · exact g3 y hy
          · have : y = x := by simpa using hy
            rw [this]; exact k4
    obtain ⟨l, g1, g2, g3⟩ := key n (Nat.le_refl _)
    rw [List.take_of_length_le (by rw [h1]; exact Nat.le_refl _)] at g2
    exact ⟨l, ⟨g1, g2⟩, g1, g3⟩
theorem trod_imm : ∀ {ty : Ty} {t : TypeId} {fuel : Nat} {cs : List Value} {y : DataW H × List MemPlace}, tyb P ty t = true → dataTy ty = true → DataW.trod enc P w 0 sp hd fuel t cs = some y → ∃ x, Imm w (Old w) ty x cs ∧ Good ty x := fun {ty t fuel cs y} h1 h2 h3 => (trod_both ty).1 h1 h2 h3
end
end Go.Abs
