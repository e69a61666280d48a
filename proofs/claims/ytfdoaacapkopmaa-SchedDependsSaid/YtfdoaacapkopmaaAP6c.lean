/- A part of the proof. -/
import Derived.Test.YtfdoaacapkopmaaAP6b
set_option linter.unusedSimpArgs false
namespace Go.Proofs.Ytfdoaacapkopmaa
open Go.Abs

theorem br_len {b : Bool} {u v : List Int} (hu : u.length ≤ 2) (hv : v.length ≤ 2) : (br b u v).length ≤ 2 := by cases b; exact hv; exact hu
theorem rd_len (x : O) : (rd x).length ≤ 2 := by
  unfold rd
  refine Nat.le_trans (List.length_filter_le _ _) ?_
  exact br_len (by simp) (br_len (by simp) (br_len (by simp) (br_len (by simp) (br_len (by simp) (by simp)))))
theorem rd_nz (x : O) : (rd x).contains 0 = false := by
  unfold rd
  rw [Bool.eq_false_iff]
  intro h
  rw [List.contains_iff_mem, List.mem_filter] at h
  exact absurd h.2 (by decide)

theorem c36_tail {x y : O} {k : Bool → Prop} (hx : 0 ≤ x.1 ∧ x.1 ≤ 24) (hy : 0 ≤ y.1 ∧ y.1 ≤ 24) (h : k ((rd y).contains (wr x) || (rd x).contains (wr y) || (mm x && mm y))) :
    c83 y (fun z7 => l36r7 (fun z8 => k z8) (fun z9 z10 z11 => c83 z10 (fun z12 => l36r13 (fun z13 => k z13) (fun z14 z15 => c108 z14.1 (fun z16 => br (z16) (c108 z15.1 (fun z17 => k z17)) (k false))) z9 (((List.length z12) : Nat) : Int) 0 z10 z11 z12)) (wr x) (wr y) (((List.length z7) : Nat) : Int) 0 x y z7) := by
  have l1 := rd_len x
  have l2 := rd_len y
  refine c83_ok hy (l36r7_ok (by omega) (brI.2 ⟨fun e => ?_, fun e => ?_⟩))
  · rw [e, Bool.true_or, Bool.true_or] at h; exact h
  · rw [e, Bool.false_or] at h
    refine c83_ok hx (l36r13_ok (by omega) (brI.2 ⟨fun e => ?_, fun e => ?_⟩))
    · rw [e, Bool.true_or] at h; exact h
    · rw [e, Bool.false_or] at h
      refine c108_ok (brI.2 ⟨fun e => c108_ok ?_, fun e => ?_⟩)
      · rw [e, Bool.true_and] at h; exact h
      · rw [e, Bool.false_and] at h; exact h
theorem c36_ok {x y : O} {k : Bool → Prop} (hx : 0 ≤ x.1 ∧ x.1 ≤ 24) (hy : 0 ≤ y.1 ∧ y.1 ≤ 24) (h : k (dep x y)) : c36 x y k := by
  constructor
  unfold tc36
  unfold dep at h
  refine c107_ok (brI.2 ⟨fun e1 => ?_, fun e1 => c107_ok (brI.2 ⟨fun e2 => ?_, fun e2 => ?_⟩)⟩)
  · simpa only [e1, Bool.true_or] using h
  · simpa only [e2, Bool.true_or, Bool.or_true] using h
  rw [e1, e2, Bool.false_or, Bool.false_or] at h
  refine c81_ok hx (brT (eqT_self _ _) (c81_ok hy (brI.2 ⟨fun e3 => brI.2 ⟨fun e4 => ?_, fun e4 => ?_⟩, fun e3 => ?_⟩)))
  · simpa only [e3, e4, Bool.true_or, Bool.true_and] using h
  · rw [e3, e4, Bool.true_and, Bool.false_or] at h
    exact c36_tail hx hy h
  · rw [e3, Bool.false_and, Bool.false_or] at h
    exact c36_tail hx hy h

def tch (x y : O) : Bool := wr x != 0 && (rd y ++ [wr y]).contains (wr x)
def fol (x y : O) : Bool := bar x || bar y || (mm x && mm y) || tch x y || tch y x
theorem c109_ok {x y : O} {k : Bool → Prop} (hx : 0 ≤ x.1 ∧ x.1 ≤ 24) (hy : 0 ≤ y.1 ∧ y.1 ≤ 24) (h : k (tch x y)) : c109 x y k := by
  constructor
  unfold tc109
  have l2 := rd_len y
  refine c82_ok hx (c84_ok hy (brT (eqT_self _ _) (brT rfl (c82_ok hy (brT rfl (brT rfl (brT (roomS (by omega)) (brT rfl (l109r3_ok (by simp; omega) ?_)))))))))
  refine brI.2 ⟨fun e => ?_, fun e => ?_⟩
  · rw [tch, e] at h; exact h
  · rw [tch, e] at h; exact h
theorem c37_tail {x y : O} {k : Bool → Prop} (hx : 0 ≤ x.1 ∧ x.1 ≤ 24) (hy : 0 ≤ y.1 ∧ y.1 ≤ 24) (h : k (tch x y || tch y x)) : c109 x y (fun z6 => br (z6) (k true) (c109 y x (fun z7 => k z7))) := by
  refine c109_ok hx hy (brI.2 ⟨fun e => ?_, fun e => c109_ok hy hx ?_⟩)
  · rw [e, Bool.true_or] at h; exact h
  · rw [e, Bool.false_or] at h; exact h
theorem c37_mid {x y : O} {k : Bool → Prop} (hx : 0 ≤ x.1 ∧ x.1 ≤ 24) (hy : 0 ≤ y.1 ∧ y.1 ≤ 24) (h : k ((mm x && mm y) || tch x y || tch y x)) :
    br ((x.1 : Int) == 12) (br ((y.1 : Int) == 12) (k true) (br ((y.1 : Int) == 13) (k true) (c109 x y (fun z6 => br (z6) (k true) (c109 y x (fun z7 => k z7))))))
    (br ((x.1 : Int) == 13) (br ((y.1 : Int) == 12) (k true) (br ((y.1 : Int) == 13) (k true) (c109 x y (fun z8 => br (z8) (k true) (c109 y x (fun z9 => k z9)))))) (c109 x y (fun z10 => br (z10) (k true) (c109 y x (fun z11 => k z11))))) := by
  unfold mm at h
  refine brI.2 ⟨fun e1 => brI.2 ⟨fun e2 => ?_, fun e2 => brI.2 ⟨fun e3 => ?_, fun e3 => ?_⟩⟩, fun e1 => brI.2 ⟨fun e4 => brI.2 ⟨fun e2 => ?_, fun e2 => brI.2 ⟨fun e3 => ?_, fun e3 => ?_⟩⟩, fun e4 => ?_⟩⟩
  · simpa only [e1, e2, Bool.true_or, Bool.true_and] using h
  · simpa only [e1, e2, e3, Bool.true_or, Bool.true_and, Bool.or_true] using h
  · exact c37_tail hx hy (by simpa only [e1, e2, e3, Bool.true_or, Bool.true_and, Bool.or_false, Bool.false_or] using h)
  · simpa only [e1, e4, e2, Bool.true_or, Bool.true_and, Bool.or_true] using h
  · simpa only [e1, e4, e2, e3, Bool.true_or, Bool.true_and, Bool.or_true] using h
  · exact c37_tail hx hy (by simpa only [e1, e4, e2, e3, Bool.true_or, Bool.or_true, Bool.true_and, Bool.or_false, Bool.false_or] using h)
  · exact c37_tail hx hy (by simpa only [e1, e4, Bool.or_false, Bool.false_or, Bool.false_and] using h)
theorem c37_ok {x y : O} {k : Bool → Prop} (hx : 0 ≤ x.1 ∧ x.1 ≤ 24) (hy : 0 ≤ y.1 ∧ y.1 ≤ 24) (h : k (fol x y)) : c37 x y k := by
  constructor
  unfold tc37
  constructor
  intro I hI
  have w1 : IntKind.wrap .i64 (0 + 1) = 1 := by decide
  have w2 : IntKind.wrap .i64 (1 + 1) = 2 := by decide
  have chain : ∀ (z : O) {P : Prop}, (bar z = true → k true) → (bar z = false → P) → br ((z.1 : Int) == 14) (k true) (br ((z.1 : Int) == 15) (k true) (br ((z.1 : Int) == 23) (k true) (br ((z.1 : Int) == 4) (k true) (br ((z.1 : Int) == 5) (k true) P)))) := by
    intro z P h1 h2
    unfold bar at h1 h2
    refine brI.2 ⟨fun e => ?_, fun e => brI.2 ⟨fun e1 => ?_, fun e1 => brI.2 ⟨fun e2 => ?_, fun e2 => brI.2 ⟨fun e3 => ?_, fun e3 => brI.2 ⟨fun e4 => ?_, fun e4 => ?_⟩⟩⟩⟩⟩
    all_goals first
      | exact h1 (by simp only [*, Bool.true_or, Bool.or_true])
      | exact h2 (by simp only [*, Bool.or_false])
  unfold fol at h
  apply hI
  refine brT (by decide) (brT (by simp) (needS (v := x) rfl (chain x (fun e => ?_) fun e1 => ?_)))
  · simpa only [e, Bool.true_or] using h
  rw [w1]
  apply hI
  refine brT (by decide) (brT (by simp) (needS (v := y) rfl (chain y (fun e => ?_) fun e2 => ?_)))
  · simpa only [e, Bool.true_or, Bool.or_true] using h
  rw [w2]
  apply hI
  refine brF (by decide) ?_
  rw [e1, e2, Bool.false_or, Bool.false_or] at h
  exact c37_mid hx hy h

theorem dep_fol (x y : O) : dep x y = fol x y := by
  unfold dep fol tch
  have hp : (rd y).contains (wr x) = true → (wr x != 0) = true := by
    intro h
    rw [bne_iff_ne]
    intro e
    rw [e, rd_nz] at h
    cases h
  have hq : (rd x).contains (wr y) = true → (wr y != 0) = true := by
    intro h
    rw [bne_iff_ne]
    intro e
    rw [e, rd_nz] at h
    cases h
  have he : (wr x == wr y) = true → (wr x != 0) = (wr y != 0) := by
    intro h
    rw [beq_iff_eq] at h
    rw [h]
  have hs : (wr y == wr x) = (wr x == wr y) := by
    rw [Bool.eq_iff_iff]
    simp only [beq_iff_eq]
    exact eq_comm
  rw [List.contains_append, List.contains_append]
  simp only [List.contains_cons, List.contains_nil, Bool.or_false, hs]
  revert hp hq he
  generalize (rd y).contains (wr x) = p
  generalize (rd x).contains (wr y) = q
  generalize (wr x == wr y) = e
  generalize (wr x != 0) = nx
  generalize (wr y != 0) = ny
  generalize bar x = a
  generalize bar y = b
  generalize (mm x && mm y) = m
  cases p <;> cases q <;> cases e <;> cases nx <;> cases ny <;> cases a <;> cases b <;> cases m <;> simp

theorem law6 {x y : O} {k : Bool → Prop} (h : k true) : c6 x y k := by
  constructor
  unfold tc6
  refine c36_ok (by decide) (by decide) ?_
  refine brF (by decide) (c36_ok (by decide) (by decide) ?_)
  refine brF (by decide) (check_any fun e hx => brN (fun _ => h) fun e1 => check_any fun e hy => brN (fun _ => h) fun e2 => ?_)
  have hx := hx e1
  have hy := hy e2
  refine c36_ok hx hy (brT (eqT_self _ _) (brT (eqT_self _ _) (c37_ok hx hy ?_)))
  rw [dep_fol, beq_self_eq_true]
  exact h
end Go.Proofs.Ytfdoaacapkopmaa
