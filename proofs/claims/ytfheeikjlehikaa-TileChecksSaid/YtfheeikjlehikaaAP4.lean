/- The law TileChecks, in plain Lean. -/
import Derived.Test.YtfheeikjlehikaaAPL
set_option linter.unusedVariables false
set_option linter.unusedSimpArgs false
namespace Go.Proofs.Ytfheeikjlehikaa
open Go.Abs

theorem c26_self {l : List Int} {k : Bool → Prop} (hl : l.length ≤ maxLen) (h : k true) : c26 l l k := by
  have hm := hml
  constructor
  refine brF (by simp) ?_
  constructor
  intro I hI
  refine upInd (N := l.length) (M := fun i => I l l (l.length : Int) (i : Int)) (hI _ _ _ _ (brDn (by omega) h)) (fun i hi ih => hI _ _ _ _ ?_) 0 (Nat.zero_le _)
  rw [wrapS (by omega)]
  exact brD (by omega) (needAt hi (needAt hi (brF (by simp) ih)))

/-- sizes of unchecked instructions -/
structure Szu (f : FN) : Prop where
  ins : ∀ b ∈ bls f, b.1.length ≤ maxLen
  arg : ∀ b ∈ bls f, ∀ x ∈ b.1, (args x).length * 8 ≤ 140737488351232

theorem l4r9_ok {u : List BL} {v w : Int} {f : FN} {b : BL} {k1 : Bool → Prop} {k2 : List BL → Int → Int → FN → BL → Prop} (hl : b.1.length ≤ maxLen) (ha : ∀ x ∈ b.1, (args x).length * 8 ≤ 140737488351232) (h : k2 u v w f b) : l4r9 k1 k2 u v w b.1 (b.1.length : Int) 0 f b := by
  have hm := hml
  constructor
  intro I hI
  refine upInd (N := b.1.length) (M := fun i => I u v w b.1 (b.1.length : Int) (i : Int) f b) (hI _ _ _ _ _ _ _ _ (brDn (by omega) h)) (fun i hi ih => hI _ _ _ _ _ _ _ _ ?_) 0 (Nat.zero_le _)
  have hx := ha _ (List.getElem_mem hi)
  unfold args at hx
  have hu := uses_len (x := b.1[i])
  rw [wrapS (by omega)]
  refine brD (by omega) (needAt hi (c24_ok (brT (eqT_self _ _) (c25_ok (brF (by simp) (c27_ok hx ?_ fun len cap row hs => ?_))))))
  · exact brT (eqT_self _ _) (c28_ok hx (c26_self (by omega) (brF rfl ih)))
  · refine brT (eqT_self _ _) (c28_ok hx ?_)
    rw [List.drop_zero, hs.2.2.2]
    exact c26_self (by omega) (brF rfl ih)

theorem uses_end {a b : Int} : uses ((0, 0, a, b, 0, [], ()) : VI) = nz [a, b] := by unfold uses nz; rfl

theorem l4r6_ok {f : FN} {k1 : Bool → Prop} {k2 : FN → Prop} (hl : (bls f).length ≤ maxLen) (hz : Szu f) (h : k2 f) : l4r6 k1 k2 (bls f) ((bls f).length : Int) 0 f := by
  have hm := hml
  constructor
  intro I hI
  refine upInd (N := (bls f).length) (M := fun i => I (bls f) ((bls f).length : Int) (i : Int) f) (hI _ _ _ _ (brDn (by omega) h)) (fun i hi ih => hI _ _ _ _ ?_) 0 (Nat.zero_le _)
  have hb := List.getElem_mem hi
  have hnz : ∀ a b : Int, (nz [a, b]).length ≤ 2 := fun a b => by
    unfold nz
    exact Nat.le_trans (List.length_filter_le _ _) (by simp)
  have e2 : ∀ a b : Int, (true && (true && ((eqT (.int .i64) a a) && ((eqT (.int .i64) b b) && (true && true))))) = true := fun a b => by rw [show eqT (.int .i64) a a = true from eqT_self (.int .i64) a, show eqT (.int .i64) b b = true from eqT_self (.int .i64) b]; rfl
  have hd : ∀ {x y : Prop}, x → br (true && true) x y := fun h => brT rfl h
  have hd2 : ∀ {x y : Prop}, x → br (true && (true && true)) x y := fun h => brT rfl h
  refine brD (by omega) (needAt hi (l4r9_ok (hz.ins _ hb) (hz.arg _ hb) (c29_ok ?_ fun len cap row hs => ?_)))
  · refine hd (hd2 (brT (eqT_self (.int .i64) _) (hd (hd2 (brT (eqT_self (.int .i64) _) (brT ?_ (c28_ok (by simp) ?_)))))))
    · exact e2 _ _
    · rw [uses_end]
      refine c26_self (by have := hnz ((bls f)[i]).2.1.2.2.1 ((bls f)[i]).2.1.2.2.2.1; omega) (brF rfl ?_)
      rw [wrapS (by omega)]; exact ih
  · refine hd (hd2 (brT (eqT_self (.int .i64) _) (hd (hd2 (brT (eqT_self (.int .i64) _) (brT ?_ (c28_ok (by simp) ?_)))))))
    · exact e2 _ _
    · rw [uses_end, List.drop_zero, hs.2.2.2]
      refine c26_self (by have := hnz ((bls f)[i]).2.1.2.2.1 ((bls f)[i]).2.1.2.2.2.1; omega) (brF rfl ?_)
      rw [wrapS (by omega)]; exact ih

theorem law4' {f : FN} (hz : Szf f) (hu : Szu f) (hl : (bls f).length ≤ maxLen) {k : Bool → Prop} (hk : k true) : c4 f k := by
  constructor
  refine c22_ok (brF rfl (c23_ok hl (brF rfl (l4r6_ok hl hu (c30_ok hz (brT (eqT_self _ _) (c31_ok hz ?_))))) (brT rfl hk)))
  show k (fnErr f == fnErr f)
  rw [beq_self_eq_true]
  exact hk

abbrev viT : Ty := .pair (.int .i64) (.pair (.int .i64) (.pair (.int .i64) (.pair (.int .i64) (.pair (.int .i64) (.pair (.sl (.int .i64)) .unit)))))
abbrev blT : Ty := .pair (.sl viT) (.pair viT .unit)
abbrev fnT : Ty := .pair (.int .i64) (.pair (.sl (.int .i64)) (.pair (.int .i64) (.pair (.sl blT) .unit)))

theorem int_wf {n : Int} (h : Go.Abs.Good (.int .i64) n) : -9223372036854775808 ≤ n ∧ n ≤ 9223372036854775807 := by
  have h : (Lit.int .i64 n).wf = true := h
  simp [Lit.wf, IntKind.min, IntKind.max, IntKind.signed, IntKind.bits] at h
  omega
theorem szf_of {f : FN} (g : Go.Abs.Good fnT f ∧ Go.Abs.Sz fnT f) : Szf f ∧ Szu f ∧ (bls f).length ≤ maxLen := by
  obtain ⟨⟨_, ⟨g1, _⟩, g2, ⟨g3, g4⟩, _⟩, ⟨_, _, _, ⟨z1, z2⟩, _⟩⟩ := g
  refine ⟨⟨g1, int_wf g2, fun b hb => ?_, fun b hb x hx => ?_, fun b hb => ?_⟩, ⟨fun b hb => ?_, fun b hb x hx => ?_⟩, g3⟩
  · obtain ⟨⟨z3, _⟩, _⟩ := z2 b hb
    have hbt : 1 ≤ Ty.bts viT := by decide
    have := Nat.mul_le_mul_left b.1.length hbt
    have z3' : b.1.length * Ty.bts viT ≤ 140737488351232 := z3
    omega
  · obtain ⟨⟨_, g5⟩, _⟩ := g4 b hb
    obtain ⟨_, _, _, _, _, ⟨g6, _⟩, _⟩ := g5 x hx
    exact g6
  · obtain ⟨_, ⟨_, _, _, _, _, ⟨g6, _⟩, _⟩, _⟩ := g4 b hb
    exact g6
  · exact (g4 b hb).1.1
  · obtain ⟨⟨_, z5⟩, _⟩ := z2 b hb
    obtain ⟨_, _, _, _, _, ⟨z6, _⟩, _⟩ := z5 x hx
    exact z6
theorem law4 {f : FN} (g : Go.Abs.Good fnT f ∧ Go.Abs.Sz fnT f) {k : Bool → Prop} (hk : k true) : c4 f k := law4' (szf_of g).1 (szf_of g).2.1 (szf_of g).2.2 hk
end Go.Proofs.Ytfheeikjlehikaa
