/- The law TileLives, in plain Lean. -/
import Derived.Test.YtfheeikjlehikaaAPL
set_option linter.unusedVariables false
set_option linter.unusedSimpArgs false
namespace Go.Proofs.Ytfheeikjlehikaa
open Go.Abs

theorem l5r17_ok {f : FN} {n : Nat} (hf : FOk f n) {B E : BB} (hB : Rd f n B) (hc : Closed f (At B)) (hE : EndsOf f n B E (bls f).length) {i : Nat} (hi : i < (bls f).length) {u v : Int} {k1 : Bool → Prop} {k2 : Int → Int → FN → BB → BB → Prop}
    (h : k2 u v f B E) : l5r17 k1 k2 (i : Int) 1 u v f B E := by
  have hr := hf.regs
  have hnl := hf.nle
  have hBl := hB.len
  have hrow := hB.row _ (List.getElem_mem (show i < B.length by omega))
  obtain ⟨hE1, hE2⟩ := hE
  obtain ⟨s, b, g1, g2, g3, g4⟩ := hE2 i hi
  obtain ⟨_, q1⟩ := List.getElem?_eq_some_iff.1 g1
  have hs : (E[i]'(by omega)).length = n := by rw [q1]; exact g3
  constructor
  intro I hI
  refine regInd (n := n) (M := fun r => I (i : Int) (r : Int) u v f B E) hf.pos (hI _ _ _ _ _ _ _ (brDn (by omega) h)) fun r hr1 hrn ih => hI _ _ _ _ _ _ _ ?_
  have hat := at_get (B := B) (i := i) (r := r) (by omega) (by omega)
  have hlv := lv_at hB hc (i := i) (r := r)
  rw [wrapS (by omega), Int.toNat_natCast]
  refine brD (by omega) (brD (by omega) (needNth (by omega) (needAt (by omega) ?_)))
  have step2 : br (decide ((0 : Int) ≤ (i : Int) ∧ (i : Int) < (((List.length E) : Nat) : Int)))
                   (need False (E)[i]? fun y13 =>
                    need False (at? y13 (r : Int)) fun y14 =>
                     c34 f (i : Int) (r : Int)
                      (fun z15 => br (eqT (.int .i64) (i : Int) (i : Int))
                       (br (decide ((0 : Int) ≤ (i : Int) ∧ (i : Int) < (((List.length E) : Nat) : Int)))
                        (br ((decide (i = i)) && true)
                         (need False (E)[i]? fun y16 =>
                          br (eqT (.sl .bool) y13 y16)
                           (br (eqT (.int .i64) (r : Int) (r : Int))
                            (need False (at? y13 (r : Int)) fun y17 =>
                             br (eqT .bool y14 y17)
                              (br (eqT .bool y14 y14)
                               (br (!((y14 : Bool) == z15))
                                (k1 false)
                                (I (i : Int) ((r + 1 : Nat) : Int) u v f B E))
                               (False /- 942 -/))
                              (False /- 942 -/))
                            (False /- 942 -/))
                           (False /- 942 -/))
                         (False /- 942 -/))
                        (False /- 39 -/))
                       (False /- 942 -/)))
                   (False /- 39 -/) := by
    refine brD (by omega) (needNth (by omega) (needAt (by omega) ?_))
    have htr := tr_get (s := E[i]'(by omega)) (r := r) (by omega)
    have hiff : (E[i]'(by omega))[r]'(by omega) = true ↔ ∃ t ∈ tos b, Lv f t.toNat r := by
      rw [← htr, q1, g4 r]
      constructor
      · rintro ⟨t, ht, q⟩; exact ⟨t, ht, (lv_at hB hc).1 q⟩
      · rintro ⟨t, ht, q⟩; exact ⟨t, ht, (lv_at hB hc).2 q⟩
    refine c34_ok hf (by omega) g2 (fun q => ?_) fun q => ?_
    · have e := hiff.2 q
      refine brT (eqT_self (.int .i64) _) (brD (by omega) (brT (by simp) (needNth (by omega) (brT (eqT_self (.sl .bool) _) (brT (eqT_self (.int .i64) _) (needAt (by omega) (brT (eqT_self .bool _) (brT (eqT_self .bool _) ?_))))))))
      exact brF (by rw [e]; rfl) ih
    · have e := bool_eq fun q2 => q (hiff.1 q2)
      refine brT (eqT_self (.int .i64) _) (brD (by omega) (brT (by simp) (needNth (by omega) (brT (eqT_self (.sl .bool) _) (brT (eqT_self (.int .i64) _) (needAt (by omega) (brT (eqT_self .bool _) (brT (eqT_self .bool _) ?_))))))))
      exact brF (by rw [e]; rfl) ih
  refine c33_lv hf (by omega) hi (fun q => ?_) fun q => ?_
  · have e := hat.1 (hlv.2 q)
    refine brT (eqT_self (.int .i64) _) (brD (by omega) (brT (by simp) (needNth (by omega) (brT (eqT_self (.sl .bool) _) (brT (eqT_self (.int .i64) _) (needAt (by omega) (brT (eqT_self .bool _) (brT (eqT_self .bool _) ?_))))))))
    exact brF (by rw [e]; rfl) step2
  · have e := bool_eq fun q2 => q (hlv.1 (hat.2 q2))
    refine brT (eqT_self (.int .i64) _) (brD (by omega) (brT (by simp) (needNth (by omega) (brT (eqT_self (.sl .bool) _) (brT (eqT_self (.int .i64) _) (needAt (by omega) (brT (eqT_self .bool _) (brT (eqT_self .bool _) ?_))))))))
    exact brF (by rw [e]; rfl) step2

theorem l5r12_ok {f : FN} {n : Nat} (hf : FOk f n) {B E : BB} (hB : Rd f n B) (hc : Closed f (At B)) (hE : EndsOf f n B E (bls f).length) {k1 : Bool → Prop} {k2 : Prop} (h : k2) : l5r12 k1 k2 ((bls f).length : Int) 0 f B E := by
  have hr := hf.regs
  have hpos := hf.pos
  have hble := hf.ble
  have hBl := hB.len
  have hE1 := hE.1
  constructor
  intro I hI
  refine upInd (N := (bls f).length) (M := fun i => I ((bls f).length : Int) (i : Int) f B E) (hI _ _ _ _ _ (brDn (by omega) h)) (fun i hi ih => hI _ _ _ _ _ ?_) 0 (Nat.zero_le _)
  obtain ⟨s, b, g1, g2, g3, g4⟩ := hE.2 i hi
  obtain ⟨_, q1⟩ := List.getElem?_eq_some_iff.1 g1
  have hs : (E[i]'(by omega)).length = n := by rw [q1]; exact g3
  have hrow := hB.row _ (List.getElem_mem (show i < B.length by omega))
  have hno : ∀ j, ¬ At B j 0 := fun j q => by
    obtain ⟨_, _, h0, _⟩ := hB.up j 0 q
    exact h0 rfl
  have e1 : (B[i]'(by omega))[0]'(by omega) = false := bool_eq fun q => hno i ((at_get (by omega) (by omega)).2 q)
  have e2 : (E[i]'(by omega))[0]'(by omega) = false := bool_eq fun q => by
    have q2 := (tr_get (s := E[i]'(by omega)) (r := 0) (by omega)).2 q
    rw [q1] at q2
    obtain ⟨t, _, q3⟩ := (g4 0).1 q2
    exact hno _ q3
  rw [Int.toNat_natCast]
  refine brD (by omega) (brD (by omega) (needNth (by omega) (brF (by rw [hrow, hr]; simp) (brD (by omega) (needNth (by omega) (brF (by rw [hs, hr]; simp) (brD (by omega) (needNth (by omega) (needAt (i := 0) (by omega) ?_)))))))))
  refine brF e1 (brD (by omega) (needNth (by omega) (needAt (i := 0) (by omega) (brF e2 (l5r17_ok hf hB hc hE hi ?_)))))
  show I _ (IntKind.wrap .i64 ((i : Int) + 1)) f B E
  rw [wrapS (by omega)]
  exact ih

theorem law5' {f : FN} (hz : Szf f) (hl : (bls f).length ≤ maxLen) {k : Bool → Prop} (hk : k true) : c5 f k := by
  have hm := hml
  constructor
  refine c22_ok (brF rfl (c23_ok hl (brF rfl ?_) (brT rfl hk)))
  refine c32_ok hz (fun e => c31_ok hz ?_) fun e B E hB hc hE => c31_ok hz ?_
  · refine brT (by simpa using e) (brT (by simp) ?_)
    exact hk
  · obtain ⟨hf, hb0⟩ := fnErr_good hz e
    have h1 : (((B.length : Nat) : Int) != (((bls f).length : Nat) : Int)) = false := by rw [hB.len]; simp
    have h2 : (((E.length : Nat) : Int) != (((bls f).length : Nat) : Int)) = false := by rw [hE.1]; simp
    exact brF (by rw [e]; rfl) (brF rfl (brF h1 (brF h2 (l5r12_ok hf hB hc hE hk))))
abbrev viT : Ty := .pair (.int .i64) (.pair (.int .i64) (.pair (.int .i64) (.pair (.int .i64) (.pair (.int .i64) (.pair (.sl (.int .i64)) .unit)))))
abbrev blT : Ty := .pair (.sl viT) (.pair viT .unit)
abbrev fnT : Ty := .pair (.int .i64) (.pair (.sl (.int .i64)) (.pair (.int .i64) (.pair (.sl blT) .unit)))

theorem int_wf {n : Int} (h : Go.Abs.Good (.int .i64) n) : -9223372036854775808 ≤ n ∧ n ≤ 9223372036854775807 := by
  have h : (Lit.int .i64 n).wf = true := h
  simp [Lit.wf, IntKind.min, IntKind.max, IntKind.signed, IntKind.bits] at h
  omega
theorem szf_of {f : FN} (g : Go.Abs.Good fnT f ∧ Go.Abs.Sz fnT f) : Szf f ∧ (bls f).length ≤ maxLen := by
  obtain ⟨⟨_, ⟨g1, _⟩, g2, ⟨g3, g4⟩, _⟩, ⟨_, _, _, ⟨z1, z2⟩, _⟩⟩ := g
  refine ⟨⟨g1, int_wf g2, fun b hb => ?_, fun b hb x hx => ?_, fun b hb => ?_⟩, g3⟩
  · obtain ⟨⟨z3, _⟩, _⟩ := z2 b hb
    have hbt : 1 ≤ Ty.bts viT := by decide
    have := Nat.mul_le_mul_left b.1.length hbt
    have z3' : b.1.length * Ty.bts viT ≤ 140737488351232 := z3
    omega
  · obtain ⟨⟨_, g5⟩, _⟩ := g4 b hb
    obtain ⟨_, _, _, _, _, ⟨g6, _⟩, _⟩ := g5 x hx
    exact g6
  · obtain ⟨_, ⟨_, _, _, _, _, ⟨g6, _⟩, _⟩, _⟩ := g4 b hb
    exact g6
theorem law5 {f : FN} (g : Go.Abs.Good fnT f ∧ Go.Abs.Sz fnT f) {k : Bool → Prop} (hk : k true) : c5 f k := law5' (szf_of g).1 (szf_of g).2 hk
end Go.Proofs.Ytfheeikjlehikaa
