/- The law TimingSays, in plain Lean. -/
import Derived.Test.YtomgefbhmpeabaaAPT
set_option linter.unusedVariables false
set_option linter.unusedSimpArgs false
namespace Go.Proofs.Ytomgefbhmpeabaa
open Go.Abs

theorem St.mono {s : TS} {M M' : Int} {L L' : Nat} (hs : St s M L) (h : M ≤ M') (hL : L ≤ L') : St s M' L' :=
  ⟨hs.n0, Int.le_trans hs.n1 h, hs.d0, Int.le_trans hs.d1 h, hs.f0, Int.le_trans hs.f1 h, hs.rl, fun r hr => ⟨(hs.r0 r hr).1, Int.le_trans (hs.r0 r hr).2 h⟩, fun w hw => ⟨(hs.w0 w hw).1, Int.le_trans (hs.w0 w hw).2 h⟩, hs.ws, Nat.le_trans hs.wl hL⟩
theorem zero_st : St (0, 0, 0, Z16, [], ()) 0 0 := by
  refine ⟨by decide, by decide, by decide, by decide, by decide, by decide, rfl, fun r hr => ?_, fun w hw => (by cases hw), .nil, Nat.le_refl _⟩
  have : r = 0 := by simpa using hr
  omega
theorem oErr_of {x : OP} (h0 : 0 ≤ x.1 ∧ x.1 ≤ 24) (h1 : ¬ orbad x) (h2 : ¬ ofbad x) (h3 : ¬ otbad x) : oErr x = 0 := by
  unfold oErr
  rw [if_neg (fun h => h h0), if_neg h1, if_neg h2, if_neg h3]
abbrev oA : OP := (12, 1, 2, 0, 0, ())
abbrev oB : OP := (8, 3, 1, 0, 0, ())
theorem oErr_A : oErr oA = 0 := oErr_of (by decide) (by unfold orbad; decide) (by unfold ofbad; rw [show oshp oA.1 = (true, true, false, true, ()) from rfl]; decide) (by unfold otbad olow ohigh; decide)
theorem oErr_B : oErr oB = 0 := oErr_of (by decide) (by unfold orbad; decide) (by unfold ofbad; rw [show oshp oB.1 = (true, true, false, true, ()) from rfl]; decide) (by unfold otbad olow ohigh; decide)
theorem isErr_of {x : OP} (h : oErr x = 0) : isErr x 0 = 0 := by
  unfold isErr
  rw [if_neg (fun q => q h), if_neg (by decide)]
theorem at_free {s : TS} {x : OP} {l b : Int} (hb : base s x l = b) (h : b + l ∉ s.2.2.2.2.1) : atOf s x l = b := by
  subst hb
  by_cases hw : wr x = 0
  · unfold atOf; rw [if_pos hw]
  · obtain ⟨h1, h2, h3⟩ := atOf_is (s := s) (l := l) hw
    refine Classical.byContradiction fun e => h (h3 _ (Int.le_refl _) (by omega))
theorem at_A : atOf (0, 0, 0, Z16, [], ()) oA (lat oA.1 + 0) = 0 := at_free (by decide) (by decide)
theorem new_A : newSt (0, 0, 0, Z16, [], ()) oA 0 = (1, 0, 3, [0, 3, 0, 0, 0, 0, 0, 0, 0, 0, 0, 0, 0, 0, 0, 0], [3], ()) := by
  unfold newSt
  rw [at_A]
  decide
theorem at_B : atOf (1, 0, 3, [0, 3, 0, 0, 0, 0, 0, 0, 0, 0, 0, 0, 0, 0, 0, 0], [3], ()) oB (lat oB.1 + 0) = 3 := at_free (by decide) (by decide)
theorem new_B : (newSt (1, 0, 3, [0, 3, 0, 0, 0, 0, 0, 0, 0, 0, 0, 0, 0, 0, 0, 0], [3], ()) oB 0).2.2.1 = 4 := by
  unfold newSt
  rw [at_B]
  decide
theorem c4_ok {k : Bool → Prop} (h : k true) : c4 k := by
  constructor
  constructor
  refine brDn (by decide) ?_
  constructor
  intro I hI
  refine hI _ _ _ _ (brD (by decide) (c25_ok (oc_of ?_)))
  rw [oErr_A]
  refine brF rfl (c12_ok (brF rfl (hI _ _ _ _ (brD (by decide) (c25_ok (oc_of ?_))))))
  show br ((oErr oB : Int) != 0) _ _
  rw [oErr_B]
  refine brF rfl (c12_ok (brF rfl (hI _ _ _ _ (brDn (by decide) ?_))))
  clear hI I
  constructor
  intro I hI
  have sA : St (1, 0, 3, [0, 3, 0, 0, 0, 0, 0, 0, 0, 0, 0, 0, 0, 0, 0, 0], [3], ()) 40000 1 := by
    have := zero_st.new (x := oA) (extra := 0) (by decide) (oErr_good oErr_A).2 (by decide)
    rw [new_A] at this
    exact this
  refine hI _ _ _ _ _ _ _ _ (brD (by decide) (c17_ok zero_st (by decide) (by decide) (fun q => absurd (isErr_of oErr_A) q) fun _ t ht => ?_))
  rw [new_A] at ht
  subst ht
  refine hI _ _ _ _ _ _ _ _ (brD (by decide) (c17_ok (M := 40000) (L := 1) sA (by decide) (by decide) (fun q => absurd (isErr_of oErr_B) q) fun _ t ht => ?_))
  refine hI _ _ _ _ _ _ _ _ (brDn (by decide) ?_)
  have h4 : t.2.2.1 = 4 := by rw [← ht]; exact new_B
  refine brT rfl ?_
  rw [h4]
  exact h

theorem l3r16_ok {T : List Int} (hT : T.length ≤ 1000000) {k1 : Bool → Prop} {k2 : Int → Int → Int → TS → OP → Int → Int → Int → List Int → List Int → Prop} {a b c d e f : Int} {s : TS} {x : OP} {R W : List Int}
    (h1 : (∃ n ∈ T, 1099511627776 < n) → k1 true) (h2 : (¬ ∃ n ∈ T, 1099511627776 < n) → k2 a b c s x d e f R W) : l3r16 k1 k2 a b c (T.length : Int) 0 s x d e f R W T := by
  constructor
  intro I hI
  refine allInd (N := T.length) (p := fun i => ∀ h : i < T.length, ¬ 1099511627776 < T[i]) (M := fun i => I a b c (T.length : Int) (i : Int) s x d e f R W T) (fun h => hI _ _ _ _ _ _ _ _ _ _ _ _ _ (brDn (by omega) (h2 ?_))) fun i hi hlt ih => hI _ _ _ _ _ _ _ _ _ _ _ _ _ ?_
  · rintro ⟨n, hm, hb⟩
    obtain ⟨i, hi, rfl⟩ := List.mem_iff_getElem.1 hm
    exact h i hi hi hb
  · rw [wrapS (by omega), Int.toNat_natCast]
    exact brD (by omega) (brD (by omega) (needNth hi (brP (fun q => h1 ⟨_, List.getElem_mem hi, q⟩) fun q => ih fun _ => q)))

theorem c17v2_all {s : TS} {x : OP} {extra : Int} (hR : s.2.2.2.1.length = 16) (hW : s.2.2.2.2.1.length ≤ maxLen) (hn : s.1 ≤ 9223372036854775807) {k : Int → Int → Int → List Int → Int → Int → List Int → Prop}
    (h1 : allErr s x extra ≠ 0 → k 0 0 0 Z16 0 (allErr s x extra) [])
    (h2 : allErr s x extra = 0 → ∀ (t : TS) (a : Int), (St s 1099511627776 16384 → newSt s x extra = t ∧ a = atOf s x (lat x.1 + extra)) → k t.1 t.2.1 t.2.2.1 t.2.2.2.1 a 0 t.2.2.2.2.1) : c17v2 s x extra k :=
  c17v2_ok hR hW hn h1 (fun e hs t ht => h2 e t _ fun _ => ⟨ht, rfl⟩) fun e hs a b c R n W => h2 e (a, b, c, R, W, ()) n fun q => absurd q hs

theorem j3r12_ok {s : TS} {x : OP} {extra : Int} (hR : s.2.2.2.1.length = 16) (hW : s.2.2.2.2.1.length ≤ maxLen) (hn : s.1 ≤ 9223372036854775807) {k : Bool → Prop} (hk : k true) : j3r12 k extra (allErr s x extra) s x := by
  have eW : eqT (.sl (.int .i64)) s.2.2.2.2.1 s.2.2.2.2.1 = true := eqT_self (.sl (.int .i64)) _
  constructor
  refine c17v2_all hR hW hn (fun e => ?_) fun e t a ht => ?_
  · exact brT (by simpa using e) (brT (by simp) (brT rfl (c18_same (by simp) hk)))
  · obtain ⟨es, ei⟩ := allErr_good e
    have hWl : s.2.2.2.2.1.length ≤ 16384 := Nat.le_of_not_lt fun q => (stErr_good es).1 (.inr (.inr (.inr (.inl q))))
    have fin : St s 1099511627776 16384 → c19 s x extra (fun z24 z25 z26 z27 z28 z29 => br ((0 : Int) == 0) (br ((a : Int) == z28) (c18 (t.1, t.2.1, t.2.2.1, t.2.2.2.1, t.2.2.2.2.1, ()) (z24, z25, z26, z27, z29, ()) (fun z30 => k z30)) (k false)) (k false)) := fun hst => by
      obtain ⟨h1, h2⟩ := ht hst
      have hx := (oErr_good (isErr_good ei).1).2
      have hnew := hst.new (by decide) hx (isErr_good ei).2
      refine c19_ok hst (by decide) (by decide) ei fun t2 ht2 => ?_
      have : t2 = t := by rw [← h1, ← ht2]
      subst this
      have hl := hnew.wl
      rw [h1] at hl
      exact brT rfl (brT (by rw [h2]; simp) (c18_same (Nat.le_trans hl (by decide)) hk))
    have hall : ∀ T : List Int, (∀ n, n = s.1 ∨ n = s.2.1 ∨ n = s.2.2.1 ∨ n ∈ s.2.2.2.1 ∨ n ∈ s.2.2.2.2.1 → n ∈ T) → (¬ ∃ n ∈ T, 1099511627776 < n) → St s 1099511627776 16384 := fun T hT hno => by
      have hle : ∀ n, n = s.1 ∨ n = s.2.1 ∨ n = s.2.2.1 ∨ n ∈ s.2.2.2.1 ∨ n ∈ s.2.2.2.2.1 → n ≤ 1099511627776 := fun n hn => by
        refine Int.not_lt.1 fun q => hno ⟨n, hT n hn, q⟩
      exact st_good es hR (hle _ (.inl rfl)) (hle _ (.inr (.inl rfl))) (hle _ (.inr (.inr (.inl rfl)))) (fun r hr => hle _ (.inr (.inr (.inr (.inl hr))))) fun r hr => hle _ (.inr (.inr (.inr (.inr hr))))
    rw [e]
    refine brF rfl (brT rfl (brT rfl (brT rfl (brT eW (brT rfl (brB (fun em => ?_) fun em => brT (roomS (by omega)) (brT rfl (brT eW (brT rfl (brB (fun em2 => brT rfl ?_) fun em2 => ?_))))))))))
    · rw [List.isEmpty_iff.1 em] at hR; cases hR
    · refine l3r16_ok ?_ (fun _ => hk) fun hno => fin (hall _ (fun n hn => ?_) hno)
      · rw [List.length_append, hR]; simp
      · rw [List.isEmpty_iff.1 em2] at hn
        simp at hn ⊢
        exact hn
    · refine brT (roomS ?_) (brT rfl (l3r16_ok ?_ (fun _ => hk) fun hno => fin (hall _ (fun n hn => ?_) hno)))
      · rw [List.length_append, hR]; simp; omega
      · rw [List.length_append, List.length_append, hR]; simp; omega
      · simp at hn ⊢
        exact hn

theorem j3r10_ok {s : TS} {x : OP} {extra want : Int} (hR : s.2.2.2.1.length = 16) (hW : s.2.2.2.2.1.length ≤ maxLen) (hn : s.1 ≤ 9223372036854775807) {k : Bool → Prop} (hk : k true) (hw : want = if stErr s = 0 then oErr x else stErr s) : j3r10 k extra want s x := by
  have hj := j3r12_ok (x := x) (extra := extra) hR hW hn hk
  have ha : allErr s x extra = if want = 0 then (if extra < 0 ∨ 10000 < extra then 1 else 0) else want := by
    unfold allErr isErr
    by_cases es : stErr s = 0
    · rw [if_pos es] at hw
      rw [if_neg (fun h => h es), hw]
      by_cases eo : oErr x = 0
      · rw [if_neg (fun h => h eo), if_pos eo]
      · rw [if_pos eo, if_neg eo]
    · rw [if_neg es] at hw
      rw [if_pos es, hw, if_neg es]
  rw [ha] at hj
  constructor
  refine brE (fun e => ?_) fun e => ?_
  · rw [if_pos e] at hj
    refine brP (fun q => ?_) fun q1 => brP (fun q => ?_) fun q2 => ?_
    · rw [if_pos (.inl q)] at hj; exact hj
    · rw [if_pos (.inr (by omega))] at hj; exact hj
    · rw [if_neg (by omega)] at hj; rw [e]; exact hj
  · rw [if_neg e] at hj; exact hj

theorem good_i {n : Int} (h : Go.Abs.Good (.int .i64) n) : -9223372036854775808 ≤ n ∧ n ≤ 9223372036854775807 := by
  have h : (Lit.int .i64 n).wf = true := h
  simp [Lit.wf, IntKind.min, IntKind.max, IntKind.signed, IntKind.bits] at h
  omega

theorem law3 {s : TS} {x : OP} {extra : Int} (g1 : Go.Abs.Good (.pair (.int .i64) (.pair (.int .i64) (.pair (.int .i64) (.pair (.arr 16 (.int .i64)) (.pair (.sl (.int .i64)) .unit))))) s) (g2 : Go.Abs.Good (.pair (.int .i64) (.pair (.int .i64) (.pair (.int .i64) (.pair (.int .i64) (.pair (.int .i64) .unit))))) x) (g3 : Go.Abs.Good (.int .i64) extra) {k : Bool → Prop} (hk : k true) : c3 s x extra k := by
  have hR : s.2.2.2.1.length = 16 := g1.2.2.2.1.1
  have hW : s.2.2.2.2.1.length ≤ maxLen := g1.2.2.2.2.1.1
  have hn : s.1 ≤ 9223372036854775807 := (good_i g1.1).2
  have eI : eqT (.int .i64) x.1 x.1 = true := eqT_self (.int .i64) _
  have eO : eqT opT x x = true := eqT_self opT _
  constructor
  refine c4_ok (brF rfl (c5_ok (brT rfl (brT eI (c6_ok (brF (by simp) (c7_ok (brT eO (c8_gen (brF (by simp) (c10_ok (brT eO (c11_ok (c9_same (Nat.le_trans reads_len (by decide)) (brF rfl (c12_ok (brT rfl (brT eI (c13_ok (brF (by simp) (c14_gen hR hW (c15_gen hR hW hn (brF (by simp) ?_)))))))))))))))))))))))
  refine brE (fun e => c16_ok (oc_of ?_)) fun e => ?_
  · exact j3r10_ok hR hW hn hk (by rw [if_pos e])
  · exact j3r10_ok hR hW hn hk (by rw [if_neg e])
end Go.Proofs.Ytomgefbhmpeabaa
