/- The law PipePlays, in plain Lean. -/
import Derived.Test.YtfheeikjlehikaaAPT
set_option linter.unusedVariables false
set_option linter.unusedSimpArgs false
namespace Go.Proofs.Ytfheeikjlehikaa
open Go.Abs

theorem eI {a : Int} : eqT (.int .i64) a a = true := eqT_self (.int .i64) a
theorem eR {R : List Int} : eqT (.arr 16 (.int .i64)) R R = true := eqT_self (.arr 16 (.int .i64)) R
theorem eQ4 {a b c : Int} {R : List Int} : ((eqT (.int .i64) a a) && ((eqT (.int .i64) b b) && ((eqT (.int .i64) c c) && ((eqT (.arr 16 (.int .i64)) R R) && true)))) = true := by rw [eI, eI, eI, eR]; rfl
theorem eQ6 {a b c d e : Int} {R : List Int} : (((eqT (.int .i64) a a) && ((eqT (.int .i64) b b) && ((eqT (.int .i64) c c) && ((eqT (.arr 16 (.int .i64)) R R) && true)))) && ((eqT (.int .i64) d d) && ((eqT (.int .i64) e e) && true))) = true := by rw [eQ4, eI, eI]; rfl
abbrev opT1 : Ty := .pair (.int .i64) (.pair (.int .i64) (.pair (.int .i64) (.pair (.int .i64) (.pair (.int .i64) .unit))))

theorem c36_ok {x : OP} {extra n d f c M : Int} {R : List Int} {L : Nat} (hs : St (n, d, f, R, [], ()) M L) (hL : L ≤ 10000) (hM : M ≤ 3000000000000) {k1 : Int → Int → Int → Int → Int → List Int → Int → Prop} {k2 : Int → Int → Int → Int → Int → List Int → Int → List Int → Prop}
    (he : isErr x extra = 0) (h2 : ∀ t, newSt (n, d, f, R, [], ()) x extra = t → k2 (atOf (n, d, f, R, [], ()) x (lat x.1 + extra)) 0 t.1 t.2.1 t.2.2.1 t.2.2.2.1 (IntKind.wrap .i64 (c + 1)) t.2.2.2.2.1) : c36 x extra n d f R c k1 k2 := by
  constructor
  refine ⟨c102_ok hs hL hM (fun e => absurd he e) fun _ t ht => ?_, ?_⟩
  · exact brT eQ6 (brT eQ4 (brT eI (brT eI (brT eI (brT eI (brF rfl (h2 t ht)))))))
  · refine brT rfl (brT rfl (brT rfl (brT eQ4 (brT (eqT_self opT1 _) (brT eI (c102_ok hs hL hM (fun e => absurd he e) fun _ t ht => ?_))))))
    exact brT eI (brT eI (brF rfl (h2 t ht)))
theorem c36v2_ok {x : OP} {extra n d f c M : Int} {R W : List Int} {L : Nat} (hs : St (n, d, f, R, W, ()) M L) (hL : L ≤ 10000) (hM : M ≤ 3000000000000) {k1 : Int → Int → Int → Int → Int → List Int → Int → List Int → Prop} {k2 : Int → Int → Int → Int → Int → List Int → Int → List Int → List Int → Prop}
    (h1 : isErr x extra ≠ 0 → k1 0 (isErr x extra) n d f R c W)
    (h2 : isErr x extra = 0 → ∀ t, newSt (n, d, f, R, W, ()) x extra = t → k2 (atOf (n, d, f, R, W, ()) x (lat x.1 + extra)) 0 t.1 t.2.1 t.2.2.1 t.2.2.2.1 (IntKind.wrap .i64 (c + 1)) W t.2.2.2.2.1) : c36v2 x extra n d f R c W k1 k2 := by
  constructor
  refine ⟨c102v2_ok hs hL hM (fun e => ?_) fun e t ht => ?_, ?_⟩
  · exact brT eQ6 (brT eQ4 (brT eI (brT eI (brT eI (brT eI (brT (by simpa using e) (h1 e)))))))
  · exact brT eQ6 (brT eQ4 (brT eI (brT eI (brT eI (brT eI (brF rfl (h2 e t ht)))))))
  · refine brT rfl (brT rfl (brT rfl (brT eQ4 (brT (eqT_self opT1 _) (brT eI (c102v2_ok hs hL hM (fun e => ?_) fun e t ht => ?_))))))
    · exact brT eI (brT eI (brT (by simpa using e) (h1 e)))
    · exact brT eI (brT eI (brF rfl (h2 e t ht)))

/-- a pipeline that waits -/
def delaySt (s : TS) (n : Int) : TS := (s.1 + n, s.2.1, maxI s.2.2.1 (s.1 + n), s.2.2.2.1, live s.2.2.2.2.1 (s.1 + n), ())
theorem St.delay {s : TS} {n M : Int} {L : Nat} (hs : St s M L) (h0 : 0 ≤ n) (h1 : n ≤ 100) : St (delaySt s n) (M + 100) L := by
  have n0 := hs.n0
  have n1 := hs.n1
  have d1 := hs.d1
  have f1 := hs.f1
  have f0 := hs.f0
  unfold delaySt
  refine ⟨by dsimp only; omega, by dsimp only; omega, hs.d0, by dsimp only; omega, ?_, ?_, hs.rl, fun r hr => ?_, fun w hw => ?_, live_pw hs.ws, Nat.le_trans live_len hs.wl⟩
  · exact Int.le_trans f0 le_maxI.1
  · exact maxI_le (by omega) (by omega)
  · have := hs.r0 r hr; omega
  · have hw2 := List.mem_filter.1 hw
    have := (hs.w0 w hw2.1).2
    have h3 : s.1 + n ≤ w := by simpa using hw2.2
    dsimp only
    omega
theorem St.mono {s : TS} {M M' : Int} {L L' : Nat} (hs : St s M L) (h : M ≤ M') (hL : L ≤ L') : St s M' L' :=
  ⟨hs.n0, Int.le_trans hs.n1 h, hs.d0, Int.le_trans hs.d1 h, hs.f0, Int.le_trans hs.f1 h, hs.rl, fun r hr => ⟨(hs.r0 r hr).1, Int.le_trans (hs.r0 r hr).2 h⟩, fun w hw => ⟨(hs.w0 w hw).1, Int.le_trans (hs.w0 w hw).2 h⟩, hs.ws, Nat.le_trans hs.wl hL⟩

theorem l39r7_ok {W : List Int} (hl : W.length ≤ 1000000) {n d f c : Int} {R : List Int} {k : Int → Int → Int → List Int → Int → List Int → List Int → Prop} (h : k n d f R c W (live W n)) : l39r7 k (W.length : Int) 0 n d f R c W [] := by
  constructor
  intro I hI
  have key := upInd (N := W.length) (M := fun j => I (W.length : Int) (j : Int) n d f R c W (live (W.take j) n))
    (by apply hI; rw [List.take_length]; exact brDn (by omega) h)
    (by
      intro j hj ih
      apply hI
      have hn := live_len (W := W.take j) (n := n)
      rw [List.length_take] at hn
      rw [live_snoc hj] at ih
      rw [wrapS (by omega), Int.toNat_natCast]
      refine brD (by omega) (brD (by omega) (needNth hj (brP (fun e => brT (roomS (by omega)) ?_) fun e => ?_)))
      · rw [if_pos e] at ih; exact ih
      · rw [if_neg e, List.append_nil] at ih; exact ih)
    0 (Nat.zero_le _)
  exact key
theorem c39_ok {n d f c v M : Int} {R W : List Int} {L : Nat} (hs : St (n, d, f, R, W, ()) M L) (hL : L ≤ 10000) (hM : M ≤ 3000000000000) {k1 : Int → Int → Int → Int → List Int → Int → List Int → Prop} {k2 : Int → Int → Int → Int → List Int → Int → List Int → List Int → Prop}
    (h1 : (v < 0 ∨ 100 < v) → k1 4 n d f R c W) (h2 : 0 ≤ v → v ≤ 100 → ∀ t, delaySt (n, d, f, R, W, ()) v = t → k2 0 t.1 t.2.1 t.2.2.1 t.2.2.2.1 c W t.2.2.2.2.1) : c39 v n d f R c W k1 k2 := by
  have n0 : 0 ≤ n := hs.n0
  have n1 : n ≤ M := hs.n1
  have hwl : W.length ≤ L := hs.wl
  constructor
  refine brP (fun e => h1 (.inl e)) fun e1 => brP (fun e => h1 (.inr (by omega))) fun e2 => ?_
  rw [wrap64 (a := n + v) (by omega) (by omega)]
  exact l39r7_ok (by omega) (h2 (by omega) (by omega) _ rfl)
theorem l40r5_ok {W : List Int} (hl : W.length ≤ 1000000) {n d f u v w : Int} {R P Q : List Int} {k : List Int → Int → Int → Int → List Int → Int → Int → Int → List Int → List Int → List Int → Prop} (h : k W n d f R u v w P Q (live W n)) : l40r5 k (W.length : Int) 0 W n d f R u v w P Q [] := by
  constructor
  intro I hI
  have key := upInd (N := W.length) (M := fun j => I (W.length : Int) (j : Int) W n d f R u v w P Q (live (W.take j) n))
    (by apply hI; rw [List.take_length]; exact brDn (by omega) h)
    (by
      intro j hj ih
      apply hI
      have hn := live_len (W := W.take j) (n := n)
      rw [List.length_take] at hn
      rw [live_snoc hj] at ih
      rw [wrapS (by omega), Int.toNat_natCast]
      refine brD (by omega) (brD (by omega) (needNth hj (brP (fun e => brT (roomS (by omega)) ?_) fun e => ?_)))
      · rw [if_pos e] at ih; exact ih
      · rw [if_neg e, List.append_nil] at ih; exact ih)
    0 (Nat.zero_le _)
  exact key
theorem c40_ok {n d f v M : Int} {R W : List Int} {L : Nat} (hs : St (n, d, f, R, W, ()) M L) (hL : L ≤ 10000) (hM : M ≤ 3000000000000) (h0 : 0 ≤ v) (h100 : v ≤ 100) {k : Int → Int → Int → List Int → List Int → List Int → Prop}
    (h : ∀ t, delaySt (n, d, f, R, W, ()) v = t → k t.1 t.2.1 t.2.2.1 t.2.2.2.1 W t.2.2.2.2.1) : c40 n d f R v W k := by
  have n0 : 0 ≤ n := hs.n0
  have n1 : n ≤ M := hs.n1
  have hwl : W.length ≤ L := hs.wl
  constructor
  unfold tc40
  rw [wrap64 (a := n + v) (by omega) (by omega)]
  exact l40r5_ok (by omega) (h _ rfl)

abbrev K2 := List Int → List Int → Int → List OP → Int → Int → Int → Int → Int → List Int → Int → List Int → Int → Int → Int → List Int → List Int → Prop

theorem j6r33_ok {k1 : Bool → Prop} {k2 : K2} {ex de : List Int} {c u v : Int} {l : List OP} {n d f : Int} {R W : List Int} (h : k2 ex de c l u v n d f R c W n d f R W) : j6r33 k1 k2 ex de c l u v n d f R c W n d f R W := by
  constructor
  refine ⟨?_⟩
  refine brT rfl (brT eI (brF (by simp) ⟨?_⟩))
  exact brT eI (brF (by simp) h)

theorem j6r25_ok {k1 : Bool → Prop} {k2 : K2} {ex de : List Int} {c u : Int} {i : Nat} {l : List OP} {n d f M : Int} {R W : List Int} {L : Nat} (hs : St (n, d, f, R, W, ()) M L) (hL : L ≤ 10000) (hM : M ≤ 2000000000000)
    (h : ∀ t, St t (M + 100) L → k2 ex de c l u (i : Int) t.1 t.2.1 t.2.2.1 t.2.2.2.1 c t.2.2.2.2.1 t.1 t.2.1 t.2.2.1 t.2.2.2.1 t.2.2.2.2.1) : j6r25 k1 k2 ex de c (i : Int) l u (i : Int) n d f R c W n d f R W := by
  have hs0 := hs.mono (M' := M + 100) (by omega) (Nat.le_refl _)
  constructor
  refine brP (fun e => ?_) fun e => j6r33_ok (h _ hs0)
  have hi : i < de.length := by omega
  refine needAt hi ?_
  by_cases h0 : de[i] < 0
  · refine brD h0 (needAt hi (c39_ok hs hL (by omega) (fun _ => brF rfl (j6r33_ok (h _ hs0))) fun q _ => by omega))
  · refine brDn h0 (needAt hi ?_)
    by_cases h1 : de[i] > 100
    · refine brD h1 (needAt hi (c39_ok hs hL (by omega) (fun _ => brF rfl (j6r33_ok (h _ hs0))) fun _ q => by omega))
    · refine brDn h1 (needAt hi (c39_ok hs hL (by omega) (fun q => by omega) fun q1 q2 t ht => brF rfl (needAt hi (c40_ok hs hL (by omega) q1 q2 fun t2 ht2 => ?_))))
      have : t2 = t := by rw [← ht, ← ht2]
      subst this
      exact j6r33_ok (h _ (ht ▸ hs.delay q1 q2))

theorem j6r19_err {k1 : Bool → Prop} {k2 : K2} {ex de : List Int} {c u v want at_ : Int} {i : Nat} {l : List OP} {x : OP} {n d f M : Int} {R W : List Int} {L : Nat} (hs : St (n, d, f, R, W, ()) M L) (hL : L ≤ 10000) (hM : M ≤ 2000000000000) (hw : want ≠ 0)
    (h : ∀ t, St t (M + 100) L → k2 ex de c l u (i : Int) t.1 t.2.1 t.2.2.1 t.2.2.2.1 c t.2.2.2.2.1 t.1 t.2.1 t.2.2.1 t.2.2.2.1 t.2.2.2.2.1) : j6r19 k1 k2 ex de c (i : Int) v want at_ l u (i : Int) n d f R c W n d f R W x := by
  constructor
  exact brF (beq_eq_false_iff_ne.2 hw) (j6r25_ok hs hL hM h)

theorem j6r16_ok {k1 : Bool → Prop} {k2 : K2} {ex de : List Int} {u extra : Int} {c i : Nat} {l : List OP} {x : OP} {n d f M : Int} {R W : List Int} {L : Nat} (hs : St (n, d, f, R, W, ()) M L) (hL : L ≤ 9000) (hM : M ≤ 1000000000000) (hc : c ≤ 1000000)
    (h : ∀ t (c' : Nat), c' ≤ c + 1 → St t (M + 40100) (L + 1) → k2 ex de (c' : Int) l u (i : Int) t.1 t.2.1 t.2.2.1 t.2.2.2.1 (c' : Int) t.2.2.2.2.1 t.1 t.2.1 t.2.2.1 t.2.2.2.1 t.2.2.2.2.1) :
    j6r16 k1 k2 ex de (c : Int) (i : Int) extra (isErr x extra) l u (i : Int) n d f R (c : Int) W n d f R W x := by
  constructor
  refine c36v2_ok hs (by omega) (by omega) (fun e => ?_) fun e t ht => ?_
  · refine brF (by simp) (brT (by simpa using e) (brF rfl (j6r19_err hs (by omega) (by omega) e fun t ht => h t c (by omega) (ht.mono (by omega) (by omega)))))
  · rw [e]
    refine brF rfl (brF rfl ⟨?_⟩)
    refine brT rfl (c38_ok hs (by omega) (by omega) e fun t2 ht2 => ?_)
    have : t2 = t := by rw [← ht, ← ht2]
    subst this
    obtain ⟨g1, g2⟩ := isErr_good e
    have hx := (oErr_good g1).2
    have hs2 : St t2 (M + 40000) (L + 1) := ht ▸ hs.new (by omega) hx g2
    refine brF (by simp) ?_
    rw [wrapS (by omega)]
    exact j6r25_ok (n := t2.1) (d := t2.2.1) (f := t2.2.2.1) (R := t2.2.2.2.1) (W := t2.2.2.2.2.1) (M := M + 40000) (L := L + 1) hs2 (by omega) (by omega) fun t3 ht3 => h t3 (c + 1) (Nat.le_refl _) (ht3.mono (by omega) (by omega))

theorem j6r13_ok {k1 : Bool → Prop} {k2 : K2} {ex de : List Int} {u extra : Int} {c i : Nat} {l : List OP} {x : OP} {n d f M : Int} {R W : List Int} {L : Nat} (hs : St (n, d, f, R, W, ()) M L) (hL : L ≤ 9000) (hM : M ≤ 1000000000000) (hc : c ≤ 1000000)
    (h : ∀ t (c' : Nat), c' ≤ c + 1 → St t (M + 40100) (L + 1) → k2 ex de (c' : Int) l u (i : Int) t.1 t.2.1 t.2.2.1 t.2.2.2.1 (c' : Int) t.2.2.2.2.1 t.1 t.2.1 t.2.2.1 t.2.2.2.1 t.2.2.2.2.1) :
    j6r13 k1 k2 ex de (c : Int) (i : Int) extra l u (i : Int) n d f R (c : Int) W n d f R W x := by
  have hj := j6r16_ok (k1 := k1) (x := x) (extra := extra) hs hL hM hc h
  constructor
  refine c37_ok (oc_of (brE (fun e => ?_) fun e => ?_))
  · refine brP (fun e2 => ?_) fun e2 => brP (fun e3 => ?_) fun e3 => ?_
    · rw [show isErr x extra = 1 by unfold isErr; rw [if_neg (fun h => h e), if_pos (.inl e2)]] at hj; exact hj
    · rw [show isErr x extra = 1 by unfold isErr; rw [if_neg (fun h => h e), if_pos (.inr (by omega))]] at hj; exact hj
    · rw [show isErr x extra = 0 by unfold isErr; rw [if_neg (fun h => h e), if_neg (by omega)]] at hj
      rw [e]; exact hj
  · rw [show isErr x extra = oErr x by unfold isErr; rw [if_pos e]] at hj; exact hj

theorem l6r8_ok {ex de : List Int} {l : List OP} (hl : l.length ≤ 60) {k1 : Bool → Prop} {k2 : Prop} (h : k2) {R : List Int} (hR : R = [0, 0, 0, 0, 0, 0, 0, 0, 0, 0, 0, 0, 0, 0, 0, 0]) {t : TS} (ht : St t 40000 1) {c : Nat} (hc : c ≤ 1) :
    l6r8 k1 k2 ex de (c : Int) l (l.length : Int) 0 t.1 t.2.1 t.2.2.1 t.2.2.2.1 (c : Int) t.2.2.2.2.1 t.1 t.2.1 t.2.2.1 t.2.2.2.1 t.2.2.2.2.1 := by
  constructor
  intro I hI
  have key := upInd (N := l.length) (M := fun i => ∀ (t : TS) (c : Nat), c ≤ i + 1 → St t (40100 * ((i : Int) + 1)) (i + 1) → I ex de (c : Int) l (l.length : Int) (i : Int) t.1 t.2.1 t.2.2.1 t.2.2.2.1 (c : Int) t.2.2.2.2.1 t.1 t.2.1 t.2.2.1 t.2.2.2.1 t.2.2.2.2.1)
    (fun t c _ _ => hI _ _ _ _ _ _ _ _ _ _ _ _ _ _ _ _ _ (brDn (by omega) h))
    (fun i hi ih t c hc ht => by
      apply hI
      have hk : ∀ (t' : TS) (c' : Nat), c' ≤ c + 1 → St t' (40100 * ((i : Int) + 1) + 40100) (i + 1 + 1) → I ex de (c' : Int) l (l.length : Int) (IntKind.wrap .i64 ((i : Int) + 1)) t'.1 t'.2.1 t'.2.2.1 t'.2.2.2.1 (c' : Int) t'.2.2.2.2.1 t'.1 t'.2.1 t'.2.2.1 t'.2.2.2.1 t'.2.2.2.2.1 := fun t' c' h1 h2 => by
        rw [wrapS (by omega)]
        exact ih t' c' (by omega) (h2.mono (by push_cast; omega) (by omega))
      refine brD (by omega) (needAt hi (brP (fun e => needAt (by omega) ?_) fun e => ?_))
      · exact j6r13_ok (n := t.1) (d := t.2.1) (f := t.2.2.1) (R := t.2.2.2.1) (W := t.2.2.2.2.1) (M := 40100 * ((i : Int) + 1)) (L := i + 1) ht (by omega) (by omega) (by omega) hk
      · exact j6r13_ok (n := t.1) (d := t.2.1) (f := t.2.2.1) (R := t.2.2.2.1) (W := t.2.2.2.2.1) (M := 40100 * ((i : Int) + 1)) (L := i + 1) ht (by omega) (by omega) (by omega) hk)
    0 (Nat.zero_le _)
  exact key t c (by omega) (ht.mono (by omega) (by omega))

theorem zero_st : St (0, 0, 0, [0, 0, 0, 0, 0, 0, 0, 0, 0, 0, 0, 0, 0, 0, 0, 0], [], ()) 0 0 := by
  refine ⟨by decide, by decide, by decide, by decide, by decide, by decide, rfl, fun r hr => ?_, fun w hw => (by cases hw), .nil, Nat.le_refl _⟩
  have : r = 0 := by simpa using hr
  omega
theorem isErr_add : isErr (1, 1, 0, 0, 0, ()) 0 = 0 := by
  have h : oErr (1, 1, 0, 0, 0, ()) = 0 := by
    unfold oErr
    rw [if_neg (by decide), if_neg (by unfold orbad; decide), if_neg, if_neg (by unfold otbad olow ohigh; decide)]
    unfold ofbad
    rw [show oshp (1, 1, 0, 0, 0, ()).1 = (true, true, true, false, ()) from rfl]
    decide
  unfold isErr
  rw [if_neg (fun q => q h), if_neg (by decide)]
theorem at_add : atOf (0, 0, 0, [0, 0, 0, 0, 0, 0, 0, 0, 0, 0, 0, 0, 0, 0, 0, 0], [], ()) (1, 1, 0, 0, 0, ()) (lat (1, 1, 0, 0, 0, ()).1 + 0) = 0 := by
  have h := atOf_ge (s := (0, 0, 0, [0, 0, 0, 0, 0, 0, 0, 0, 0, 0, 0, 0, 0, 0, 0, 0], [], ())) (x := (1, 1, 0, 0, 0, ())) (l := lat (1, 1, 0, 0, 0, ()).1 + 0)
  have hb : base (0, 0, 0, [0, 0, 0, 0, 0, 0, 0, 0, 0, 0, 0, 0, 0, 0, 0, 0], [], ()) (1, 1, 0, 0, 0, ()) (lat (1, 1, 0, 0, 0, ()).1 + 0) = 0 := by decide
  rw [hb] at h
  have h2 : atOf (0, 0, 0, [0, 0, 0, 0, 0, 0, 0, 0, 0, 0, 0, 0, 0, 0, 0, 0], [], ()) (1, 1, 0, 0, 0, ()) (lat (1, 1, 0, 0, 0, ()).1 + 0) ≤ 0 + ((0 : Nat) : Int) := h.2
  omega

theorem law6 {l : List OP} {ex de : List Int} (g1 : Go.Abs.Good (.sl (.pair (.int .i64) (.pair (.int .i64) (.pair (.int .i64) (.pair (.int .i64) (.pair (.int .i64) .unit)))))) l) (g2 : Go.Abs.Good (.sl (.int .i64)) ex) (g3 : Go.Abs.Good (.sl (.int .i64)) de) {k : Bool → Prop} (hk : k true) : c6 l ex de k := by
  constructor
  constructor
  constructor
  constructor
  refine c36_ok zero_st (by decide) (by decide) isErr_add fun t ht => brF rfl (brF (by rw [at_add]; rfl) ?_)
  have hmin : minI ((l.length : Nat) : Int) 60 = ((min l.length 60 : Nat) : Int) := by unfold minI; split <;> omega
  rw [hmin, Int.toNat_natCast, List.drop_zero]
  have hl : (l.take (min l.length 60)).length ≤ 60 := by rw [List.length_take]; omega
  refine brD (by omega) ?_
  exact l6r8_ok hl hk rfl (t := (0, 0, 0, [0, 0, 0, 0, 0, 0, 0, 0, 0, 0, 0, 0, 0, 0, 0, 0], [], ())) (zero_st.mono (by decide) (by decide)) (c := 0) (by decide)
end Go.Proofs.Ytfheeikjlehikaa
