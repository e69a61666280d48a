/- The law of 'PredictPlays', in plain Lean. -/
import Derived.Test.YtfdoaacapkopmaaAD3
import Derived.Test.YtfdoaacapkopmaaAPKit2
import Derived.Test.YtfdoaacapkopmaaARow1
set_option linter.unusedVariables false
set_option linter.unusedSimpArgs false
namespace Go.Proofs.Ytfdoaacapkopmaa
open Go.Abs

def val (p : Int) : Bool := decide (0 ≤ p) && decide (p < 16384)
def step (c : Int) (b : Bool) : Int := if b then (if c < 3 then c + 1 else c) else (if c > 0 then c - 1 else c)
def ctr (l : List Bool) : Int := l.foldl step 1
def pick (e j : Int) (p : Int × Bool) : Option Bool := if val p.1 && (p.1.tmod e == j) then some p.2 else none
def hist (e j : Int) (ps : List Int) (ts : List Bool) (n : Nat) : List Bool := ((ps.zip ts).take n).filterMap (pick e j)

theorem step_rng {c : Int} {b : Bool} (h : 0 ≤ c ∧ c ≤ 3) : 0 ≤ step c b ∧ step c b ≤ 3 := by
  unfold step
  cases b <;> simp only [Bool.false_eq_true, if_true, if_false] <;> split <;> omega
theorem ctr_rng (l : List Bool) : 0 ≤ ctr l ∧ ctr l ≤ 3 := by
  have : ∀ (l : List Bool) (c : Int), 0 ≤ c ∧ c ≤ 3 → 0 ≤ l.foldl step c ∧ l.foldl step c ≤ 3 := by
    intro l
    induction l with
    | nil => intro c h; exact h
    | cons b r ih => intro c h; exact ih _ (step_rng h)
  exact this l 1 (by omega)
theorem ctr_snoc (l : List Bool) (b : Bool) : ctr (l ++ [b]) = step (ctr l) b := by
  unfold ctr; rw [List.foldl_append]; rfl

theorem hist_zero {e j : Int} {ps : List Int} {ts : List Bool} : hist e j ps ts 0 = [] := rfl
theorem hist_succ {e j : Int} {ps : List Int} {ts : List Bool} {n : Nat} (h1 : n < ps.length) (h2 : n < ts.length) :
    hist e j ps ts (n + 1) = hist e j ps ts n ++ (pick e j (ps[n], ts[n])).toList := by
  unfold hist
  have hn : n < (ps.zip ts).length := by rw [List.length_zip]; omega
  rw [List.take_add_one, List.getElem?_eq_getElem hn, List.filterMap_append, List.getElem_zip]
  congr 1
theorem hist_len {e j : Int} {ps : List Int} {ts : List Bool} (n : Nat) : (hist e j ps ts n).length ≤ n := by
  unfold hist
  refine Nat.le_trans (List.length_filterMap_le _ _) ?_
  rw [List.length_take]; omega

theorem l15_ok {k : Int → List Int → Prop} {w : Int} {N : Nat} (hN : N ≤ 1024) (h : k w (List.replicate N 1)) : l15r5 k (N : Int) 0 w (List.replicate N 0) := by
  constructor
  intro I hI
  have key : ∀ n (i : Nat), n + i = N → I (N : Int) (i : Int) w (List.replicate i 1 ++ List.replicate n 0) := by
    intro n
    induction n with
    | zero =>
      intro i hi
      apply hI
      refine brDn (by omega) ?_
      have : i = N := by omega
      subst this
      simpa using h
    | succ n ih =>
      intro i hi
      apply hI
      have hl : (List.replicate i (1 : Int) ++ List.replicate (n + 1) 0).length = N := by simp; omega
      refine brD (by omega) (brD (by rw [hl]; omega) ?_)
      rw [Int.toNat_natCast]
      refine needNth (by rw [hl]; omega) ?_
      have hs : (List.replicate i (1 : Int) ++ List.replicate (n + 1) 0).set i 1 = List.replicate (i + 1) 1 ++ List.replicate n 0 := by
        rw [List.set_append_right _ _ (by simp), List.length_replicate, Nat.sub_self, List.replicate_succ, List.set_cons_zero, List.replicate_succ', List.append_assoc]
        rfl
      rw [hs, wrapS (by omega)]
      exact ih (i + 1) (by omega)
  exact key N 0 (by omega)

theorem c15_ok {x : Int} {k1 : Unit → Int → Prop} {k2 : Int → Int → List Int → Prop} (h1 : ¬(1 ≤ x ∧ x ≤ 1024) → k1 () 4) (h2 : 1 ≤ x → x ≤ 1024 → k2 0 0 (List.replicate x.toNat 1)) : c15 x k1 k2 := by
  constructor
  unfold tc15
  refine brP (fun h => h1 (by omega)) fun h => brP (fun h => h1 (by omega)) fun h' => brD (by omega) ?_
  have : x = ((x.toNat : Nat) : Int) := by omega
  rw [List.length_replicate]
  exact l15_ok (by omega) (h2 (by omega) (by omega))

theorem c16_ok {p w : Int} {cs : List Int} {k : Bool → Int → Int → List Int → Prop} (hc : cs ≠ []) (h1 : val p = false → k false 4 w cs)
    (h2 : val p = true → ∀ (c : Int), cs[(p.tmod cs.length).toNat]? = some c → k (decide (c ≥ 2)) 0 w cs) : c16 p w cs k := by
  constructor
  unfold tc16
  have hl : 0 < cs.length := List.length_pos_iff.2 hc
  refine brP (fun h => h1 (by simp [val]; omega)) fun h => brP (fun h => h1 (by simp [val]; omega)) fun h' => brF (by rw [beq_eq_false_iff_ne]; omega) ?_
  have hm : 0 ≤ p.tmod cs.length ∧ p.tmod cs.length < cs.length := ⟨Int.tmod_nonneg _ (by omega), Int.tmod_lt_of_pos _ (by omega)⟩
  refine brD hm ?_
  have hi : (p.tmod cs.length).toNat < cs.length := by omega
  refine needNth hi ?_
  exact h2 (by simp [val]; omega) _ (List.getElem?_eq_getElem hi)

theorem c17_ok {p w : Int} {t : Bool} {cs : List Int} {k : Bool → Int → Int → List Int → Prop} (hc : cs ≠ []) (hw : 0 ≤ w ∧ w ≤ 1000) (h1 : val p = false → k false 4 w cs)
    (h2 : val p = true → ∀ (c : Int), cs[(p.tmod cs.length).toNat]? = some c → 0 ≤ c ∧ c ≤ 3 → k (decide (c ≥ 2) != t) 0 (if (decide (c ≥ 2) != t) = true then w + 1 else w) (cs.set (p.tmod cs.length).toNat (step c t)))
    (hr : ∀ c ∈ cs, 0 ≤ c ∧ c ≤ 3) : c17 p t w cs k := by
  constructor
  unfold tc17
  refine c16_ok hc (fun hv => brT rfl (h1 hv)) fun hv c hcs => ?_
  have hl : 0 < cs.length := List.length_pos_iff.2 hc
  have hp : 0 ≤ p := by simp [val] at hv; omega
  have hm : 0 ≤ p.tmod cs.length ∧ p.tmod cs.length < cs.length := ⟨Int.tmod_nonneg _ (by omega), Int.tmod_lt_of_pos _ (by omega)⟩
  have hcr := hr c (List.mem_of_getElem? hcs)
  have h2 := h2 hv c hcs hcr
  refine brF rfl (brF (by rw [beq_eq_false_iff_ne]; omega) (brD hm ?_))
  have w1 : IntKind.wrap .i64 (c + 1) = c + 1 := wrap64 (by omega) (by omega)
  have w2 : IntKind.wrap .i64 (c - 1) = c - 1 := wrap64 (by omega) (by omega)
  have w3 : IntKind.wrap .i64 (w + 1) = w + 1 := wrap64 (by omega) (by omega)
  have m1 : minI (c + 1) 3 = step c true := by unfold minI step; simp only [if_true]; split <;> split <;> omega
  have m2 : maxI (c - 1) 0 = step c false := by unfold maxI step; simp only [Bool.false_eq_true, if_false]; split <;> split <;> omega
  refine brB (fun ht => ?_) (fun ht => ?_)
  all_goals
    subst ht
    refine needS hcs (needS hcs ?_)
    simp only [w1, w2, w3, m1, m2, bnot_beq] at *
    refine brB (fun hd => ?_) (fun hd => ?_)
    · rw [hd] at h2; rw [hd]; exact h2
    · rw [hd] at h2; rw [hd]; exact h2

theorem c18_ok {l : List Bool} {k : Int → Prop} (hl : l.length ≤ 1000) (h : k (ctr l)) : c18 l k := by
  constructor
  constructor
  intro I hI
  have key : ∀ n (i : Nat) (c : Int), n + i = l.length → 0 ≤ c ∧ c ≤ 3 → (l.drop i).foldl step c = ctr l → I c l (l.length : Int) (i : Int) := by
    intro n
    induction n with
    | zero =>
      intro i c hi hc he
      apply hI
      refine brDn (by omega) ?_
      have : i = l.length := by omega
      subst this
      simp only [List.drop_length, List.foldl_nil] at he
      rw [he]; exact h
    | succ n ih =>
      intro i c hi hc he
      have hil : i < l.length := by omega
      apply hI
      refine brD (by omega) (needAt hil ?_)
      rw [List.drop_eq_getElem_cons hil, List.foldl_cons] at he
      have w1 : IntKind.wrap .i64 (c + 1) = c + 1 := wrap64 (by omega) (by omega)
      have w2 : IntKind.wrap .i64 (c - 1) = c - 1 := wrap64 (by omega) (by omega)
      rw [wrapS (by omega), w1, w2]
      have fin : I (step c l[i]) l (l.length : Int) ((i + 1 : Nat) : Int) := ih (i + 1) _ (by omega) (step_rng hc) he
      revert fin
      generalize l[i] = b
      intro fin
      unfold step at fin
      cases b with
      | true =>
        refine brT rfl ?_
        simp only [if_true] at fin
        refine brP (fun h3 => ?_) (fun h3 => ?_)
        · rw [if_pos h3] at fin; exact brF rfl fin
        · rw [if_neg h3] at fin; exact brF rfl fin
      | false =>
        refine brF rfl (brT rfl ?_)
        simp only [Bool.false_eq_true, if_false] at fin
        refine brP (fun h3 => ?_) (fun h3 => ?_)
        · rw [if_pos h3] at fin; exact fin
        · rw [if_neg h3] at fin; exact fin
  exact key l.length 0 1 (by omega) (by omega) (by simp [ctr])

theorem l3r20_ok {k : Int → List Int → List Bool → Int → Int → Bool → Int → Bool → Int → Int → List Int → List Bool → Prop} {e w x9 : Int} {ps : List Int} {ts : List Bool} {N : Nat} {a6 a8 : Bool} {a7 a9 : Int} {cs : List Int}
    (he : e ≠ 0) (hN : N ≤ 60) (h1 : N < ps.length) (h2 : N < ts.length)
    (h : k e ps ts w (N : Int) a6 a7 a8 a9 x9 cs (hist e (ps[N].tmod e) ps ts N)) : l3r20 k e ps ts w (N : Int) a6 a7 a8 a9 (N : Int) 0 x9 cs [] := by
  constructor
  intro I hI
  have key : ∀ n (i : Nat), n + i = N → I e ps ts w (N : Int) a6 a7 a8 a9 (N : Int) (i : Int) x9 cs (hist e (ps[N].tmod e) ps ts i) := by
    intro n
    induction n with
    | zero =>
      intro i hi
      apply hI
      refine brDn (by omega) ?_
      have : i = N := by omega
      subst this
      exact h
    | succ n ih =>
      intro i hi
      apply hI
      have ih := ih (i + 1) (by omega)
      rw [hist_succ (by omega) (by omega)] at ih
      have hlen := hist_len (e := e) (j := ps[N].tmod e) (ps := ps) (ts := ts) i
      rw [wrapS (by omega)]
      refine brD (by omega) (needAt (by omega) (brP (fun hp => needAt (by omega) (brP (fun hp2 => needAt (by omega) (brF (by simp [he]) (needAt h1 (brF (by simp [he]) (brB (fun hq => ?_) fun hq => ?_))))) fun hp2 => ?_)) fun hp => ?_))
      · refine needAt (by omega) (brT (roomS (by omega)) ?_)
        have : pick e (ps[N].tmod e) (ps[i], ts[i]) = some ts[i] := by
          unfold pick; rw [if_pos]; simp only [Bool.and_eq_true]; exact ⟨by simp [val]; omega, hq⟩
        rw [this] at ih
        exact ih
      · have : pick e (ps[N].tmod e) (ps[i], ts[i]) = none := by
          unfold pick; rw [if_neg]; simp only [Bool.and_eq_true]; rintro ⟨_, h⟩; rw [hq] at h; cases h
        rw [this] at ih
        simpa using ih
      · have : pick e (ps[N].tmod e) (ps[i], ts[i]) = none := by
          unfold pick; rw [if_neg]; simp only [Bool.and_eq_true]; rintro ⟨h, _⟩; simp [val] at h; omega
        rw [this] at ih
        simpa using ih
      · have : pick e (ps[N].tmod e) (ps[i], ts[i]) = none := by
          unfold pick; rw [if_neg]; simp only [Bool.and_eq_true]; rintro ⟨h, _⟩; simp [val] at h; omega
        rw [this] at ih
        simpa using ih
  exact key N 0 (by omega)

/-- the counters after n branches -/
def Inv (E : Nat) (ps : List Int) (ts : List Bool) (n : Nat) (cs : List Int) : Prop := cs.length = E ∧ ∀ j : Nat, j < E → cs[j]? = some (ctr (hist (E : Int) (j : Int) ps ts n))

theorem inv_rng {E n : Nat} {ps : List Int} {ts : List Bool} {cs : List Int} (h : Inv E ps ts n cs) : ∀ c ∈ cs, 0 ≤ c ∧ c ≤ 3 := by
  intro c hc
  obtain ⟨j, hj, rfl⟩ := List.getElem_of_mem hc
  have := h.2 j (by rw [← h.1]; exact hj)
  rw [List.getElem?_eq_getElem hj] at this
  rw [Option.some.inj this]
  exact ctr_rng _

theorem inv_bad {E n : Nat} {ps : List Int} {ts : List Bool} {cs : List Int} (h : Inv E ps ts n cs) (h1 : n < ps.length) (h2 : n < ts.length) (hv : val ps[n] = false) : Inv E ps ts (n + 1) cs := by
  refine ⟨h.1, fun j hj => ?_⟩
  rw [h.2 j hj, hist_succ h1 h2]
  have : pick (E : Int) j (ps[n], ts[n]) = none := by unfold pick; rw [hv]; rfl
  rw [this]
  simp
theorem inv_good {E n : Nat} {ps : List Int} {ts : List Bool} {cs : List Int} (h : Inv E ps ts n cs) (h1 : n < ps.length) (h2 : n < ts.length) (hv : val ps[n] = true) {j : Nat} (hE : (ps[n].tmod E) = j) (hj : j < E) :
    Inv E ps ts (n + 1) (cs.set j (step (ctr (hist E j ps ts n)) ts[n])) := by
  refine ⟨by rw [List.length_set]; exact h.1, fun i hi => ?_⟩
  rw [hist_succ h1 h2]
  by_cases hij : j = i
  · subst hij
    have : pick (E : Int) j (ps[n], ts[n]) = some ts[n] := by unfold pick; rw [hv, hE]; simp
    rw [this, List.getElem?_set_self (by rw [h.1]; exact hj)]
    rw [← ctr_snoc]
    rfl
  · have : pick (E : Int) i (ps[n], ts[n]) = none := by
      unfold pick; rw [if_neg]; simp only [Bool.and_eq_true, beq_iff_eq]; rintro ⟨_, h⟩; rw [hE] at h; omega
    rw [this, List.getElem?_set_ne hij, h.2 i hi]
    simp

theorem l3r11_ok {k1 : Bool → Prop} {k2 : Prop} (hk : k2) {E : Nat} (hE : 1 ≤ E ∧ E ≤ 1024) {ps : List Int} {ts : List Bool} {cs : List Int} (hi : Inv E ps ts 0 cs) : l3r11 k1 k2 (E : Int) ps ts 0 0 0 cs := by
  constructor
  intro I hI
  have key : ∀ n (i : Nat) (w : Int) (cs : List Int), n + i = 60 → 0 ≤ w ∧ w ≤ i → Inv E ps ts i cs → I (E : Int) ps ts w (i : Int) w cs := by
    intro n
    induction n with
    | zero =>
      intro i w cs hi hw hv
      apply hI
      exact brP (fun _ => brP (fun _ => brP (fun _ => by omega) fun _ => hk) fun _ => hk) fun _ => hk
    | succ n ih =>
      intro i w cs hi hw hv
      apply hI
      have hcs : cs ≠ [] := fun e => by have := hv.1; rw [e] at this; simp at this; omega
      have hlen : (cs.length : Int) = E := by rw [hv.1]
      refine brP (fun h1 => brP (fun h2 => brP (fun _ => ?_) fun _ => hk) fun _ => hk) fun _ => hk
      have h1 : i < ps.length := by omega
      have h2 : i < ts.length := by omega
      rw [wrapS (by omega)]
      refine needAt h1 ?_
      cases hval : val ps[i] with
      | false =>
        have fin := ih (i + 1) w cs (by omega) (by omega) (inv_bad hv h1 h2 hval)
        refine c16_ok hcs (fun _ => ?_) (fun h => by rw [hval] at h; cases h)
        refine needAt h1 (needAt h2 (c17_ok hcs (by omega) (fun _ => ?_) (fun h => by rw [hval] at h; cases h) (inv_rng hv)))
        refine needAt h1 (brP (fun hp => ?_) fun hp => needAt h1 (brD ?_ ?_))
        · exact brF rfl (brF rfl (brF rfl (brF rfl fin)))
        · simp [val] at hval; omega
        · exact brF rfl (brF rfl (brF rfl (brF rfl fin)))
      | true =>
        have hp : 0 ≤ ps[i] ∧ ps[i] < 16384 := by simpa [val] using hval
        have hm : 0 ≤ ps[i].tmod E ∧ ps[i].tmod E < E := ⟨Int.tmod_nonneg _ (by omega), Int.tmod_lt_of_pos _ (by omega)⟩
        obtain ⟨j, hj⟩ := Int.eq_ofNat_of_zero_le hm.1
        have hjE : j < E := by omega
        have hcj := hv.2 j hjE
        refine c16_ok hcs (fun h => by rw [hval] at h; cases h) (fun _ c hc => ?_)
        rw [hlen, hj, Int.toNat_natCast, hcj] at hc
        cases hc
        refine needAt h1 (needAt h2 (c17_ok hcs (by omega) (fun h => by rw [hval] at h; cases h) (fun _ c hc hcr => ?_) (inv_rng hv)))
        rw [hlen, hj, Int.toNat_natCast, hcj] at hc
        cases hc
        rw [hlen, hj, Int.toNat_natCast]
        refine needAt h1 (brDn (by omega) (needAt h1 (brDn (by omega) ?_)))
        refine l3r20_ok (by omega) (by omega) h1 h2 ?_
        rw [hj]
        refine c18_ok (Nat.le_trans (hist_len i) (by omega)) (needAt h2 ?_)
        have hnext := inv_good hv h1 h2 hval hj hjE
        have fin := fun w' hw' => ih (i + 1) w' _ (by omega) hw' hnext
        generalize hd : decide (ctr (hist E j ps ts i) ≥ 2) = d at *
        generalize hst : cs.set j (step (ctr (hist E j ps ts i)) ts[i]) = cs' at *
        have wr : IntKind.wrap .i64 (w + 1) = w + 1 := wrap64 (by omega) (by omega)
        rw [wr]
        simp only [bnot_beq]
        refine brB (fun hdt => ?_) (fun hdt => ?_)
        · rw [if_pos hdt]
          refine brF rfl (brF rfl (brF (by simp) (needAt h2 (brF (by simp) ?_))))
          constructor
          unfold tc19
          refine brF (by simp) ?_
          rw [wrapS (by omega)]
          exact fin (w + 1) (by omega)
        · rw [if_neg (by rw [hdt]; decide)]
          refine brF rfl (brF rfl (brF (by simp) (needAt h2 (brF (by simp) ?_))))
          constructor
          unfold tc19
          refine brF (by simp) ?_
          rw [wrapS (by omega)]
          exact fin w (by omega)
  exact key 60 0 0 cs (by omega) (by omega) hi

theorem law3 {x1 : Int} {x2 : List Int} {x3 : List Bool} {k : Bool → Prop} (_ : Go.Abs.Good (.int .i64) x1) (_ : Go.Abs.Good (.sl (.int .i64)) x2) (_ : Go.Abs.Good (.sl .bool) x3) (h : k true) : c3 x1 x2 x3 k := by
  constructor
  refine c15_ok (fun hx => ⟨c15_ok (fun h => by omega) fun _ _ => ?_⟩) (fun h1 h2 => ⟨c15_ok (fun h => by omega) fun _ _ => ?_⟩)
  · refine brF rfl (brP (fun _ => brT rfl h) fun h1 => brP (fun _ => brT rfl h) fun h2 => by omega)
  · refine brF rfl (brDn (by omega) (brDn (by omega) (brF rfl ?_)))
    have e : x1 = ((x1.toNat : Nat) : Int) := by omega
    have key := l3r11_ok (k1 := fun z => k z) (k2 := k true) h (E := x1.toNat) (by omega) (ps := x2) (ts := x3) (cs := List.replicate x1.toNat 1) ⟨by simp, fun j hj => by simp [hj, hist_zero, ctr]⟩
    rw [← e] at key
    exact key
end Go.Proofs.Ytfdoaacapkopmaa
