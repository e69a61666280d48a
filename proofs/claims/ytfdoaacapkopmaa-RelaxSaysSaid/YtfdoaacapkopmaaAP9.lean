/- The law of 'RelaxSays', in plain Lean: the code. -/
import Derived.Test.YtfdoaacapkopmaaAP9a
set_option linter.unusedVariables false
set_option linter.unusedSimpArgs false
namespace Go.Proofs.Ytfdoaacapkopmaa
open Go.Abs

def mix {α : Type} (a b : List α) (i : Nat) : List α := a.take i ++ b.drop i
theorem mix_len {α : Type} {a b : List α} (h : a.length = b.length) {i : Nat} (hi : i ≤ a.length) : (mix a b i).length = b.length := by
  simp [mix]; omega
theorem mix_get {α : Type} {a b : List α} (h : a.length = b.length) {i : Nat} (hi : i < b.length) : (mix a b i)[i]? = b[i]? := by
  unfold mix
  rw [List.getElem?_append_right (by simp; omega)]
  simp [List.getElem?_drop, Nat.min_eq_left (by omega : i ≤ a.length)]
theorem mix_set {α : Type} {a b : List α} (h : a.length = b.length) {i : Nat} (hi : i < a.length) : (mix a b i).set i a[i] = mix a b (i + 1) := by
  unfold mix
  have hl : (a.take i).length = i := by simp; omega
  rw [List.set_append_right _ _ (by omega), hl, Nat.sub_self, drop_cons (by omega), List.set_cons_zero, List.take_succ_eq_append_getElem hi, List.append_assoc]
  rfl
theorem mix_same {α : Type} {a b : List α} (h : a.length = b.length) {i : Nat} (hi : i < a.length) (e : a[i] = b[i]'(by omega)) : mix a b i = mix a b (i + 1) := by
  rw [← mix_set h hi]
  have h1 := mix_get h (i := i) (by omega)
  have hml := mix_len h (i := i) (by omega)
  rw [List.getElem?_eq_getElem (by omega), List.getElem?_eq_getElem (by omega)] at h1
  have h1 := Option.some.inj h1
  rw [e, ← h1, List.set_getElem_self]
theorem mix_zero {α : Type} {a b : List α} : mix a b 0 = b := by simp [mix]
theorem mix_all {α : Type} {a b : List α} (h : a.length = b.length) : mix a b a.length = a := by
  unfold mix
  rw [List.take_length, List.drop_eq_nil_of_le (by omega), List.append_nil]

/-- which items are long in the code -/
def ls (l : LR) (all : Bool) (g : List Bool) : List Bool := (l.zip g).map fun p => p.2 || (all && decide (0 ≤ p.1.2.1))
theorem ls_len {l : LR} {all : Bool} {g : List Bool} (h : g.length = l.length) : (ls l all g).length = l.length := by simp [ls, h]
theorem ls_get {l : LR} {all : Bool} {g : List Bool} {i : Nat} (h : i < (ls l all g).length) (h1 : i < l.length) (h2 : i < g.length) : (ls l all g)[i] = (g[i] || (all && decide (0 ≤ l[i].2.1))) := by simp [ls]

theorem l49r5_ok {l : LR} {all : Bool} {g : List Bool} {k : LR → List Bool → Prop} (hl : l.length ≤ 1000) (hg : g.length = l.length) (h : k l (ls l all g)) : l49r5 k l all l (l.length : Int) 0 g := by
  constructor
  intro I hI
  have hL := ls_len (all := all) hg
  have key := upInd (N := l.length) (M := fun i => I l all l (l.length : Int) (i : Int) (mix (ls l all g) g i))
    (by
      apply hI
      refine brDn (by omega) ?_
      have : mix (ls l all g) g l.length = ls l all g := by rw [← hL]; exact mix_all (by omega)
      rw [this]; exact h)
    (by
      intro i hi ih
      apply hI
      have hm := mix_len (a := ls l all g) (b := g) (by omega) (i := i) (by omega)
      have hget : (mix (ls l all g) g i)[i]? = some (g[i]'(by omega)) := by rw [mix_get (by omega) (by omega), List.getElem?_eq_getElem]
      have hset := mix_set (a := ls l all g) (b := g) (by omega) (i := i) (by omega)
      rw [ls_get (by omega) hi (by omega)] at hset
      rw [wrapS (by omega), Int.toNat_natCast]
      refine brD (by omega) (needAt hi (brD (by omega) (needS hget (brB (fun e => ?_) fun e => brB (fun e2 => ?_) fun e2 => ?_))))
      · refine brD (by omega) (needS hget ?_)
        rw [e, Bool.true_or] at hset
        rw [hset]; exact ih
      · refine brD (by omega) (needS hget ?_)
        rw [show (g[i] || (all && decide (0 ≤ l[i].2.1))) = decide (l[i].2.1 ≥ 0) by rw [e, e2]; rfl] at hset
        rw [hset]; exact ih
      · refine brD (by omega) (needS hget ?_)
        rw [show (g[i] || (all && decide (0 ≤ l[i].2.1))) = false by rw [e, e2]; rfl] at hset
        rw [hset]; exact ih)
    0 (Nat.zero_le _)
  rw [mix_zero] at key
  exact key

theorem l53r3_ok {l : LR} {all : Bool} {g : List Bool} {k : LR → List Bool → Prop} (hl : l.length ≤ 1000) (hg : g.length = l.length) (h : k l (ls l all g)) : l53r3 k l all l (l.length : Int) 0 g := by
  constructor
  intro I hI
  have hL := ls_len (all := all) hg
  have key := upInd (N := l.length) (M := fun i => I l all l (l.length : Int) (i : Int) (mix (ls l all g) g i))
    (by
      apply hI
      refine brDn (by omega) ?_
      have : mix (ls l all g) g l.length = ls l all g := by rw [← hL]; exact mix_all (by omega)
      rw [this]; exact h)
    (by
      intro i hi ih
      apply hI
      have hm := mix_len (a := ls l all g) (b := g) (by omega) (i := i) (by omega)
      have hget : (mix (ls l all g) g i)[i]? = some (g[i]'(by omega)) := by rw [mix_get (by omega) (by omega), List.getElem?_eq_getElem]
      have hset := mix_set (a := ls l all g) (b := g) (by omega) (i := i) (by omega)
      have hv := ls_get (l := l) (all := all) (g := g) (i := i) (by omega) hi (by omega)
      rw [hv] at hset
      have same : (all && decide (0 ≤ l[i].2.1)) = false → mix (ls l all g) g i = mix (ls l all g) g (i + 1) := fun e => mix_same (by omega) (by omega) (by rw [hv, e, Bool.or_false])
      rw [wrapS (by omega), Int.toNat_natCast]
      refine brD (by omega) (needAt hi (brB (fun e => brP (fun e2 => brD (by omega) (needS hget ?_)) fun e2 => ?_) fun e => ?_))
      · rw [show (g[i] || (all && decide (0 ≤ l[i].2.1))) = true by simp [e, show 0 ≤ l[i].2.1 from e2]] at hset
        rw [hset]; exact ih
      · rw [same (by rw [decide_eq_false (by omega), Bool.and_false])]; exact ih
      · rw [same (by rw [e, Bool.false_and])]; exact ih)
    0 (Nat.zero_le _)
  rw [mix_zero] at key
  exact key

/-- the instruction with its distance -/
def xo (G : List Bool) (x : RI) (i : Nat) : O := if 0 ≤ x.2.1 then wn x.1 ((Ad G x.2.1.toNat : Int) - Ad G (i + 1)) else x.1
def wdi (l : LR) (G : List Bool) (i : Nat) : List Int :=
  match l[i]?, G[i]? with
  | some x, some b => br b (long (xo G x i)) (short (xo G x i))
  | _, _ => []
def outs (l : LR) (G : List Bool) (i : Nat) : List Int := (List.range i).flatMap (wdi l G)
theorem outs_succ {l : LR} {G : List Bool} {i : Nat} : outs l G (i + 1) = outs l G i ++ wdi l G i := by
  unfold outs
  rw [List.range_succ, List.flatMap_append]; simp
theorem wdi_eq {l : LR} {G : List Bool} {i : Nat} (h1 : i < l.length) (h2 : i < G.length) : wdi l G i = br G[i] (long (xo G l[i] i)) (short (xo G l[i] i)) := by
  simp [wdi, h1, h2]
theorem wdi_len {l : LR} {G : List Bool} {i : Nat} : (wdi l G i).length ≤ 2 := by
  unfold wdi
  split
  · rename_i b _ _
    cases b <;> simp [br, long, short]
  · simp
theorem wdi_ne {l : LR} {G : List Bool} {i : Nat} (h1 : i < l.length) (h2 : i < G.length) : (wdi l G i).isEmpty = false := by
  rw [wdi_eq h1 h2]
  cases G[i] <;> rfl
theorem outs_len {l : LR} {G : List Bool} : ∀ i, (outs l G i).length ≤ 2 * i
  | 0 => by simp [outs]
  | i + 1 => by
    rw [outs_succ, List.length_append]
    have := outs_len (l := l) (G := G) i
    have := wdi_len (l := l) (G := G) (i := i)
    omega

theorem err_wn {o : O} {d : Int} (hr : rng o.1 16 20 = true) (h : err (wn o 0) = 0) (h1 : -2147483648 ≤ d) (h2 : d ≤ 2147483647) : err (wn o d) = 0 := by
  have hr := rng_iff.1 hr
  have hu : (use o.1).2.2.2.1 = true := by
    rcases (by omega : o.1 = 16 ∨ o.1 = 17 ∨ o.1 = 18 ∨ o.1 = 19 ∨ o.1 = 20) with e | e | e | e | e <;> rw [e] <;> decide
  have ht : ∀ n, tail o.1 n = 0 := fun n => by
    unfold tail
    rw [show (o.1 == 9 || o.1 == 10) = false by simp; omega, show (o.1 == 14) = false by simp; omega, show (o.1 == 24) = false by simp; omega]
    rfl
  have hf : form (wn o d) = form (wn o 0) := by
    unfold form
    simp only [wn, hu, Bool.not_true, Bool.false_and]
  have hd : rng d (-2147483648) 2147483647 = true := rng_iff.2 ⟨h1, h2⟩
  have h0 : rng 0 (-2147483648) 2147483647 = true := by decide
  unfold err at h ⊢
  rw [hf]
  simp only [regs, wn, ht, hd, h0, Bool.and_true] at h ⊢
  exact h

theorem ie_err {L : Int} {x : RI} (h : ie L x = 0) : e0 x = 0 ∧ (0 ≤ x.2.1 → rng x.1.1 16 20 = true) := by
  unfold ie at h
  split at h
  · rename_i he; exact absurd h he
  · rename_i he
    refine ⟨by simpa using he, fun h0 => ?_⟩
    split at h
    · cases h
    · split at h
      · cases h
      · rename_i hc
        cases hr : rng x.1.1 16 20 with
        | true => rfl
        | false => exact absurd ⟨h0, .inl hr⟩ hc
theorem xo_err {L : Int} {l : LR} {G : List Bool} {i : Nat} (hl : l.length ≤ 1000) (hi : i < l.length) (hL : L = l.length) (h : ie L l[i] = 0) : err (xo G l[i] i) = 0 := by
  obtain ⟨h1, h2⟩ := ie_err h
  have hb := ie_bnd h
  unfold xo
  unfold e0 at h1
  by_cases h0 : 0 ≤ l[i].2.1
  · rw [if_pos h0] at h1 ⊢
    have a1 := A_le G l[i].2.1.toNat
    have a2 := A_le G (i + 1)
    exact err_wn (h2 h0) h1 (by omega) (by omega)
  · rw [if_neg h0] at h1 ⊢; exact h1

/-- a short item is short -/
theorem xo_sh {l : LR} {g : List Bool} {all : Bool} {i : Nat} (hB : Best l g) (hi : i < l.length) (hgi : i < (ls l all g).length) (h : (ls l all g)[i] = false) : sh (xo (ls l all g) l[i] i).2.2.2.2.1 := by
  have hg : i < g.length := by rw [hB.len]; exact hi
  rw [ls_get hgi hi hg] at h
  simp only [Bool.or_eq_false_iff, Bool.and_eq_false_iff] at h
  unfold xo
  by_cases h0 : 0 ≤ l[i].2.1
  · rw [if_pos h0]
    have ha : all = false := by
      rcases h.2 with h | h
      · exact h
      · exact absurd h0 (of_decide_eq_false h)
    subst ha
    have hG : ls l false g = g := by
      refine List.ext_getElem (by rw [ls_len hB.len, hB.len]) fun j a b => ?_
      rw [ls_get a (by rw [← hB.len]; exact b) b]; simp
    rw [hG]
    have hA : Ad g (i + 1) = Ad g i + 1 := by
      have : Ad g (i + 1) = Ad g i + (if g[i]? = some true then 2 else 1) := rfl
      rw [this, if_neg (by rw [List.getElem?_eq_getElem hg, h.1]; simp)]
    rcases hB.clo i hi h0 with hc | hc
    · rw [List.getElem?_eq_getElem hg, h.1] at hc; cases hc
    · show sh ((Ad g l[i].2.1.toNat : Int) - Ad g (i + 1))
      rw [hA]
      unfold ds at hc
      rw [show ((Ad g l[i].2.1.toNat : Int) - ((Ad g i + 1 : Nat) : Int)) = (Ad g l[i].2.1.toNat : Int) - (Ad g i : Int) - 1 by omega]
      exact hc
  · rw [if_neg h0]
    have hb : base l[i] = false := by
      cases hb : base l[i] with
      | false => rfl
      | true =>
        have := hB.bas i hi hb
        rw [List.getElem?_eq_getElem hg, h.1] at this
        cases this
    unfold base at hb
    rw [decide_eq_true (by omega : l[i].2.1 < 0), Bool.true_and, rng_sh] at hb
    simpa using hb

theorem l49r14_ok {l : LR} {g : List Bool} {all : Bool} {k1 : Int → List Int → List Int → Prop} {k2 : LR → List Int → List Int → Prop} (hl : l.length ≤ 1000) (he : ies l.length l = 0) (hB : Best l g)
    (h : k2 l (atL (ls l all g) l.length) (outs l (ls l all g) l.length)) : l49r14 k1 k2 l l (l.length : Int) 0 (ls l all g) (atL (ls l all g) l.length) [] := by
  constructor
  intro I hI
  have hL := ls_len (l := l) (all := all) hB.len
  have hz := ies_zero he
  refine upInd (N := l.length) (M := fun i => I l l (l.length : Int) (i : Int) (ls l all g) (atL (ls l all g) l.length) (outs l (ls l all g) i)) ?_ ?_ 0 (Nat.zero_le _)
  · exact hI _ _ _ _ _ _ _ (brDn (by omega) h)
  · intro i hi ih
    apply hI
    have hgi : i < (ls l all g).length := by omega
    have hie := hz _ (List.getElem_mem hi)
    have hbd := ie_bnd hie
    have hxe := xo_err (G := ls l all g) hl hi rfl hie
    have hsh := xo_sh (all := all) hB hi hgi
    have hal := atL_len (g := ls l all g) (n := l.length)
    have hol := outs_len (l := l) (G := ls l all g) i
    have hwl := wdi_len (l := l) (G := ls l all g) (i := i)
    rw [outs_succ] at ih
    have hw := wdi_eq (l := l) (G := ls l all g) hi hgi
    have hne := wdi_ne (l := l) (G := ls l all g) hi hgi
    rw [wrapS (by omega), Int.toNat_natCast]
    have fin : ∀ w, w = wdi l (ls l all g) i → br (List.isEmpty w) (I l l (l.length : Int) ((i + 1 : Nat) : Int) (ls l all g) (atL (ls l all g) l.length) (outs l (ls l all g) i)) (br (roomB ((outs l (ls l all g) i).length + w.length) 8) (I l l (l.length : Int) ((i + 1 : Nat) : Int) (ls l all g) (atL (ls l all g) l.length) (outs l (ls l all g) i ++ w)) False) := fun w e => by
      subst e
      exact brF hne (brT (roomS (by omega)) ih)
    have two : ∀ o, o = xo (ls l all g) l[i] i → br (ls l all g)[i] (c31 o fun z12 z13 => br (z12 != 0) (k1 z12 [] []) (br (List.isEmpty z13) (I l l (l.length : Int) ((i + 1 : Nat) : Int) (ls l all g) (atL (ls l all g) l.length) (outs l (ls l all g) i)) (br (roomB ((outs l (ls l all g) i).length + z13.length) 8) (I l l (l.length : Int) ((i + 1 : Nat) : Int) (ls l all g) (atL (ls l all g) l.length) (outs l (ls l all g) i ++ z13)) False)))
        (c30 o fun z14 z15 => br (z14 != 0) (k1 z14 [] []) (br (List.isEmpty z15) (I l l (l.length : Int) ((i + 1 : Nat) : Int) (ls l all g) (atL (ls l all g) l.length) (outs l (ls l all g) i)) (br (roomB ((outs l (ls l all g) i).length + z15.length) 8) (I l l (l.length : Int) ((i + 1 : Nat) : Int) (ls l all g) (atL (ls l all g) l.length) (outs l (ls l all g) i ++ z15)) False))) := fun o e => by
      subst e
      refine brB (fun b => c31_ok (fun h => absurd hxe h) fun _ => brF rfl (fin _ ?_)) fun b => c30_ok (fun h => absurd hxe h) fun _ => brF rfl (fin _ ?_)
      · rw [hw, b]; rfl
      · rw [hw, b, rng_sh, decide_eq_true (hsh b)]; rfl
    refine brD (by omega) (needAt hi (brP (fun h0 => brD (by omega) (needNth (by omega) (brD (by omega) ?_))) fun h0 => brD (by omega) (needNth hgi (two _ ?_))))
    · rw [Int.toNat_natCast]
      refine needNth (by omega) (brD (by omega) (needNth hgi (two _ ?_)))
      rw [atL_get, atL_get]
      have a1 := A_le (ls l all g) l[i].2.1.toNat
      have a2 := A_le (ls l all g) (i + 1)
      unfold xo
      rw [if_pos h0, wrap64 (by omega) (by omega)]
      rfl
    · unfold xo; rw [if_neg (by omega)]

theorem c49_ok {l : LR} {all : Bool} {k1 : Int → List Int → List Int → Prop} {k2 : Nat → Nat → Nat → Int → List Int → List Int → Prop} (hl : l.length ≤ 300) (h1 : ies l.length l ≠ 0 → k1 (ies l.length l) [] [])
    (h2 : ies l.length l = 0 → ∀ g, Best l g → k2 0 l.length (l.length + 1) 0 (outs l (ls l all g) l.length) (atL (ls l all g) l.length)) : c49 l all k1 k2 := by
  constructor
  unfold tc49
  refine c48_ok (by omega) (fun e => brT (by simpa using e) (h1 e)) fun e g hB => brF rfl (l49r5_ok (by omega) hB.len (c116_ok (by omega) (ls_len hB.len) ?_))
  have hal := atL_len (g := ls l all g) (n := l.length)
  have a1 := A_le (ls l all g) l.length
  rw [Int.toNat_natCast]
  refine brD (by omega) (needNth (by omega) ?_)
  rw [atL_get]
  refine brDn (by omega) (l49r14_ok (by omega) e hB (brD (by omega) ?_))
  rw [hal, show ((l.length : Int) - 0).toNat = l.length by omega, show (((l.length + 1 : Nat) : Int) - 0).toNat = l.length + 1 by omega]
  exact h2 e g hB

theorem l53r10_ok {l : LR} {g : List Bool} {all : Bool} {k : List Int → Prop} (hl : l.length ≤ 1000) (he : ies l.length l = 0) (hB : Best l g)
    (h : k (outs l (ls l all g) l.length)) : l53r10 k l l (l.length : Int) 0 (ls l all g) [] := by
  constructor
  intro I hI
  have hL := ls_len (l := l) (all := all) hB.len
  have hz := ies_zero he
  refine upInd (N := l.length) (M := fun i => I l l (l.length : Int) (i : Int) (ls l all g) (outs l (ls l all g) i)) ?_ ?_ 0 (Nat.zero_le _)
  · exact hI _ _ _ _ _ _ (brDn (by omega) h)
  · intro i hi ih
    apply hI
    have hgi : i < (ls l all g).length := by omega
    have hie := hz _ (List.getElem_mem hi)
    have hbd := ie_bnd hie
    have hxe := xo_err (G := ls l all g) hl hi rfl hie
    have hol := outs_len (l := l) (G := ls l all g) i
    have hwl := wdi_len (l := l) (G := ls l all g) (i := i)
    rw [outs_succ] at ih
    have hw := wdi_eq (l := l) (G := ls l all g) hi hgi
    have hne := wdi_ne (l := l) (G := ls l all g) hi hgi
    rw [wrapS (by omega), Int.toNat_natCast]
    have two : ∀ o, o = xo (ls l all g) l[i] i → c33 o (ls l all g)[i] fun z10 => br (List.isEmpty z10) (I l l (l.length : Int) ((i + 1 : Nat) : Int) (ls l all g) (outs l (ls l all g) i)) (br (roomB ((outs l (ls l all g) i).length + z10.length) 8) (I l l (l.length : Int) ((i + 1 : Nat) : Int) (ls l all g) (outs l (ls l all g) i ++ z10)) False) := fun o e => by
      subst e
      refine c33_ok (err_ok hxe) ?_
      rw [← hw]
      exact brF hne (brT (roomS (by omega)) ih)
    refine brD (by omega) (needAt hi (brP (fun h0 => c117_ok hl hL hi (by omega) hbd.2 (brD (by omega) (needNth hgi (two _ ?_)))) fun h0 => brD (by omega) (needNth hgi (two _ ?_))))
    · unfold xo; rw [if_pos h0]; rfl
    · unfold xo; rw [if_neg (by omega)]

theorem c53_ok {l : LR} {all : Bool} {g : List Bool} {k : List Int → Prop} (hl : l.length ≤ 1000) (he : ies l.length l = 0) (hB : Best l g) (h : k (outs l (ls l all g) l.length)) : c53 l all k := by
  constructor
  refine c52_ok hl (ies_bnd he) fun g' hB' => ?_
  rw [best_eq hB' hB]
  exact l53r3_ok hl hB.len (l53r10_ok hl he hB h)

theorem c46_ok {k : Bool → Prop} (h : k true) : c46 k := by
  constructor
  have he : ies ((2 : Nat) : Int) [((19, 0, 0, 0, 0, ()), 1, ()), ((0, 0, 0, 0, 0, ()), (-1), ())] = 0 := by decide
  refine c49_ok (by simp) (fun e => absurd he e) fun _ g hB => brT rfl ?_
  have hlen := hB.len
  have hm := hB.low [false, false] rfl (fun i hi hb => by
    simp at hi
    rcases (by omega : i = 0 ∨ i = 1) with rfl | rfl <;> simp [base, rng] at hb) (fun i hi h0 => by
    simp at hi
    rcases (by omega : i = 0 ∨ i = 1) with rfl | rfl
    · exact .inr (show sh (ds [false, false] 0 1) by decide)
    · simp at h0)
  have hg : g = [false, false] := by
    match g, hlen with
    | [a, b], _ =>
      have h0 := hm 0
      have h1 := hm 1
      cases a <;> cases b <;> simp_all
  subst hg
  exact brT (by decide) (brT (by decide) (brD (by decide) (needS (v := 2) (by decide) (show k ((2 : Int) == 2) from h))))

abbrev riT : Ty := .pair opT (.pair (.int .i64) .unit)

theorem law9 {x1 : LR} {x2 : Bool} {k : Bool → Prop} (_ : Go.Abs.Good (.sl riT) x1) (_ : Go.Abs.Good .bool x2) (h : k true) : c9 x1 x2 k := by
  constructor
  unfold tc9
  refine c46_ok (brF rfl ?_)
  have hmin : minI ((x1.length : Nat) : Int) 300 = ((min x1.length 300 : Nat) : Int) := by unfold minI; split <;> omega
  rw [hmin, Int.toNat_natCast, List.drop_zero]
  refine brD (by omega) ?_
  generalize hl0 : x1.take (min x1.length 300) = l
  have hl : l.length ≤ 300 := by rw [← hl0, List.length_take]; omega
  refine c47_ok (by omega) (c48_ok (by omega) (fun e => ?_) fun e g hB => ?_)
  · refine c49_ok hl (fun _ => c50_ok (by omega) (brF (by simp) (brF (by simp) (brF (by simp) (brT (by simpa using e) ?_))))) (fun e' => absurd e' e)
    exact h
  · refine c49_ok hl (fun e' => absurd e e') (fun _ g' hB' => ?_)
    rw [best_eq hB' hB]
    refine c50_ok (by omega) ?_
    rw [e]
    refine brF rfl (brF rfl (brF rfl (brF rfl (c52_ok (by omega) (ies_bnd e) fun g2 hB2 => ?_))))
    rw [best_eq hB2 hB]
    have hgl := hB.len
    refine c51_self (by omega) (brT rfl (c53_ok (by omega) e hB (c32_self (Nat.le_trans (outs_len _) (by omega)) (brT rfl ?_))))
    simpa using h
end Go.Proofs.Ytfdoaacapkopmaa
