/- The law HeapRooms, in plain Lean: an allocator and a copying collector against sums. -/
import Derived.Test.YtdljpdafghdedaaAD3
import Derived.Test.YtdljpdafghdedaaAPKit2
import Derived.Test.YtdljpdafghdedaaABKit
import Derived.Test.YtdljpdafghdedaaARow6
set_option linter.unusedVariables false
set_option linter.unusedSimpArgs false
namespace Go.Proofs.Ytdljpdafghdedaa
open Go.Abs
/-! numbers -/
theorem c4_ok {x n : Int} (h0 : 0 < n) (h1 : n ≤ 4294967296) (hx : -9223372036854775808 ≤ x) (hx2 : x ≤ 9223372036854775807) {k : Int → Prop} (h : ∀ m : Nat, (m : Int) < n → k (m : Int)) : c4 x n k := by
  have e := Int.tmod_eq_emod (a := x) (b := n)
  have hm0 : 0 ≤ x % n := Int.emod_nonneg _ (by omega)
  have hm1 : x % n < n := Int.emod_lt_of_pos _ h0
  have key : ∀ z : Int, 0 ≤ z → z < n → k z := fun z a b => by
    have := h z.toNat (by omega)
    rwa [Int.toNat_of_nonneg a] at this
  have hlow : -n < x.tmod n := by
    have := Int.lt_tmod_of_pos x h0
    exact this
  have hhigh : x.tmod n < n := by
    have := Int.tmod_lt_of_pos x h0
    exact this
  constructor
  constructor
  refine brF (by simp; omega) (brP (fun q => ?_) fun q => ?_)
  · rw [wrap64 (by omega) (by omega)]
    exact key _ (by omega) (by omega)
  · exact key _ (by omega) hhigh

theorem and1_odd {n : Int} : bitop .and .i64 n 1 = n % 2 := bitop_and_low n 1 (by decide)
theorem and4095 {n : Int} : bitop .and .i64 n 4095 = n % 4096 := bitop_and_low n 12 (by decide)
theorem shr1 {n : Int} : shrI .i64 n 1 = n / 2 := by
  unfold shrI
  rw [show min ((1 : Int).toNat) (IntKind.bits .i64) = 1 by decide, Int.fdiv_eq_ediv_of_nonneg _ (by decide)]
  rfl
theorem shr12 {n : Int} : shrI .i64 n 12 = n / 4096 := by
  unfold shrI
  rw [show min ((12 : Int).toNat) (IntKind.bits .i64) = 12 by decide, Int.fdiv_eq_ediv_of_nonneg _ (by decide)]
  rfl

/-- a header -/
def hdr (t s : Nat) : Int := ((t * 4096 + s) * 2 + 1 : Nat)
theorem c16_ok {t s : Nat} (ht : t ≤ 258) (hs : s ≤ 4095) {k : Int → Prop} (h : k (hdr t s)) : c16 t s k := by
  constructor
  unfold tc16
  rw [wrap64 (a := (t : Int) * 4096) (by omega) (by omega), wrap64 (a := (t : Int) * 4096 + s) (by omega) (by omega), wrap64 (a := ((t : Int) * 4096 + s) * 2) (by omega) (by omega), wrap64 (by omega) (by omega)]
  exact h
theorem c15_ok {a b c : Int} {k : Bool → Prop} (h1 : b ≤ a ∧ a ≤ c → k true) (h2 : ¬ (b ≤ a ∧ a ≤ c) → k false) : c15 a b c k := by
  constructor
  refine brP (fun q => ?_) fun q => h2 (by omega)
  by_cases h : a ≤ c
  · rw [decide_eq_true h]; exact h1 ⟨by omega, h⟩
  · rw [decide_eq_false h]; exact h2 (by omega)
theorem c15T {a b c : Int} {k : Bool → Prop} (h : b ≤ a ∧ a ≤ c) (hk : k true) : c15 a b c k := c15_ok (fun _ => hk) fun q => absurd h q
/-- a header, split -/
theorem c21_ok {t s : Nat} (ht : t ≤ 258) (hs : s ≤ 4095) {k : Int → Int → Bool → Prop} (h : k t s true) : c21 (hdr t s) k := by
  have e1 : shrI .i64 (hdr t s) 1 = ((t * 4096 + s : Nat) : Int) := by rw [shr1, hdr]; omega
  have e2 : shrI .i64 ((t * 4096 + s : Nat) : Int) 12 = (t : Int) := by rw [shr12]; omega
  have e3 : bitop .and .i64 ((t * 4096 + s : Nat) : Int) 4095 = (s : Int) := by rw [and4095]; omega
  have e4 : bitop .and .i64 (hdr t s) 1 = 1 := by rw [and1_odd, hdr]; omega
  constructor
  unfold tc21
  rw [e1, e2, e3, e4]
  exact brT rfl (c15T (by omega) h)

/-! objects in the memory -/

structure Oo (M : List Int) (a t s : Nat) : Prop where
  tl : t ≤ 258
  sl : s ≤ 4095
  hd : M[a]? = some (hdr t s)
  fd : ∀ i, i < s → M[a + 1 + i]? = some 1
theorem Oo.lt {M : List Int} {a t s : Nat} (h : Oo M a t s) : a + s < M.length := by
  rcases Nat.eq_zero_or_pos s with e | e
  · have := (List.getElem?_eq_some_iff.1 h.hd).1; omega
  · have := (List.getElem?_eq_some_iff.1 (h.fd (s - 1) (by omega))).1; omega
/-- objects one behind the other, from a place to another one: places and sizes -/
def Rg (M : List Int) : Nat → List (Nat × Nat) → Nat → Prop
  | a, [], b => a = b
  | a, p :: L, b => p.1 = a ∧ (∃ t, Oo M a t p.2) ∧ Rg M (a + p.2 + 1) L b
theorem Rg.le {M : List Int} : ∀ {L : List (Nat × Nat)} {a b : Nat}, Rg M a L b → a ≤ b
  | [], _, _, h => Nat.le_of_eq h
  | p :: L, a, b, h => by have := Rg.le h.2.2; omega
theorem Rg.same {M M' : List Int} : ∀ {L : List (Nat × Nat)} {a b : Nat}, Rg M a L b → (∀ i, a ≤ i → i < b → M'[i]? = M[i]?) → Rg M' a L b
  | [], _, _, h, _ => h
  | p :: L, a, b, ⟨h1, ⟨t, h2⟩, h3⟩, hs => by
    have := h3.le
    exact ⟨h1, ⟨t, h2.tl, h2.sl, by rw [hs a (by omega) (by omega)]; exact h2.hd, fun i hi => by rw [hs _ (by omega) (by omega)]; exact h2.fd i hi⟩, h3.same fun i h4 h5 => hs i (by omega) h5⟩
theorem Rg.snoc {M : List Int} {t s : Nat} : ∀ {L : List (Nat × Nat)} {a b : Nat}, Rg M a L b → Oo M b t s → Rg M a (L ++ [(b, s)]) (b + s + 1)
  | [], a, b, h, ho => by have h : a = b := h; subst h; exact ⟨rfl, ⟨t, ho⟩, rfl⟩
  | p :: L, a, b, ⟨h1, h2, h3⟩, ho => ⟨h1, h2, h3.snoc ho⟩
theorem Rg.mem {M : List Int} {p s : Nat} : ∀ {L : List (Nat × Nat)} {a b : Nat}, Rg M a L b → (p, s) ∈ L → a ≤ p ∧ p + s + 1 ≤ b ∧ ∃ t, Oo M p t s
  | [], _, _, _, hm => by cases hm
  | q :: L, a, b, ⟨h1, h2, h3⟩, hm => by
    rcases List.mem_cons.1 hm with e | hm
    · subst e
      have h1 : p = a := h1
      subst h1
      exact ⟨Nat.le_refl _, h3.le, h2⟩
    · obtain ⟨k1, k2, k3⟩ := h3.mem hm
      exact ⟨by omega, k2, k3⟩
def wsum (L : List (Nat × Nat)) : Nat := (L.map fun p => p.2 + 1).sum
theorem Rg.sum {M : List Int} : ∀ {L : List (Nat × Nat)} {a b : Nat}, Rg M a L b → a + wsum L = b
  | [], _, _, h => h
  | p :: L, a, b, ⟨_, _, h3⟩ => by have := h3.sum; simp only [wsum, List.map_cons, List.sum_cons] at this ⊢; omega
theorem Rg.nodup {M : List Int} : ∀ {L : List (Nat × Nat)} {a b : Nat}, Rg M a L b → (L.map (·.1)).Nodup
  | [], _, _, _ => List.nodup_nil
  | p :: L, a, b, ⟨h1, h2, h3⟩ => by
    rw [List.map_cons, List.nodup_cons]
    refine ⟨fun hm => ?_, h3.nodup⟩
    obtain ⟨q, hq, e⟩ := List.mem_map.1 hm
    have := (h3.mem (p := q.1) (s := q.2) hq).1
    omega
theorem wsum_sub {L L' : List (Nat × Nat)} (h : L.Sublist L') : wsum L ≤ wsum L' := by
  unfold wsum
  have := h.map (fun p => p.2 + 1)
  generalize L.map (fun p => p.2 + 1) = X at this
  generalize L'.map (fun p => p.2 + 1) = Y at this
  induction this with
  | slnil => exact Nat.le_refl _
  | cons a _ ih => simp only [List.sum_cons]; omega
  | cons_cons a _ ih => simp only [List.sum_cons]; omega
theorem wsum_app {L L' : List (Nat × Nat)} : wsum (L ++ L') = wsum L + wsum L' := by simp [wsum]
/-- the sizes of a heap -/
structure HB (N1 Y H F O : Nat) (M : List Int) : Prop where
  n : 5 ≤ N1
  y0 : 1 ≤ Y
  y1 : Y ≤ N1
  f : F = N1 ∨ F = N1 + H
  o0 : F ≤ O
  o1 : O ≤ F + H
  m : N1 + 2 * H ≤ M.length
  b : M.length ≤ 6100

def roomH (s N1 Y H F O : Nat) : Bool := if N1 < s + 2 then decide (O + s + 1 ≤ F + H) else decide (Y + s + 1 ≤ N1)

theorem c8v2_ok {S : Int} {N1 Y H F O s : Nat} {M R : List Int} (hb : HB N1 Y H F O M) (hs : s ≤ 4095) {k : Bool → Int → Int → Int → Int → Int → Int → List Int → List Int → Prop}
    (h : k (roomH s N1 Y H F O) S N1 Y H F O M R) : c8v2 s S N1 Y H F O M R k := by
  obtain ⟨b1, b2, b3, b4, b5, b6, b7, b8⟩ := hb
  constructor
  unfold tc8v2
  rw [wrap64 (a := (s : Int) + 1) (by omega) (by omega), wrap64 (a := (N1 : Int) - 1) (by omega) (by omega), wrap64 (a := (O : Int) + s) (by omega) (by omega), wrap64 (a := (Y : Int) + s) (by omega) (by omega),
    wrap64 (a := (O : Int) + s + 1) (by omega) (by omega), wrap64 (a := (Y : Int) + s + 1) (by omega) (by omega), wrap64 (a := (F : Int) + H) (by omega) (by omega)]
  refine brP (fun q => ?_) fun q => ?_
  · rw [show decide ((O : Int) + s + 1 ≤ F + H) = roomH s N1 Y H F O by unfold roomH; rw [if_pos (by omega)]; exact decide_eq_decide.2 (by omega)]
    exact h
  · rw [show decide ((Y : Int) + s + 1 ≤ N1) = roomH s N1 Y H F O by unfold roomH; rw [if_neg (by omega)]; exact decide_eq_decide.2 (by omega)]
    exact h

theorem c24_one {a b c d e f : Int} {M R : List Int} {k : Bool → Int → Int → Int → Int → Int → Int → List Int → List Int → Prop} (h : k false a b c d e f M R) : c24 1 a b c d e f M R k := by
  constructor
  exact brT rfl (brF (by rw [and1_odd]; rfl) h)
theorem c17_one {S : Int} {N1 Y H F O i : Nat} {M R : List Int} (hi : i < M.length) (hb : M.length ≤ 6100) (hF : F ≤ 6100) (hH : H ≤ 6100) {k1 k2 : Int → Int → Int → Int → Int → Int → List Int → List Int → Prop}
    (h : k2 S N1 Y H F O (M.set i 1) R) : c17 i 1 S N1 Y H F O M R k1 k2 := by
  constructor
  unfold tc17
  rw [Int.toNat_natCast]
  exact brD (by omega) (needNth hi (c15_ok (fun _ => brT rfl (c24_one (brF rfl h))) fun _ => brF rfl h))

/-- ones behind a place -/
def ones1 (M : List Int) (a : Nat) : Nat → List Int
  | 0 => M
  | n + 1 => (ones1 M a n).set (a + 1 + n) 1
theorem ones1_len {M : List Int} {a : Nat} : ∀ n, (ones1 M a n).length = M.length
  | 0 => rfl
  | n + 1 => by rw [ones1, List.length_set, ones1_len n]
theorem ones1_get {M : List Int} {a : Nat} : ∀ {n : Nat} (i : Nat), a + n < M.length → (ones1 M a n)[i]? = if a < i ∧ i ≤ a + n then some 1 else M[i]?
  | 0, i, _ => by rw [ones1, if_neg (by omega)]
  | n + 1, i, h => by
    rw [ones1, List.getElem?_set, ones1_len, ones1_get (n := n) i (by omega)]
    by_cases e : a + 1 + n = i
    · rw [if_pos e, if_pos (by omega), if_pos (by omega)]
    · rw [if_neg e]
      by_cases e2 : a < i ∧ i ≤ a + n
      · rw [if_pos e2, if_pos (by omega)]
      · rw [if_neg e2, if_neg (by omega)]

theorem l7r14v2_ok {S : Int} {N1 Y H F O s a : Nat} {M R : List Int} (hs : s ≤ 4095) (ha : a + s < M.length) (hb : M.length ≤ 6100) (hF : F ≤ 6100) (hH : H ≤ 6100) {k1 k2 : Int → Int → Int → Int → Int → Int → Int → List Int → List Int → Prop}
    (h : k1 a S N1 Y H F O (ones1 M a s) R) : l7r14v2 k1 k2 s 1 a 1 S N1 Y H F O M R := by
  constructor
  intro I1 I2 hI _
  have key : ∀ n i, n + i = s → I1 s 1 a ((i + 1 : Nat) : Int) S N1 Y H F O (ones1 M a i) R := by
    intro n
    induction n with
    | zero =>
      intro i hi
      refine hI _ _ _ _ _ _ _ _ _ _ _ _ (brDn (by omega) ?_)
      have e : i = s := by omega
      subst e
      exact h
    | succ n ih =>
      intro i hi
      refine hI _ _ _ _ _ _ _ _ _ _ _ _ (brD (by omega) ?_)
      rw [show IntKind.wrap .i64 ((a : Int) + ((i + 1 : Nat) : Int)) = ((a + 1 + i : Nat) : Int) by rw [wrap64 (by omega) (by omega)]; omega]
      refine c17_one (by rw [ones1_len]; omega) (by rw [ones1_len]; exact hb) hF hH ?_
      rw [wrapS (by omega)]
      exact ih (i + 1) (by omega)
  exact key s 0 rfl

/-- an object written -/
def wrote (M : List Int) (a t s : Nat) : List Int := ones1 (M.set a (hdr t s)) a s
theorem wrote_len {M : List Int} {a t s : Nat} : (wrote M a t s).length = M.length := by rw [wrote, ones1_len, List.length_set]
theorem wrote_obj {M : List Int} {a t s : Nat} (ht : t ≤ 258) (hs : s ≤ 4095) (h : a + s < M.length) : Oo (wrote M a t s) a t s := by
  refine ⟨ht, hs, ?_, fun i hi => ?_⟩
  · rw [wrote, ones1_get _ (by rw [List.length_set]; exact h), if_neg (by omega), List.getElem?_set, if_pos rfl, if_pos (by omega)]
  · rw [wrote, ones1_get _ (by rw [List.length_set]; exact h), if_pos (by omega)]
theorem wrote_else {M : List Int} {a t s i : Nat} (h : a + s < M.length) (hi : i < a ∨ a + s < i) : (wrote M a t s)[i]? = M[i]? := by
  rw [wrote, ones1_get _ (by rw [List.length_set]; exact h), if_neg (by omega), List.getElem?_set, if_neg (by omega)]

theorem c7v2_ok {S : Int} {N1 Y H F O t s : Nat} {M R : List Int} (hb : HB N1 Y H F O M) (ht : t ≤ 258) (hs : s ≤ 4095) {k1 k2 : Int → Int → Int → Int → Int → Int → Int → Int → List Int → List Int → Prop}
    (h1 : roomH s N1 Y H F O = false → k1 0 16 S N1 Y H F O M R)
    (h2 : N1 < s + 2 → O + s + 1 ≤ F + H → k1 (2 * (O : Int)) 0 S N1 Y H F ((O + s + 1 : Nat) : Int) (wrote M O t s) R)
    (h3 : s + 2 ≤ N1 → Y + s + 1 ≤ N1 → k1 (2 * (Y : Int)) 0 S N1 ((Y + s + 1 : Nat) : Int) H F O (wrote M Y t s) R) : c7v2 t s 1 S N1 Y H F O M R k1 k2 := by
  have hb' := hb
  obtain ⟨b1, b2, b3, b4, b5, b6, b7, b8⟩ := hb
  constructor
  refine c15T (by omega) (brF rfl (c15T (by omega) (brF rfl (c15T (by decide) (brF rfl (c8v2_ok hb' hs ?_))))))
  cases hr : roomH s N1 Y H F O with
  | false => exact brT rfl (h1 hr)
  | true =>
    refine brF rfl ?_
    rw [wrap64 (a := (s : Int) + 1) (by omega) (by omega), wrap64 (a := (N1 : Int) - 1) (by omega) (by omega)]
    refine brP (fun q => c16_ok ht hs ?_) fun q => c16_ok ht hs ?_
    · have hfit : O + s + 1 ≤ F + H := by unfold roomH at hr; rw [if_pos (by omega)] at hr; exact of_decide_eq_true hr
      refine brT rfl (brT rfl (brT rfl (brT (eqT_self (.int .i64) _) ?_)))
      rw [Int.toNat_natCast, show IntKind.wrap .i64 ((O : Int) + ((s : Int) + 1)) = ((O + s + 1 : Nat) : Int) by rw [wrap64 (by omega) (by omega)]; omega]
      refine brD (by omega) (needNth (by omega) (l7r14v2_ok (M := M.set O (hdr t s)) (a := O) hs (by rw [List.length_set]; omega) (by rw [List.length_set]; omega) (by omega) (by omega) ?_))
      rw [wrap64 (a := 2 * (O : Int)) (by omega) (by omega)]
      exact h2 (by omega) hfit
    · have hfit : Y + s + 1 ≤ N1 := by unfold roomH at hr; rw [if_neg (by omega)] at hr; exact of_decide_eq_true hr
      refine brT rfl (brT rfl (brT rfl (brT (eqT_self (.int .i64) _) ?_)))
      rw [Int.toNat_natCast, show IntKind.wrap .i64 ((Y : Int) + ((s : Int) + 1)) = ((Y + s + 1 : Nat) : Int) by rw [wrap64 (by omega) (by omega)]; omega]
      refine brD (by omega) (needNth (by omega) (l7r14v2_ok (M := M.set Y (hdr t s)) (a := Y) hs (by rw [List.length_set]; omega) (by rw [List.length_set]; omega) (by omega) (by omega) ?_))
      rw [wrap64 (a := 2 * (Y : Int)) (by omega) (by omega)]
      exact h3 (by omega) hfit

/-- an object of the heap -/
def Val (N1 Y H F O : Nat) (M : List Int) (p s : Nat) : Prop := ∃ t, Oo M p t s ∧ ((1 ≤ p ∧ p + s + 1 ≤ Y) ∨ (F ≤ p ∧ p + s + 1 ≤ O))

theorem half2 {p : Nat} (h : p ≤ 4611686018427387903) : IntKind.wrap .i64 (Int.tdiv (2 * (p : Int)) 2) = (p : Int) := by
  rw [Int.mul_tdiv_cancel_left _ (by decide), wrap64 (by omega) (by omega)]
theorem c20v2_ok {S : Int} {N1 Y H F O p s : Nat} {M R : List Int} (hb : HB N1 Y H F O M) (hv : Val N1 Y H F O M p s) {k : Int → Int → Int → Int → Int → Int → Int → List Int → List Int → Prop}
    (h : k s S N1 Y H F O M R) : c20v2 (2 * (p : Int)) S N1 Y H F O M R k := by
  obtain ⟨b1, b2, b3, b4, b5, b6, b7, b8⟩ := hb
  obtain ⟨t, ho, hp⟩ := hv
  have hl := ho.lt
  have hg := ho.hd
  have hs := ho.sl
  constructor
  unfold tc20v2
  rw [half2 (by omega), Int.toNat_natCast]
  have e1 : bitop .and .i64 (2 * (p : Int)) 1 = 0 := by rw [and1_odd]; omega
  rw [e1]
  refine brDn (by omega) (brF rfl (brP (fun q => ?_) fun q => ?_))
  · rcases hp with hp | hp
    · omega
    · refine brDn (by omega) (brDn (by omega) (brD (by omega) (needS hg (c21_ok ho.tl hs (brF rfl ?_)))))
      rw [wrap64 (by omega) (by omega)]
      exact brDn (by omega) h
  · rcases hp with hp | hp
    · refine brDn (by omega) (brD (by omega) (needS hg (c21_ok ho.tl hs (brF rfl ?_))))
      rw [wrap64 (by omega) (by omega)]
      exact brDn (by omega) h
    · omega
theorem c20v2_one {a b c d e f : Int} {M R : List Int} {k : Int → Int → Int → Int → Int → Int → Int → List Int → List Int → Prop} (h : k (-1) a b c d e f M R) : c20v2 1 a b c d e f M R k := by
  constructor
  exact brDn (by decide) (brT (by rw [and1_odd]; rfl) h)
theorem c11v2_ok {S : Int} {N1 Y H F O p s : Nat} {M R : List Int} (hb : HB N1 Y H F O M) (hv : Val N1 Y H F O M p s) {k : Int → Int → Int → Int → Int → Int → Int → Int → Int → List Int → List Int → Prop}
    (h : ∀ t, k t s 0 S N1 Y H F O M R) : c11v2 (2 * (p : Int)) S N1 Y H F O M R k := by
  have hv' := hv
  obtain ⟨t, ho, hp⟩ := hv
  have hl := ho.lt
  have hg := ho.hd
  have := hb.b
  constructor
  refine c20v2_ok hb hv' ?_
  rw [half2 (by omega), Int.toNat_natCast]
  exact brDn (by omega) (brD (by omega) (needS hg (c21_ok ho.tl ho.sl (h t))))

/-! the same where nothing was remembered yet -/
theorem c8_ok {S : Int} {N1 Y H F O s : Nat} {M : List Int} (hb : HB N1 Y H F O M) (hs : s ≤ 4095) {k : Bool → Int → Int → Int → Int → Int → Int → List Int → Prop}
    (h : k (roomH s N1 Y H F O) S N1 Y H F O M) : c8 s S N1 Y H F O M k := by
  have := c8v2_ok (S := S) (R := []) hb hs (k := fun a b c d e f g M _ => k a b c d e f g M) h
  exact ⟨this.of⟩
/-! a part copied -/
def copyM (M : List Int) (f p n : Nat) : List Int := M.take f ++ (M.drop p).take n ++ M.drop (f + n)
theorem copyM_len {M : List Int} {f p n : Nat} (hp : p + n ≤ M.length) (hf : f + n ≤ M.length) : (copyM M f p n).length = M.length := by
  simp only [copyM, List.length_append, List.length_take, List.length_drop]; omega
theorem copyM_get {M : List Int} {f p n : Nat} (hp : p + n ≤ M.length) (hf : f + n ≤ M.length) (i : Nat) : (copyM M f p n)[i]? = if f ≤ i ∧ i < f + n then M[p + (i - f)]? else M[i]? := by
  unfold copyM
  have e1 : (M.take f).length = f := by rw [List.length_take]; omega
  have e2 : ((M.drop p).take n).length = n := by rw [List.length_take, List.length_drop]; omega
  by_cases h1 : i < f
  · rw [if_neg (by omega), List.append_assoc, List.getElem?_append_left (by omega), List.getElem?_take, if_pos h1]
  · by_cases h2 : i < f + n
    · rw [if_pos ⟨by omega, h2⟩, List.getElem?_append_left (by rw [List.length_append]; omega), List.getElem?_append_right (by omega), e1, List.getElem?_take, if_pos (by omega), List.getElem?_drop]
    · rw [if_neg (by omega), List.getElem?_append_right (by rw [List.length_append]; omega), List.length_append, e1, e2, List.getElem?_drop]
      congr 1; omega
theorem copyM_obj {M : List Int} {f p t s : Nat} (h : Oo M p t s) (hf : f + s + 1 ≤ M.length) : Oo (copyM M f p (s + 1)) f t s := by
  have hl := h.lt
  refine ⟨h.tl, h.sl, ?_, fun i hi => ?_⟩
  · rw [copyM_get (by omega) (by omega), if_pos (by omega), Nat.sub_self]; exact h.hd
  · rw [copyM_get (by omega) (by omega), if_pos (by omega), show p + (f + 1 + i - f) = p + 1 + i by omega]; exact h.fd i hi
theorem Oo.same {M M' : List Int} {a t s : Nat} (h : Oo M a t s) (hs : ∀ i, a ≤ i → i < a + s + 1 → M'[i]? = M[i]?) : Oo M' a t s :=
  ⟨h.tl, h.sl, by rw [hs a (by omega) (by omega)]; exact h.hd, fun i hi => by rw [hs _ (by omega) (by omega)]; exact h.fd i hi⟩

/-! maps -/
theorem mhas_nil {α : Type} (k : Int) : mhas ([] : List (Int × α)) k = false := rfl
theorem mhas_put {α : Type} {a b : Int} (hab : a ≠ b) {x : α} : ∀ {l : List (Int × α)}, mhas l b = false → mhas (mput l a x) b = false
  | [], _ => by
    simp only [mput, mhas, mget]
    rw [show (a == b) = false by simpa using hab]; rfl
  | p :: r, h => by
    simp only [mhas, mget] at h
    cases hb : (p.1 == b) with
    | true => rw [hb] at h; cases h
    | false =>
      rw [hb] at h
      have h' : mhas r b = false := h
      cases ha : (p.1 == a) with
      | true =>
        simp only [mput, ha, cond_true, mhas, mget]
        rw [show (a == b) = false by simpa using hab]
        exact h
      | false =>
        simp only [mput, ha, cond_false, mhas, mget, hb]
        exact mhas_put hab h'

/-! one value -/
theorem c18_full {v f lim : Int} {yf : Bool} {S N1 Y H F O : Int} {M R : List Int} {kv : List (Int × Int)} {k : Int → Int → Int → Bool → Bool → Int → Int → Int → Int → Int → Int → List Int → List Int → List (Int × Int) → Prop}
    (h : k v f lim yf true S N1 Y H F O M R kv) : c18 v f lim yf true S N1 Y H F O M R kv k := ⟨brT rfl h⟩
theorem c18_one {f lim : Int} {yf fl : Bool} {S N1 Y H F O : Int} {M R : List Int} {kv : List (Int × Int)} {k : Int → Int → Int → Bool → Bool → Int → Int → Int → Int → Int → Int → List Int → List Int → List (Int × Int) → Prop}
    (h : k 1 f lim yf fl S N1 Y H F O M R kv) : c18 1 f lim yf fl S N1 Y H F O M R kv k := by
  constructor
  refine brB (fun e => by subst e; exact h) fun e => brB (fun e2 => c24_one (brT rfl h)) fun e2 => c20v2_one (brD (by decide) h)
theorem c18_old {p : Nat} {f lim : Int} {fl : Bool} {S : Int} {N1 Y H F O : Nat} {M R : List Int} (hp : N1 ≤ p) (hpb : p ≤ 6100) {kv : List (Int × Int)} {k : Int → Int → Int → Bool → Bool → Int → Int → Int → Int → Int → Int → List Int → List Int → List (Int × Int) → Prop}
    (h : k (2 * (p : Int)) f lim true fl S N1 Y H F O M R kv) : c18 (2 * (p : Int)) f lim true fl S N1 Y H F O M R kv k := by
  constructor
  refine brB (fun e => by subst e; exact h) fun e => brT rfl ?_
  constructor
  refine brB (fun _ => brT (by rw [and1_odd]; simp) ?_) fun _ => brT rfl h
  rw [half2 (by omega), show decide ((p : Int) < N1) = false from decide_eq_false (by omega)]
  exact brT rfl h
theorem c18_move {p s f lim : Nat} {yf : Bool} {S : Int} {N1 Y H F O : Nat} {M R : List Int} (hb : HB N1 Y H F O M) (hv : Val N1 Y H F O M p s) (hy : yf = true → p < N1 ∧ 0 < p) (hlim : lim ≤ M.length) (hf : f ≤ lim)
    {kv : List (Int × Int)} (hkv : mhas kv p = false) {k : Int → Int → Int → Bool → Bool → Int → Int → Int → Int → Int → Int → List Int → List Int → List (Int × Int) → Prop}
    (h1 : lim < f + s + 1 → k (2 * (p : Int)) f lim yf true S N1 Y H F O M R kv)
    (h2 : f + s + 1 ≤ lim → k (2 * (f : Int)) ((f + s + 1 : Nat) : Int) lim yf false S N1 Y H F O (copyM M f p (s + 1)) R (mput kv p f)) : c18 (2 * (p : Int)) f lim yf false S N1 Y H F O M R kv k := by
  have hl : p + s < M.length := by obtain ⟨t, ho, _⟩ := hv; exact ho.lt
  have hbm := hb.b
  have hs : s ≤ 4095 := by obtain ⟨t, ho, _⟩ := hv; exact ho.sl
  have fin : (br (mhas kv (p : Int))
        (k (IntKind.wrap .i64 (2 * (mval 0 kv (p : Int)))) f lim yf false S N1 Y H F O M R kv)
        (br (decide (((IntKind.wrap .i64 ((IntKind.wrap .i64 ((f : Int) + s)) + 1)) : Int) > lim))
         (k (2 * (p : Int)) f lim yf true S N1 Y H F O M R kv)
         (br (decide ((0 : Int) ≤ (f : Int) ∧ (f : Int) ≤ (IntKind.wrap .i64 ((IntKind.wrap .i64 ((f : Int) + s)) + 1)) ∧ ((IntKind.wrap .i64 ((IntKind.wrap .i64 ((f : Int) + s)) + 1)) : Int) ≤ (((List.length M) : Nat) : Int) ∧ ((((List.length M) : Nat) : Int) : Int) ≤ (((List.length M) : Nat) : Int)))
          (br (decide ((0 : Int) ≤ (p : Int) ∧ (p : Int) ≤ (IntKind.wrap .i64 ((IntKind.wrap .i64 ((p : Int) + s)) + 1)) ∧ ((IntKind.wrap .i64 ((IntKind.wrap .i64 ((p : Int) + s)) + 1)) : Int) ≤ (((List.length M) : Nat) : Int) ∧ ((((List.length M) : Nat) : Int) : Int) ≤ (((List.length M) : Nat) : Int)))
           (k (IntKind.wrap .i64 (2 * (f : Int))) (IntKind.wrap .i64 ((f : Int) + (IntKind.wrap .i64 ((s : Int) + 1)))) lim yf false S N1 Y H F O (((List.take (Int.toNat (f : Int)) M) ++ (List.take (Int.toNat ((IntKind.wrap .i64 ((IntKind.wrap .i64 ((f : Int) + s)) + 1)) - f)) (List.take (Int.toNat ((IntKind.wrap .i64 ((IntKind.wrap .i64 ((p : Int) + s)) + 1)) - p)) (List.drop (Int.toNat (p : Int)) M)))) ++ (List.drop ((Int.toNat (f : Int)) + (List.length (List.take (Int.toNat ((IntKind.wrap .i64 ((IntKind.wrap .i64 ((f : Int) + s)) + 1)) - f)) (List.take (Int.toNat ((IntKind.wrap .i64 ((IntKind.wrap .i64 ((p : Int) + s)) + 1)) - p)) (List.drop (Int.toNat (p : Int)) M))))) M)) R (mput kv (p : Int) f))
           (False /- 82 -/))
          (False /- 82 -/)))) := by
    rw [hkv, wrap64 (a := (f : Int) + s) (by omega) (by omega), wrap64 (a := (p : Int) + s) (by omega) (by omega), wrap64 (a := (f : Int) + s + 1) (by omega) (by omega), wrap64 (a := (p : Int) + s + 1) (by omega) (by omega),
      wrap64 (a := (s : Int) + 1) (by omega) (by omega), wrap64 (a := (f : Int) + ((s : Int) + 1)) (by omega) (by omega), wrap64 (a := 2 * (f : Int)) (by omega) (by omega), Int.toNat_natCast, Int.toNat_natCast,
      show ((f : Int) + s + 1 - f).toNat = s + 1 by omega, show ((p : Int) + s + 1 - p).toNat = s + 1 by omega, List.take_take, Nat.min_self]
    refine brF rfl (brP (fun q => h1 (by omega)) fun q => brD (by omega) (brD (by omega) ?_))
    have h2 := h2 (by omega)
    have e : (f : Int) + ((s : Int) + 1) = ((f + s + 1 : Nat) : Int) := by omega
    have e2 : (List.take (s + 1) (List.drop p M)).length = s + 1 := by rw [List.length_take, List.length_drop]; omega
    rw [e, e2]
    exact h2
  constructor
  refine brF rfl (brB (fun e => ?_) fun e => ?_)
  · subst e
    obtain ⟨hy1, hy2⟩ := hy rfl
    constructor
    refine brD (by omega) (brT (by rw [and1_odd]; simp) ?_)
    rw [half2 (by omega), show decide ((p : Int) < N1) = true from decide_eq_true (by omega)]
    refine brF rfl (c20v2_ok hb hv (brDn (by omega) ?_))
    exact fin
  · refine c20v2_ok hb hv (brDn (by omega) ?_)
    rw [half2 (by omega)]
    exact fin
/-- a live object: its place, its size, whether it lies in the nursery -/
abbrev Lv := Nat × Nat × Bool
structure G where
  out : List Nat
  f : Nat
  fl : Bool
  M : List Int
/-- what a collection makes of the roots -/
def gc (lim : Nat) (yf : Bool) : List Lv → Nat → Bool → List Int → G
  | [], f, fl, M => ⟨[], f, fl, M⟩
  | w :: r, f, fl, M =>
    if fl = true ∨ (yf = true ∧ w.2.2 = false) then { gc lim yf r f fl M with out := w.1 :: (gc lim yf r f fl M).out }
    else if lim < f + w.2.1 + 1 then { gc lim yf r f true M with out := w.1 :: (gc lim yf r f true M).out }
    else { gc lim yf r (f + w.2.1 + 1) false (copyM M f w.1 (w.2.1 + 1)) with out := f :: (gc lim yf r (f + w.2.1 + 1) false (copyM M f w.1 (w.2.1 + 1))).out }

/-- the places as Go has them -/
def two (l : List Nat) : List Int := l.map fun p : Nat => 2 * (p : Int)
def ptrs (W : List Lv) : List Int := two (W.map (·.1))

/-- a root that can be collected: where it lies -/
structure Rt (N1 Y H F O lim : Nat) (yf : Bool) (M : List Int) (f : Nat) (w : Lv) : Prop where
  v : yf = true → w.2.2 = false → N1 ≤ w.1 ∧ w.1 ≤ 6100
  m : ¬ (yf = true ∧ w.2.2 = false) → Val N1 Y H F O M w.1 w.2.1 ∧ (w.1 + w.2.1 + 1 ≤ f ∨ lim ≤ w.1) ∧ (yf = true → w.1 < N1 ∧ 0 < w.1)

theorem Rt.copy {N1 Y H F O lim : Nat} {yf : Bool} {M : List Int} {f p s : Nat} {w : Lv} (h : Rt N1 Y H F O lim yf M f w) (hp : p + s + 1 ≤ M.length) (hf : f + s + 1 ≤ lim) (hl : lim ≤ M.length) :
    Rt N1 Y H F O lim yf (copyM M f p (s + 1)) (f + s + 1) w := by
  refine ⟨h.v, fun hm => ?_⟩
  obtain ⟨⟨t, ho, h1⟩, h2, h3⟩ := h.m hm
  refine ⟨⟨t, ho.same fun i i1 i2 => ?_, h1⟩, by omega, h3⟩
  rw [copyM_get (by omega) (by omega), if_neg (by omega)]

theorem HB.len {N1 Y H F O : Nat} {M M' : List Int} (h : HB N1 Y H F O M) (e : M'.length = M.length) : HB N1 Y H F O M' :=
  ⟨h.n, h.y0, h.y1, h.f, h.o0, h.o1, by rw [e]; exact h.m, by rw [e]; exact h.b⟩

theorem l9r9_ok {W : List Lv} {N1 Y H F O lim f0 : Nat} {yf : Bool} {M0 R : List Int} {S s1 : Int} (hlim : lim ≤ M0.length) (hf0 : f0 ≤ lim) (hb : HB N1 Y H F O M0) (hW : W.length ≤ 65536)
    (hr : ∀ w ∈ W, Rt N1 Y H F O lim yf M0 f0 w) (hnd : (W.map (·.1)).Nodup) {k1 : Int → Int → Int → Int → Int → Int → Int → List Int → List Int → Int → Int → Bool → Bool → List (Int × Int) → List Int → Prop}
    (hk : ∀ kv, k1 s1 S N1 Y H F O (gc lim yf W f0 false M0).M R (gc lim yf W f0 false M0).f lim yf (gc lim yf W f0 false M0).fl kv (two (gc lim yf W f0 false M0).out)) :
    tl9r9 k1 s1 (ptrs W) (W.length : Int) 0 S N1 Y H F O M0 R f0 lim yf false [] (List.replicate W.length (0 : Int)) := by
  intro I hI
  have hlen : (ptrs W).length = W.length := by simp [ptrs, two]
  have key : ∀ (r : List Lv) (i : Nat) (done : List Nat) (f : Nat) (fl : Bool) (M : List Int) (kv : List (Int × Int)), W.drop i = r → i + r.length = W.length → done.length = i → f ≤ lim → M.length = M0.length →
      (fl = false → ∀ w ∈ r, Rt N1 Y H F O lim yf M f w) → (fl = false → ∀ w ∈ r, mhas kv (w.1 : Int) = false) →
      (∀ kv, k1 s1 S N1 Y H F O (gc lim yf r f fl M).M R (gc lim yf r f fl M).f lim yf (gc lim yf r f fl M).fl kv (two (done ++ (gc lim yf r f fl M).out))) →
      I s1 (ptrs W) (W.length : Int) (i : Int) S N1 Y H F O M R f lim yf fl kv (two done ++ List.replicate r.length (0 : Int)) := by
    intro r
    induction r with
    | nil =>
      intro i done f fl M kv hd hi hdl hf hM hrt hkv hk
      refine hI _ _ _ _ _ _ _ _ _ _ _ _ _ _ _ _ _ _ (brDn (by simp at hi; omega) ?_)
      have := hk kv
      simpa [gc] using this
    | cons w r ih =>
      intro i done f fl M kv hd hi hdl hf hM hrt hkv hk
      simp only [List.length_cons] at hi
      have hiW : i < W.length := by omega
      have hw : W[i]? = some w := by
        have := congrArg (fun l => l[0]?) hd
        simpa using this
      have hd2 : W.drop (i + 1) = r := by
        have := congrArg (List.drop 1) hd
        simpa [List.drop_drop, Nat.add_comm] using this
      have hat : (ptrs W)[i]? = some (2 * (w.1 : Int)) := by simp [ptrs, two, hw]
      have hndr : ∀ w' ∈ r, w'.1 ≠ w.1 := by
        have h1 : (W.drop i).map (·.1) = (W.map (·.1)).drop i := by rw [List.map_drop]
        have h2 : ((W.drop i).map (·.1)).Nodup := by rw [h1]; exact hnd.sublist (List.drop_sublist _ _)
        rw [hd, List.map_cons, List.nodup_cons] at h2
        intro w' hw' e
        exact h2.1 (List.mem_map.2 ⟨w', hw', e⟩)
      have hset : ∀ v : Nat, List.set (two done ++ List.replicate (r.length + 1) (0 : Int)) i (2 * (v : Int)) = two (done ++ [v]) ++ List.replicate r.length (0 : Int) := by
        intro v
        have e : (two done).length = i := by rw [two, List.length_map]; exact hdl
        rw [List.set_append_right _ _ (by omega), e, Nat.sub_self, List.replicate_succ, List.set_cons_zero]
        simp [two]
      refine hI _ _ _ _ _ _ _ _ _ _ _ _ _ _ _ _ _ _ (brD (by omega) ?_)
      refine needS (by rw [at?_nat]; exact hat) ?_
      have next : ∀ (v : Nat) (f' : Nat) (fl' : Bool) (M' : List Int) (kv' : List (Int × Int)), I s1 (ptrs W) (W.length : Int) ((i + 1 : Nat) : Int) S N1 Y H F O M' R f' lim yf fl' kv' (two (done ++ [v]) ++ List.replicate r.length (0 : Int)) →
          br (decide ((0 : Int) ≤ (i : Int) ∧ (i : Int) < (((List.length (two done ++ List.replicate (w :: r).length (0 : Int))) : Nat) : Int)))
           (need False (two done ++ List.replicate (w :: r).length (0 : Int))[(Int.toNat (i : Int))]? fun y34 =>
            I s1 (ptrs W) (W.length : Int) (IntKind.wrap .i64 ((i : Int) + 1)) S N1 Y H F O M' R f' lim yf fl' kv' (List.set (two done ++ List.replicate (w :: r).length (0 : Int)) (Int.toNat (i : Int)) (2 * (v : Int))))
           (False /- 39 -/) := by
        intro v f' fl' M' kv' h
        have e : (two done ++ List.replicate (w :: r).length (0 : Int)).length = i + r.length + 1 := by simp [two, hdl]; omega
        rw [e, Int.toNat_natCast, wrapS (by omega), show (w :: r).length = r.length + 1 from rfl, hset v]
        rw [show (w :: r).length = r.length + 1 from rfl] at e
        exact brD (by omega) (needNth (by rw [e]; omega) h)
      have happ : ∀ (v : Nat) (l : List Nat), done ++ v :: l = (done ++ [v]) ++ l := by intro v l; simp
      by_cases hfl : fl = true
      · subst hfl
        refine c18_full (next w.1 f true M kv (ih (i + 1) (done ++ [w.1]) f true M kv hd2 (by omega) (by simp [hdl]) hf hM (fun h => by cases h) (fun h => by cases h) fun kv => ?_))
        have := hk kv
        simp only [gc, true_or, if_true] at this
        rw [happ] at this
        exact this
      · have hfl : fl = false := by simpa using hfl
        subst hfl
        have hrw := hrt rfl w (by simp)
        have hrr : ∀ w' ∈ r, Rt N1 Y H F O lim yf M f w' := fun w' h => hrt rfl w' (by simp [h])
        have hkr : ∀ w' ∈ r, mhas kv (w'.1 : Int) = false := fun w' h => hkv rfl w' (by simp [h])
        by_cases hmv : yf = true ∧ w.2.2 = false
        · obtain ⟨hy, hw2⟩ := hmv
          subst hy
          obtain ⟨g1, g2⟩ := hrw.v rfl hw2
          refine c18_old g1 g2 (next w.1 f false M kv (ih (i + 1) (done ++ [w.1]) f false M kv hd2 (by omega) (by simp [hdl]) hf hM (fun _ => hrr) (fun _ => hkr) fun kv => ?_))
          have := hk kv
          simp only [gc, hw2, and_self, or_true, if_true] at this
          rw [happ] at this
          exact this
        · obtain ⟨g1, g2, g3⟩ := hrw.m hmv
          have hpl : w.1 + w.2.1 + 1 ≤ M.length := by obtain ⟨t, ho, _⟩ := g1; have := ho.lt; omega
          have hgc : ¬ (false = true ∨ (yf = true ∧ w.2.2 = false)) := by rintro (h | h); cases h; exact hmv h
          refine c18_move (hb.len hM) g1 g3 (by omega) hf (hkv rfl w (by simp)) (fun hfull => ?_) fun hfit => ?_
          · refine next w.1 f true M kv (ih (i + 1) (done ++ [w.1]) f true M kv hd2 (by omega) (by simp [hdl]) hf hM (fun h => by cases h) (fun h => by cases h) fun kv => ?_)
            have := hk kv
            simp only [gc, if_neg hgc, if_pos hfull] at this
            rw [happ] at this
            exact this
          · refine next f (f + w.2.1 + 1) false (copyM M f w.1 (w.2.1 + 1)) (mput kv w.1 f) (ih (i + 1) (done ++ [f]) (f + w.2.1 + 1) false _ _ hd2 (by omega) (by simp [hdl]) hfit (by rw [copyM_len (by omega) (by omega)]; exact hM)
              (fun _ w' hw' => (hrr w' hw').copy hpl hfit (by omega)) (fun _ w' hw' => mhas_put (fun e => hndr w' hw' (by omega)) (hkr w' hw')) fun kv => ?_)
            have := hk kv
            simp only [gc, if_neg hgc, if_neg (show ¬ lim < f + w.2.1 + 1 by omega)] at this
            rw [happ] at this
            exact this
  have := key W 0 [] f0 false M0 [] rfl (by omega) rfl hf0 rfl (fun _ => hr) (fun _ _ _ => rfl) (by simpa using hk)
  simpa [two] using this
/-- this root stays where it is -/
def stays (yf : Bool) (w : Lv) : Prop := yf = true ∧ w.2.2 = false
instance {yf : Bool} {w : Lv} : Decidable (stays yf w) := inferInstanceAs (Decidable (_ ∧ _))
def mw (yf : Bool) : List Lv → Nat
  | [] => 0
  | w :: r => (if stays yf w then 0 else w.2.1 + 1) + mw yf r
def npos (yf : Bool) : List Lv → Nat → List Nat
  | [], _ => []
  | w :: r, f => if stays yf w then w.1 :: npos yf r f else f :: npos yf r (f + w.2.1 + 1)
def gnew (yf : Bool) : List Lv → Nat → List (Nat × Nat)
  | [], _ => []
  | w :: r, f => if stays yf w then gnew yf r f else (f, w.2.1) :: gnew yf r (f + w.2.1 + 1)

theorem gc_true {lim : Nat} {yf : Bool} : ∀ {W : List Lv} {f : Nat} {M : List Int}, gc lim yf W f true M = ⟨W.map (·.1), f, true, M⟩
  | [], _, _ => rfl
  | w :: r, f, M => by rw [gc, if_pos (.inl rfl), gc_true]; rfl
theorem gc_else {lim : Nat} {yf : Bool} : ∀ {W : List Lv} {f : Nat} {M : List Int}, f ≤ lim → lim ≤ M.length → (∀ w ∈ W, ¬ stays yf w → w.1 + w.2.1 + 1 ≤ M.length) →
    (gc lim yf W f false M).M.length = M.length ∧ ∀ i, i < f ∨ lim ≤ i → (gc lim yf W f false M).M[i]? = M[i]?
  | [], _, _, _, _, _ => ⟨rfl, fun _ _ => rfl⟩
  | w :: r, f, M, hf, hl, hw => by
    rw [gc]
    by_cases hs : stays yf w
    · rw [if_pos (.inr hs)]
      exact gc_else hf hl fun w' h => hw w' (by simp [h])
    · rw [if_neg (by rintro (h | h); cases h; exact hs h)]
      by_cases hx : lim < f + w.2.1 + 1
      · rw [if_pos hx, gc_true]; exact ⟨rfl, fun _ _ => rfl⟩
      · rw [if_neg hx]
        have hp := hw w (by simp) hs
        have hcl := copyM_len (M := M) (f := f) (p := w.1) (n := w.2.1 + 1) (by omega) (by omega)
        obtain ⟨h1, h2⟩ := gc_else (W := r) (f := f + w.2.1 + 1) (M := copyM M f w.1 (w.2.1 + 1)) (lim := lim) (yf := yf) (by omega) (by omega) fun w' h h3 => by rw [hcl]; exact hw w' (by simp [h]) h3
        refine ⟨h1.trans hcl, fun i hi => ?_⟩
        rw [h2 i (by omega), copyM_get (by omega) (by omega), if_neg (by omega)]
theorem gc_full {lim : Nat} {yf : Bool} : ∀ {W : List Lv} {f : Nat} {M : List Int}, f ≤ lim → lim < f + mw yf W → (gc lim yf W f false M).fl = true
  | [], f, M, hf, h => by simp [mw] at h; omega
  | w :: r, f, M, hf, h => by
    rw [mw] at h
    rw [gc]
    by_cases hs : stays yf w
    · rw [if_pos hs] at h
      rw [if_pos (.inr hs)]
      exact gc_full hf (by omega)
    · rw [if_neg hs] at h
      rw [if_neg (by rintro (h | h); cases h; exact hs h)]
      by_cases hx : lim < f + w.2.1 + 1
      · rw [if_pos hx, gc_true]
      · rw [if_neg hx]
        exact gc_full (by omega) (by omega)
theorem gc_ok {lim : Nat} {yf : Bool} : ∀ {W : List Lv} {f : Nat} {M : List Int}, f + mw yf W ≤ lim → (gc lim yf W f false M).fl = false ∧ (gc lim yf W f false M).f = f + mw yf W ∧ (gc lim yf W f false M).out = npos yf W f
  | [], f, M, h => ⟨rfl, rfl, rfl⟩
  | w :: r, f, M, h => by
    rw [mw] at h
    rw [gc, mw, npos]
    by_cases hs : stays yf w
    · rw [if_pos hs] at h
      rw [if_pos (.inr hs), if_pos hs, if_pos hs]
      obtain ⟨h1, h2, h3⟩ := gc_ok (lim := lim) (yf := yf) (W := r) (f := f) (M := M) (by omega)
      exact ⟨h1, by rw [Nat.zero_add]; exact h2, by show w.1 :: _ = _; rw [h3]⟩
    · rw [if_neg hs] at h
      rw [if_neg (by rintro (h | h); cases h; exact hs h), if_neg (by omega), if_neg hs, if_neg hs]
      obtain ⟨h1, h2, h3⟩ := gc_ok (lim := lim) (yf := yf) (W := r) (f := f + w.2.1 + 1) (M := copyM M f w.1 (w.2.1 + 1)) (by omega)
      exact ⟨h1, by show (gc _ _ _ _ _ _).f = _; rw [h2]; omega, by show f :: _ = _; rw [h3]⟩
theorem gc_rg {N1 Y H F O lim : Nat} {yf : Bool} : ∀ {W : List Lv} {f : Nat} {M : List Int}, f + mw yf W ≤ lim → lim ≤ M.length → (∀ w ∈ W, Rt N1 Y H F O lim yf M f w) → Rg (gc lim yf W f false M).M f (gnew yf W f) (f + mw yf W)
  | [], f, M, h, hl, hr => rfl
  | w :: r, f, M, h, hl, hr => by
    rw [mw] at h
    have hrr : ∀ w' ∈ r, Rt N1 Y H F O lim yf M f w' := fun w' h => hr w' (by simp [h])
    rw [gc, mw, gnew]
    by_cases hs : stays yf w
    · rw [if_pos hs] at h
      rw [if_pos (.inr hs), if_pos hs, if_pos hs, Nat.zero_add]
      exact gc_rg (by omega) hl hrr
    · rw [if_neg hs] at h
      rw [if_neg (by rintro (h | h); cases h; exact hs h), if_neg (by omega), if_neg hs, if_neg hs]
      obtain ⟨⟨t, ho, _⟩, _, _⟩ := (hr w (by simp)).m hs
      have hol := ho.lt
      have hcl := copyM_len (M := M) (f := f) (p := w.1) (n := w.2.1 + 1) (by omega) (by omega)
      have hrc : ∀ w' ∈ r, Rt N1 Y H F O lim yf (copyM M f w.1 (w.2.1 + 1)) (f + w.2.1 + 1) w' := fun w' h => (hrr w' h).copy (by omega) (by omega) hl
      have hrec := gc_rg (W := r) (f := f + w.2.1 + 1) (M := copyM M f w.1 (w.2.1 + 1)) (by omega) (by rw [hcl]; exact hl) hrc
      obtain ⟨_, h2⟩ := gc_else (W := r) (f := f + w.2.1 + 1) (M := copyM M f w.1 (w.2.1 + 1)) (lim := lim) (yf := yf) (by omega) (by omega) fun w' h h3 => by
        obtain ⟨⟨t', ho', _⟩, _, _⟩ := (hrc w' h).m h3
        have := ho'.lt; omega
      have hcopy := copyM_obj ho (f := f) (by omega)
      refine ⟨rfl, ⟨t, hcopy.same fun i h4 h5 => h2 i (by omega)⟩, ?_⟩
      rw [show f + (w.2.1 + 1 + mw yf r) = f + w.2.1 + 1 + mw yf r by omega]
      exact hrec

theorem npos_len {yf : Bool} : ∀ {W : List Lv} {f : Nat}, (npos yf W f).length = W.length
  | [], _ => rfl
  | w :: r, f => by rw [npos]; by_cases hs : stays yf w; rw [if_pos hs, List.length_cons, npos_len]; rfl; rw [if_neg hs, List.length_cons, npos_len]; rfl
theorem npos_mem {yf : Bool} {q : Nat} : ∀ {W : List Lv} {f : Nat}, q ∈ npos yf W f → f ≤ q ∨ ∃ w ∈ W, stays yf w ∧ w.1 = q
  | [], _, h => by cases h
  | w :: r, f, h => by
    rw [npos] at h
    by_cases hs : stays yf w
    · rw [if_pos hs] at h
      rcases List.mem_cons.1 h with e | h
      · exact .inr ⟨w, by simp, hs, e.symm⟩
      · exact (npos_mem h).imp id fun ⟨w', h1, h2⟩ => ⟨w', by simp [h1], h2⟩
    · rw [if_neg hs] at h
      rcases List.mem_cons.1 h with e | h
      · exact .inl (by omega)
      · exact (npos_mem h).imp (fun h => by omega) fun ⟨w', h1, h2⟩ => ⟨w', by simp [h1], h2⟩
theorem npos_nodup {yf : Bool} : ∀ {W : List Lv} {f : Nat}, (W.map (·.1)).Nodup → (∀ w ∈ W, stays yf w → w.1 < f) → (npos yf W f).Nodup
  | [], _, _, _ => List.nodup_nil
  | w :: r, f, h, hl => by
    rw [List.map_cons, List.nodup_cons] at h
    rw [npos]
    by_cases hs : stays yf w
    · rw [if_pos hs, List.nodup_cons]
      have := hl w (by simp) hs
      refine ⟨fun hm => ?_, npos_nodup h.2 fun w' h1 h2 => hl w' (by simp [h1]) h2⟩
      rcases npos_mem hm with h1 | ⟨w', h1, h2, h3⟩
      · omega
      · exact h.1 (List.mem_map.2 ⟨w', h1, h3⟩)
    · rw [if_neg hs, List.nodup_cons]
      refine ⟨fun hm => ?_, npos_nodup h.2 fun w' h1 h2 => by have := hl w' (by simp [h1]) h2; omega⟩
      rcases npos_mem hm with h1 | ⟨w', h1, h2, h3⟩
      · omega
      · have := hl w' (by simp [h1]) h2; omega

/-- the live objects after a collection -/
def after : List Lv → List Nat → List Lv
  | w :: r, q :: l => (q, w.2.1, false) :: after r l
  | _, _ => []
theorem after_mem {yf : Bool} : ∀ {W : List Lv} {f : Nat} {w' : Lv}, w' ∈ after W (npos yf W f) → w'.2.2 = false ∧ ((w'.1, w'.2.1) ∈ gnew yf W f ∨ ∃ w ∈ W, stays yf w ∧ w.1 = w'.1 ∧ w.2.1 = w'.2.1)
  | [], _, _, h => by simp [after, npos] at h
  | w :: r, f, w', h => by
    rw [npos] at h
    rw [gnew]
    by_cases hs : stays yf w
    · rw [if_pos hs] at h ⊢
      rcases List.mem_cons.1 h with e | h
      · subst e; exact ⟨rfl, .inr ⟨w, by simp, hs, rfl, rfl⟩⟩
      · obtain ⟨h1, h2⟩ := after_mem h
        exact ⟨h1, h2.imp id fun ⟨x, h3, h4⟩ => ⟨x, by simp [h3], h4⟩⟩
    · rw [if_neg hs] at h ⊢
      rcases List.mem_cons.1 h with e | h
      · subst e; exact ⟨rfl, .inl (by simp)⟩
      · obtain ⟨h1, h2⟩ := after_mem h
        exact ⟨h1, h2.imp (fun h => by simp [h]) fun ⟨x, h3, h4⟩ => ⟨x, by simp [h3], h4⟩⟩
theorem after_pos : ∀ {W : List Lv} {l : List Nat}, l.length = W.length → (after W l).map (·.1) = l
  | [], [], _ => rfl
  | w :: r, q :: l, h => by rw [after, List.map_cons, after_pos (by simpa using h)]
  | [], _ :: _, h => by cases h
  | _ :: _, [], h => by cases h

/-! the scan -/
theorem l19r3_ok {a t s : Nat} {M R : List Int} (ho : Oo M a t s) (hM : M.length ≤ 6100) {f lim : Int} {yf fl : Bool} {S N1 Y H F O : Int} {kv : List (Int × Int)} {k1 : Int → Int → Int → Int → Bool → Bool → Int → Int → Int → Int → Int → Int → List Int → List Int → List (Int × Int) → Prop}
    (h : k1 a s f lim yf fl S N1 Y H F O M R kv) : l19r3 k1 a s ((a + 1 : Nat) : Int) f lim yf fl S N1 Y H F O M R kv := by
  have hl := ho.lt
  constructor
  intro I hI
  have key : ∀ n i, n + i = s → I a s ((a + 1 + i : Nat) : Int) f lim yf fl S N1 Y H F O M R kv := by
    intro n
    induction n with
    | zero =>
      intro i hi
      refine hI _ _ _ _ _ _ _ _ _ _ _ _ _ _ _ _ (brDn ?_ h)
      rw [wrap64 (by omega) (by omega)]; omega
    | succ n ih =>
      intro i hi
      have hg := ho.fd i (by omega)
      obtain ⟨hlt, hv⟩ := List.getElem?_eq_some_iff.1 hg
      refine hI _ _ _ _ _ _ _ _ _ _ _ _ _ _ _ _ (brD (by rw [wrap64 (by omega) (by omega)]; omega) (brD (by omega) ?_))
      rw [Int.toNat_natCast]
      refine needS hg (c18_one (brT rfl (brT rfl (brT rfl (brT rfl (brT rfl (brT rfl (brT (eqT_self (.int .i64) _) (brD (by omega) (needS hg ?_)))))))))) 
      have e : List.set M (a + 1 + i) 1 = M := by
        have := List.set_getElem_self hlt
        rwa [hv] at this
      rw [e, wrapS (by omega)]
      exact ih (i + 1) (by omega)
  exact key s 0 (by omega)
theorem c19_ok {f : Nat} {M R : List Int} (hM : M.length ≤ 6100) {lim : Int} {yf fl : Bool} {S N1 Y H F O : Int} {kv : List (Int × Int)} {k : Int → Int → Bool → Bool → Int → Int → Int → Int → Int → Int → List Int → List Int → List (Int × Int) → Prop} {L : List (Nat × Nat)} {a : Nat}
    (hr : fl = false → Rg M a L f) (h : k f lim yf fl S N1 Y H F O M R kv) : c19 a f lim yf fl S N1 Y H F O M R kv k := by
  constructor
  constructor
  intro I hI
  cases fl with
  | true => exact hI _ _ _ _ _ _ _ _ _ _ _ _ _ _ (brB (fun _ => brF rfl h) fun _ => h)
  | false =>
    have key : ∀ (L : List (Nat × Nat)) (a : Nat), Rg M a L f → I a f lim yf false S N1 Y H F O M R kv := by
      intro L
      induction L with
      | nil =>
        intro a h1
        have h1 : a = f := h1
        subst h1
        exact hI _ _ _ _ _ _ _ _ _ _ _ _ _ _ (brDn (by omega) h)
      | cons p L ih =>
        intro a h1
        obtain ⟨h1, ⟨t, ho⟩, h3⟩ := h1
        have hl := ho.lt
        have hs := ho.sl
        have := h3.le
        refine hI _ _ _ _ _ _ _ _ _ _ _ _ _ _ (brD (by omega) (brT rfl (brD (by omega) ?_)))
        rw [Int.toNat_natCast, wrapS (by omega)]
        refine needS ho.hd (c21_ok ho.tl hs (l19r3_ok ho hM ?_))
        rw [wrap64 (a := (p.2 : Int) + 1) (by omega) (by omega), wrap64 (by omega) (by omega), show (a : Int) + ((p.2 : Int) + 1) = ((a + p.2 + 1 : Nat) : Int) by omega]
        exact ih _ h3
    exact key L a (hr rfl)
theorem ptrs_len {W : List Lv} : (ptrs W).length = W.length := by simp [ptrs, two]
theorem c9_ok {W : List Lv} {N1 Y H F O : Nat} {M : List Int} {S : Int} (hb : HB N1 Y H F O M) (hW : W.length ≤ 60000) (hr : ∀ w ∈ W, Rt N1 Y H F O (F + H) true M O w) (hnd : (W.map (·.1)).Nodup) (hm : mw true W + 1 ≤ Y)
    {k1 k2 : Int → Int → Int → Int → Int → Int → Int → List Int → List Int → List Int → Prop}
    (h1 : F + H + 1 < O + Y → k1 16 S N1 Y H F O M [] [])
    (h2 : O + Y ≤ F + H + 1 → k2 0 S N1 1 H F ((O + mw true W : Nat) : Int) (gc (F + H) true W O false M).M [] (two (npos true W O))) : c9 (ptrs W) S N1 Y H F O M [] k1 k2 := by
  obtain ⟨b1, b2, b3, b4, b5, b6, b7, b8⟩ := id hb
  have hlen := ptrs_len (W := W)
  constructor
  unfold tc9
  rw [hlen, wrap64 (a := (O : Int) + Y) (by omega) (by omega), wrap64 (a := (F : Int) + H) (by omega) (by omega), wrap64 (a := (O : Int) + Y - 1) (by omega) (by omega), Int.toNat_natCast]
  refine brDn (by omega) (brP (fun q => h1 (by omega)) fun q => ?_)
  have h2 := h2 (by omega)
  have ee : ∀ x : Int, eqT (.int .i64) x x = true := fun x => eqT_self (.int .i64) x
  refine brT rfl (brT rfl (brT rfl (brT rfl (brT (ee _) (brT rfl (brT rfl (brT rfl (brT (ee _) (brT rfl (brT rfl (brT rfl (brT (ee _) (brT (ee _) (brD (by omega) ?_))))))))))))))
  obtain ⟨g1, g2, g3⟩ := gc_ok (lim := F + H) (yf := true) (W := W) (f := O) (M := M) (by omega)
  have hrg := gc_rg (W := W) (f := O) (M := M) (by omega) (by omega) hr
  have hml : (gc (F + H) true W O false M).M.length = M.length := (gc_else (by omega) (by omega) fun w h h3 => by obtain ⟨⟨t, ho, _⟩, _⟩ := (hr w h).m h3; have := ho.lt; omega).1
  constructor
  rw [show (F : Int) + H = ((F + H : Nat) : Int) by omega]
  refine l9r9_ok (by omega) (by omega) hb (by omega) hr hnd fun kv => ?_
  constructor
  intro I hI
  refine hI _ _ _ _ _ _ _ _ _ _ _ _ _ _ _ _ _ (brDn (by decide) (c19_ok (L := gnew true W O) (by omega) (fun _ => ?_) ?_))
  · rw [g2]; exact hrg
  · rw [g2, g3]; exact h2

def toOf (N1 H F : Nat) : Nat := if F = N1 then N1 + H else N1
theorem c10_ok {W : List Lv} {N1 Y H F O : Nat} {M : List Int} {S : Int} (hb : HB N1 Y H F O M) (hW : W.length ≤ 60000) (hr : ∀ w ∈ W, Rt N1 Y H F O (toOf N1 H F + H) false M (toOf N1 H F) w) (hnd : (W.map (·.1)).Nodup)
    {k1 k2 : Int → Int → Int → Int → Int → Int → Int → List Int → List Int → List Int → Prop}
    (h1 : H < mw false W → k1 16 S N1 Y H F O (gc (toOf N1 H F + H) false W (toOf N1 H F) false M).M [] [])
    (h2 : mw false W ≤ H → k2 0 S N1 1 H (toOf N1 H F) ((toOf N1 H F + mw false W : Nat) : Int) (gc (toOf N1 H F + H) false W (toOf N1 H F) false M).M [] (two (npos false W (toOf N1 H F)))) : c10 (ptrs W) S N1 Y H F O M [] k1 k2 := by
  obtain ⟨b1, b2, b3, b4, b5, b6, b7, b8⟩ := id hb
  have hlen := ptrs_len (W := W)
  have hto : toOf N1 H F ≤ N1 + H := by unfold toOf; split <;> omega
  have hml : (gc (toOf N1 H F + H) false W (toOf N1 H F) false M).M.length = M.length := (gc_else (by omega) (by omega) fun w h h3 => by obtain ⟨⟨t, ho, _⟩, _⟩ := (hr w h).m h3; have := ho.lt; omega).1
  have hfull : H < mw false W → (gc (toOf N1 H F + H) false W (toOf N1 H F) false M).fl = true := fun h => gc_full (by omega) (by omega)
  have hok : mw false W ≤ H → _ := fun h => gc_ok (lim := toOf N1 H F + H) (yf := false) (W := W) (f := toOf N1 H F) (M := M) (by omega)
  have hrg : mw false W ≤ H → _ := fun h => gc_rg (W := W) (f := toOf N1 H F) (M := M) (by omega) (by omega) hr
  constructor
  unfold tc10
  rw [hlen, wrap64 (a := (N1 : Int) + H) (by omega) (by omega), wrap64 (a := (N1 : Int) + H + H) (by omega) (by omega), Int.toNat_natCast]
  refine brDn (by omega) (brE (fun q => brD (by omega) ?_) fun q => brD (by omega) ?_)
  · have e : toOf N1 H F = N1 + H := by unfold toOf; rw [if_pos (by omega)]
    rw [e] at hml hfull hok hrg h1 h2 hr
    constructor
    rw [show (N1 : Int) + H = ((N1 + H : Nat) : Int) by omega, show ((N1 + H : Nat) : Int) + H = ((N1 + H + H : Nat) : Int) by omega]
    refine l9r9_ok (by omega) (by omega) hb (by omega) hr hnd fun kv => c19_ok (L := gnew false W (N1 + H)) (by omega) (fun hz => ?_) ?_
    · by_cases hm : mw false W ≤ H
      · rw [(hok hm).2.1]; exact hrg hm
      · rw [hfull (by omega)] at hz; cases hz
    · by_cases hm : mw false W ≤ H
      · obtain ⟨g1, g2, g3⟩ := hok hm
        exact brF g1 (by rw [g2, g3]; exact h2 hm)
      · exact brT (hfull (by omega)) (h1 (by omega))
  · have e : toOf N1 H F = N1 := by unfold toOf; rw [if_neg (by omega)]
    rw [e] at hml hfull hok hrg h1 h2 hr
    constructor
    rw [show (N1 : Int) + H = ((N1 + H : Nat) : Int) by omega]
    refine l9r9_ok (by omega) (by omega) hb (by omega) hr hnd fun kv => c19_ok (L := gnew false W N1) (by omega) (fun hz => ?_) ?_
    · by_cases hm : mw false W ≤ H
      · rw [(hok hm).2.1]; exact hrg hm
      · rw [hfull (by omega)] at hz; cases hz
    · by_cases hm : mw false W ≤ H
      · obtain ⟨g1, g2, g3⟩ := hok hm
        exact brF g1 (by rw [g2, g3]; exact h2 hm)
      · exact brT (hfull (by omega)) (h1 (by omega))

/-! the heap and its live objects -/
def ysub (W : List Lv) : List (Nat × Nat) := (W.filter (·.2.2)).map fun w => (w.1, w.2.1)
structure Iv (N1 H Y F O : Nat) (M : List Int) (W : List Lv) : Prop where
  hb : HB N1 Y H F O M
  ry : ∃ LY, Rg M 1 LY Y ∧ (ysub W).Sublist LY
  ro : ∃ LO, Rg M F LO O ∧ ∀ w ∈ W, w.2.2 = false → (w.1, w.2.1) ∈ LO
  nd : (W.map (·.1)).Nodup

theorem ysub_mem {W : List Lv} {w : Lv} (h : w ∈ W) (hy : w.2.2 = true) : (w.1, w.2.1) ∈ ysub W := List.mem_map.2 ⟨w, List.mem_filter.2 ⟨h, hy⟩, rfl⟩
theorem mw_ysub : ∀ {W : List Lv}, mw true W = wsum (ysub W)
  | [] => rfl
  | w :: r => by
    have ih := mw_ysub (W := r)
    rw [mw]
    cases hy : w.2.2 with
    | true =>
      rw [if_neg (by rintro ⟨_, h⟩; rw [hy] at h; cases h), ih]
      simp [ysub, hy, wsum]
    | false =>
      rw [if_pos ⟨rfl, hy⟩, ih]
      simp [ysub, hy]
theorem Iv.young {N1 H Y F O : Nat} {M : List Int} {W : List Lv} (h : Iv N1 H Y F O M W) {w : Lv} (hw : w ∈ W) (hy : w.2.2 = true) : 1 ≤ w.1 ∧ w.1 + w.2.1 + 1 ≤ Y ∧ ∃ t, Oo M w.1 t w.2.1 := by
  obtain ⟨LY, h1, h2⟩ := h.ry
  exact h1.mem (h2.subset (ysub_mem hw hy))
theorem Iv.old {N1 H Y F O : Nat} {M : List Int} {W : List Lv} (h : Iv N1 H Y F O M W) {w : Lv} (hw : w ∈ W) (hy : w.2.2 = false) : F ≤ w.1 ∧ w.1 + w.2.1 + 1 ≤ O ∧ ∃ t, Oo M w.1 t w.2.1 := by
  obtain ⟨LO, h1, h2⟩ := h.ro
  exact h1.mem (h2 w hw hy)
theorem Iv.val {N1 H Y F O : Nat} {M : List Int} {W : List Lv} (h : Iv N1 H Y F O M W) {w : Lv} (hw : w ∈ W) : Val N1 Y H F O M w.1 w.2.1 := by
  cases hy : w.2.2 with
  | true => obtain ⟨h1, h2, t, ho⟩ := h.young hw hy; exact ⟨t, ho, .inl ⟨h1, h2⟩⟩
  | false => obtain ⟨h1, h2, t, ho⟩ := h.old hw hy; exact ⟨t, ho, .inr ⟨h1, h2⟩⟩
theorem Iv.mw {N1 H Y F O : Nat} {M : List Int} {W : List Lv} (h : Iv N1 H Y F O M W) : mw true W + 1 ≤ Y := by
  obtain ⟨LY, h1, h2⟩ := h.ry
  have := h1.sum
  have := wsum_sub h2
  rw [mw_ysub]
  omega
theorem Iv.rtm {N1 H Y F O : Nat} {M : List Int} {W : List Lv} (h : Iv N1 H Y F O M W) : ∀ w ∈ W, Rt N1 Y H F O (F + H) true M O w := by
  intro w hw
  obtain ⟨b1, b2, b3, b4, b5, b6, b7, b8⟩ := h.hb
  refine ⟨fun _ hy => ?_, fun hn => ?_⟩
  · obtain ⟨h1, h2, _⟩ := h.old hw hy; omega
  · have hy : w.2.2 = true := by cases hz : w.2.2 with | true => rfl | false => exact (hn ⟨rfl, hz⟩).elim
    obtain ⟨h1, h2, _⟩ := h.young hw hy
    exact ⟨h.val hw, .inl (by omega), fun _ => by omega⟩
theorem Iv.rtM {N1 H Y F O : Nat} {M : List Int} {W : List Lv} (h : Iv N1 H Y F O M W) : ∀ w ∈ W, Rt N1 Y H F O (toOf N1 H F + H) false M (toOf N1 H F) w := by
  intro w hw
  obtain ⟨b1, b2, b3, b4, b5, b6, b7, b8⟩ := h.hb
  refine ⟨fun h => (by cases h), fun hn => ⟨h.val hw, ?_, fun h => (by cases h)⟩⟩
  cases hy : w.2.2 with
  | true => obtain ⟨h1, h2, _⟩ := h.young hw hy; unfold toOf; split <;> omega
  | false => obtain ⟨h1, h2, _⟩ := h.old hw hy; unfold toOf; split <;> omega

theorem Iv.small {N1 H Y F O t s : Nat} {M : List Int} {W : List Lv} (h : Iv N1 H Y F O M W) (ht : t ≤ 258) (hs : s ≤ 4095) (hf : Y + s + 1 ≤ N1) : Iv N1 H (Y + s + 1) F O (wrote M Y t s) (W ++ [(Y, s, true)]) := by
  obtain ⟨b1, b2, b3, b4, b5, b6, b7, b8⟩ := id h.hb
  obtain ⟨LY, y1, y2⟩ := h.ry
  obtain ⟨LO, o1, o2⟩ := h.ro
  refine ⟨⟨b1, by omega, hf, b4, b5, b6, by rw [wrote_len]; exact b7, by rw [wrote_len]; exact b8⟩, ⟨LY ++ [(Y, s)], (y1.same fun i i1 i2 => wrote_else (by omega) (.inl i2)).snoc (wrote_obj ht hs (by omega)), ?_⟩, ⟨LO, o1.same fun i i1 i2 => wrote_else (by omega) (.inr (by omega)), fun w hw hy => ?_⟩, ?_⟩
  · have : ysub (W ++ [(Y, s, true)]) = ysub W ++ [(Y, s)] := by simp [ysub]
    rw [this]
    exact y2.append (.refl _)
  · rcases List.mem_append.1 hw with hw | hw
    · exact o2 w hw hy
    · rw [List.mem_singleton] at hw; subst hw; cases hy
  · rw [List.map_append, List.nodup_append]
    refine ⟨h.nd, by simp, fun a ha b hb e => ?_⟩
    obtain ⟨w, hw, rfl⟩ := List.mem_map.1 ha
    simp only [List.map_cons, List.map_nil, List.mem_singleton] at hb
    subst hb
    cases hy : w.2.2 with
    | true => obtain ⟨h1, h2, _⟩ := h.young hw hy; omega
    | false => obtain ⟨h1, h2, _⟩ := h.old hw hy; omega
theorem Iv.large {N1 H Y F O t s : Nat} {M : List Int} {W : List Lv} (h : Iv N1 H Y F O M W) (ht : t ≤ 258) (hs : s ≤ 4095) (hf : O + s + 1 ≤ F + H) : Iv N1 H Y F (O + s + 1) (wrote M O t s) (W ++ [(O, s, false)]) := by
  obtain ⟨b1, b2, b3, b4, b5, b6, b7, b8⟩ := id h.hb
  obtain ⟨LY, y1, y2⟩ := h.ry
  obtain ⟨LO, o1, o2⟩ := h.ro
  refine ⟨⟨b1, b2, b3, b4, by omega, hf, by rw [wrote_len]; exact b7, by rw [wrote_len]; exact b8⟩, ⟨LY, y1.same fun i i1 i2 => wrote_else (by omega) (.inl (by omega)), ?_⟩, ⟨LO ++ [(O, s)], (o1.same fun i i1 i2 => wrote_else (by omega) (.inl i2)).snoc (wrote_obj ht hs (by omega)), fun w hw hy => ?_⟩, ?_⟩
  · have : ysub (W ++ [(O, s, false)]) = ysub W := by simp [ysub]
    rw [this]
    exact y2
  · rcases List.mem_append.1 hw with hw | hw
    · exact List.mem_append_left _ (o2 w hw hy)
    · rw [List.mem_singleton] at hw; subst hw; simp
  · rw [List.map_append, List.nodup_append]
    refine ⟨h.nd, by simp, fun a ha b hb e => ?_⟩
    obtain ⟨w, hw, rfl⟩ := List.mem_map.1 ha
    simp only [List.map_cons, List.map_nil, List.mem_singleton] at hb
    subst hb
    cases hy : w.2.2 with
    | true => obtain ⟨h1, h2, _⟩ := h.young hw hy; omega
    | false => obtain ⟨h1, h2, _⟩ := h.old hw hy; omega
theorem Iv.drop {N1 H Y F O n : Nat} {M : List Int} {W : List Lv} (h : Iv N1 H Y F O M W) : Iv N1 H Y F O M (W.drop n) := by
  obtain ⟨LY, y1, y2⟩ := h.ry
  obtain ⟨LO, o1, o2⟩ := h.ro
  refine ⟨h.hb, ⟨LY, y1, .trans (((List.drop_sublist n W).filter _).map _) y2⟩, ⟨LO, o1, fun w hw hy => o2 w (List.mem_of_mem_drop hw) hy⟩, ?_⟩
  exact h.nd.sublist ((List.drop_sublist n W).map _)

theorem Rg.append {M : List Int} : ∀ {L L' : List (Nat × Nat)} {a b c : Nat}, Rg M a L b → Rg M b L' c → Rg M a (L ++ L') c
  | [], _, a, b, _, h, h' => by have h : a = b := h; subst h; exact h'
  | p :: L, _, a, b, _, ⟨h1, h2, h3⟩, h' => ⟨h1, h2, h3.append h'⟩
theorem ysub_after : ∀ {W : List Lv} {l : List Nat}, ysub (after W l) = []
  | [], [] => rfl
  | [], _ :: _ => rfl
  | _ :: _, [] => rfl
  | w :: r, q :: l => by
    have := ysub_after (W := r) (l := l)
    simpa [ysub, after] using this
theorem Iv.minor {N1 H Y F O : Nat} {M : List Int} {W : List Lv} (h : Iv N1 H Y F O M W) (hf : O + Y ≤ F + H + 1) : Iv N1 H 1 F (O + Go.Proofs.Ytdljpdafghdedaa.mw true W) (gc (F + H) true W O false M).M (after W (npos true W O)) := by
  obtain ⟨b1, b2, b3, b4, b5, b6, b7, b8⟩ := id h.hb
  obtain ⟨LO, o1, o2⟩ := h.ro
  have hm := h.mw
  have hrg := gc_rg (W := W) (f := O) (M := M) (by omega) (by omega) h.rtm
  obtain ⟨hml, hel⟩ := gc_else (W := W) (f := O) (M := M) (lim := F + H) (yf := true) (by omega) (by omega) fun w hw h3 => by obtain ⟨⟨t, ho, _⟩, _⟩ := (h.rtm w hw).m h3; have := ho.lt; omega
  refine ⟨⟨b1, Nat.le_refl _, by omega, b4, by omega, by omega, by rw [hml]; exact b7, by rw [hml]; exact b8⟩, ⟨[], rfl, by rw [ysub_after]; exact .refl _⟩, ⟨LO ++ gnew true W O, (o1.same fun i i1 i2 => hel i (.inl i2)).append hrg, fun w' hw' _ => ?_⟩, ?_⟩
  · rcases (after_mem hw').2 with h1 | ⟨w, h1, h2, h3, h4⟩
    · exact List.mem_append_right _ h1
    · have := o2 w h1 h2.2
      rw [h3, h4] at this
      exact List.mem_append_left _ this
  · rw [after_pos npos_len]
    refine npos_nodup h.nd fun w hw hs => ?_
    obtain ⟨h1, h2, _⟩ := h.old hw hs.2
    omega
theorem Iv.major {N1 H Y F O : Nat} {M : List Int} {W : List Lv} (h : Iv N1 H Y F O M W) (hf : Go.Proofs.Ytdljpdafghdedaa.mw false W ≤ H) :
    Iv N1 H 1 (toOf N1 H F) (toOf N1 H F + Go.Proofs.Ytdljpdafghdedaa.mw false W) (gc (toOf N1 H F + H) false W (toOf N1 H F) false M).M (after W (npos false W (toOf N1 H F))) := by
  obtain ⟨b1, b2, b3, b4, b5, b6, b7, b8⟩ := id h.hb
  have hto : toOf N1 H F = N1 ∨ toOf N1 H F = N1 + H := by unfold toOf; split <;> simp
  have hrg := gc_rg (W := W) (f := toOf N1 H F) (M := M) (by omega) (by omega) h.rtM
  obtain ⟨hml, hel⟩ := gc_else (W := W) (f := toOf N1 H F) (M := M) (lim := toOf N1 H F + H) (yf := false) (by omega) (by omega) fun w hw h3 => by obtain ⟨⟨t, ho, _⟩, _⟩ := (h.rtM w hw).m h3; have := ho.lt; omega
  refine ⟨⟨b1, Nat.le_refl _, by omega, hto, by omega, by omega, by rw [hml]; exact b7, by rw [hml]; exact b8⟩, ⟨[], rfl, by rw [ysub_after]; exact .refl _⟩, ⟨gnew false W (toOf N1 H F), hrg, fun w' hw' _ => ?_⟩, ?_⟩
  · rcases (after_mem hw').2 with h1 | ⟨w, h1, h2, h3, h4⟩
    · exact h1
    · cases h2.1
  · rw [after_pos npos_len]
    refine npos_nodup h.nd fun w hw hs => (by cases hs.1)
theorem Iv.fullM {N1 H Y F O : Nat} {M : List Int} {W : List Lv} (h : Iv N1 H Y F O M W) : Iv N1 H Y F O (gc (toOf N1 H F + H) false W (toOf N1 H F) false M).M W := by
  obtain ⟨b1, b2, b3, b4, b5, b6, b7, b8⟩ := id h.hb
  obtain ⟨LY, y1, y2⟩ := h.ry
  obtain ⟨LO, o1, o2⟩ := h.ro
  have hto : toOf N1 H F = N1 ∨ toOf N1 H F = N1 + H := by unfold toOf; split <;> simp
  obtain ⟨hml, hel⟩ := gc_else (W := W) (f := toOf N1 H F) (M := M) (lim := toOf N1 H F + H) (yf := false) (by omega) (by omega) fun w hw h3 => by obtain ⟨⟨t, ho, _⟩, _⟩ := (h.rtM w hw).m h3; have := ho.lt; omega
  refine ⟨⟨b1, b2, b3, b4, b5, b6, by rw [hml]; exact b7, by rw [hml]; exact b8⟩, ⟨LY, y1.same fun i i1 i2 => hel i ?_, y2⟩, ⟨LO, o1.same fun i i1 i2 => hel i ?_, o2⟩, h.nd⟩
  · unfold toOf at hto ⊢; split <;> omega
  · unfold toOf at hto ⊢; split <;> omega
abbrev V := Int × Int × Int × Unit
def enc (w : Lv) : V := (2 * (w.1 : Int), (w.2.1 : Int), if w.2.2 then 1 else 0, ())
/-- the live objects as they lie in a part of a row -/
def Liv (row : List V) (off : Nat) (W : List Lv) : Prop := (row.drop off).take W.length = W.map enc
theorem Liv.get {row : List V} {off i : Nat} {W : List Lv} {w : Lv} (h : Liv row off W) (hw : W[i]? = some w) : row[off + i]? = some (enc w) := by
  have h1 : ((row.drop off).take W.length)[i]? = some (enc w) := by rw [h, List.getElem?_map, hw]; rfl
  have hi := (List.getElem?_eq_some_iff.1 hw).1
  rwa [List.getElem?_take, if_pos hi, List.getElem?_drop] at h1
theorem Liv.le {row : List V} {off : Nat} {W : List Lv} (h : Liv row off W) : W = [] ∨ off + W.length ≤ row.length := by
  have := congrArg List.length h
  rw [List.length_take, List.length_drop, List.length_map] at this
  cases W with
  | nil => exact .inl rfl
  | cons w r => right; simp only [List.length_cons] at this ⊢; omega

theorem mw_le {yf : Bool} : ∀ {W : List Lv}, (∀ w ∈ W, w.2.1 ≤ 4095) → mw yf W ≤ 4096 * W.length
  | [], _ => Nat.le_refl _
  | w :: r, h => by
    have := mw_le (yf := yf) (W := r) fun w' h' => h w' (by simp [h'])
    have := h w (by simp)
    rw [mw, List.length_cons]
    split <;> omega

theorem l3r40_ok {W : List Lv} {row : List V} {off cap : Nat} (hrow : Liv row off W) (hW : W.length ≤ 400) (hs : ∀ w ∈ W, w.2.1 ≤ 4095) {s1 : Int} {s2 s3 : List Int} {s4 s5 s6 : Int} {s7 s8 s9 : Nat} {s10 s11 a1 a2 a3 a4 a5 a6 : Int} {M R : List Int}
    {k1 : Int → List Int → List Int → Int → Int → Int → Nat → Nat → Nat → Int → Int → Int → Int → Int → Int → Int → Int → Int → Int → List Int → List Int → List V → List Int → Prop}
    (hk : k1 s1 s2 s3 s4 s5 s6 s7 s8 s9 s10 s11 (mw false W : Nat) (mw true W : Nat) a1 a2 a3 a4 a5 a6 M R row (ptrs W)) :
    l3r40 k1 s1 s2 s3 s4 s5 s6 s7 s8 s9 s10 s11 0 0 off W.length cap (W.length : Int) 0 a1 a2 a3 a4 a5 a6 M R row [] := by
  constructor
  intro I hI
  have key : ∀ (r : List Lv) (i a b : Nat) (done : List Int), W.drop i = r → i + r.length = W.length → done.length = i → a + 4096 * r.length ≤ 4096 * 400 → b + 4096 * r.length ≤ 4096 * 400 →
      k1 s1 s2 s3 s4 s5 s6 s7 s8 s9 s10 s11 ((a + mw false r : Nat) : Int) ((b + mw true r : Nat) : Int) a1 a2 a3 a4 a5 a6 M R row (done ++ ptrs r) →
      I s1 s2 s3 s4 s5 s6 s7 s8 s9 s10 s11 a b off W.length cap (W.length : Int) i a1 a2 a3 a4 a5 a6 M R row done := by
    intro r
    induction r with
    | nil =>
      intro i a b done hd hi hdl ha hb hk
      refine hI _ _ _ _ _ _ _ _ _ _ _ _ _ _ _ _ _ _ _ _ _ _ _ _ _ _ _ _ (brDn (by simp at hi; omega) ?_)
      simpa [mw, ptrs, two] using hk
    | cons w r ih =>
      intro i a b done hd hi hdl ha hb hk
      simp only [List.length_cons] at hi ha hb
      have hw : W[i]? = some w := by
        have := congrArg (fun l => l[0]?) hd
        simpa using this
      have hd2 : W.drop (i + 1) = r := by
        have := congrArg (List.drop 1) hd
        simpa [List.drop_drop, Nat.add_comm] using this
      have hws := hs w (List.mem_of_getElem? hw)
      have e1 : IntKind.wrap .i64 ((a : Int) + IntKind.wrap .i64 ((w.2.1 : Int) + 1)) = ((a + (w.2.1 + 1) : Nat) : Int) := by
        rw [wrap64 (a := (w.2.1 : Int) + 1) (by omega) (by omega), wrap64 (by omega) (by omega)]; omega
      have e2 : IntKind.wrap .i64 ((b : Int) + IntKind.wrap .i64 ((enc w).2.2.1 * IntKind.wrap .i64 ((w.2.1 : Int) + 1))) = ((b + (if stays true w then 0 else w.2.1 + 1) : Nat) : Int) := by
        rw [wrap64 (a := (w.2.1 : Int) + 1) (by omega) (by omega)]
        rcases Bool.eq_false_or_eq_true w.2.2 with hy | hy
        · have e0 : (enc w).2.2.1 = 1 := by simp [enc, hy]
          have e9 : ¬ stays true w := by rintro ⟨_, h⟩; rw [hy] at h; cases h
          rw [e0, if_neg e9, Int.one_mul, wrap64 (a := (w.2.1 : Int) + 1) (by omega) (by omega), wrap64 (by omega) (by omega)]; omega
        · have e0 : (enc w).2.2.1 = 0 := by simp [enc, hy]
          rw [e0, if_pos ⟨rfl, hy⟩, Int.zero_mul, wrap64 (a := 0) (by omega) (by omega), wrap64 (by omega) (by omega)]; omega
      refine hI _ _ _ _ _ _ _ _ _ _ _ _ _ _ _ _ _ _ _ _ _ _ _ _ _ _ _ _ (brD (by omega) (brD (by omega) ?_))
      rw [Int.toNat_natCast]
      refine needS (hrow.get hw) (brT (roomS (by omega)) ?_)
      show I s1 s2 s3 s4 s5 s6 s7 s8 s9 s10 s11 (IntKind.wrap .i64 ((a : Int) + IntKind.wrap .i64 ((w.2.1 : Int) + 1))) (IntKind.wrap .i64 ((b : Int) + IntKind.wrap .i64 ((enc w).2.2.1 * IntKind.wrap .i64 ((w.2.1 : Int) + 1)))) off W.length cap (W.length : Int) (IntKind.wrap .i64 ((i : Int) + 1)) a1 a2 a3 a4 a5 a6 M R row (done ++ [2 * (w.1 : Int)])
      rw [e1, e2, wrapS (by omega)]
      refine ih (i + 1) _ _ _ hd2 (by omega) (by simp [hdl]) (by omega) (by split <;> omega) ?_
      have e3 : a + (w.2.1 + 1) + mw false r = a + mw false (w :: r) := by rw [mw, if_neg (by rintro ⟨h, _⟩; cases h)]; omega
      have e4 : b + (if stays true w then 0 else w.2.1 + 1) + mw true r = b + mw true (w :: r) := by rw [mw]; omega
      rw [e3, e4]
      simpa [ptrs, two] using hk
  exact key W 0 0 0 [] rfl (by omega) rfl (by omega) (by omega) (by simpa using hk)

theorem l3r61_ok {W W' : List Lv} {row : List V} {off cap : Nat} (hrow : Liv row off W) (hoff : off + W.length ≤ row.length) (hW : W.length ≤ 400) (hl : W'.length = W.length) {N1 Y H F O : Nat} {M R : List Int} {S : Int} (hb : HB N1 Y H F O M) (hv : ∀ w ∈ W', Val N1 Y H F O M w.1 w.2.1 ∧ w.2.2 = false)
    (hsz : ∀ (i : Nat) (w w' : Lv), W[i]? = some w → W'[i]? = some w' → w.2.1 = w'.2.1)
    {k1 : Bool → Prop} {k2 : Int → List Int → List Int → Int → Int → Int → Nat → Nat → Nat → Int → Int → Int → Int → Int → Int → Int → List Int → List Int → List V → Prop} {s1 : Int} {s2 s3 : List Int} {s4 s5 s6 s10 : Int}
    (hk : ∀ row', Liv row' off W' → row'.length = row.length → k2 s1 s2 s3 s4 s5 s6 off W.length cap s10 S N1 Y H F O M R row') :
    l3r61 k1 k2 s1 s2 s3 s4 s5 s6 off W.length cap s10 (W.length : Int) 0 S N1 Y H F O M R row (ptrs W') := by
  constructor
  intro I hI
  let A : List V := W'.map enc
  have hA : A.length = W.length := by show (W'.map enc).length = _; rw [List.length_map]; exact hl
  let rk : Nat → List V := fun k => row.take off ++ A.take k ++ row.drop (off + k)
  have hrkl : ∀ k, k ≤ W.length → (rk k).length = row.length := by
    intro k hk
    show (row.take off ++ A.take k ++ row.drop (off + k)).length = _
    simp only [List.length_append, List.length_take, List.length_drop, hA]
    omega
  have h0 : I s1 s2 s3 s4 s5 s6 off W.length cap s10 (W.length : Int) ((0 : Nat) : Int) S N1 Y H F O M R (rk 0) (ptrs W') := by
    refine upInd (N := W.length) (M := fun k => I s1 s2 s3 s4 s5 s6 off W.length cap s10 (W.length : Int) (k : Int) S N1 Y H F O M R (rk k) (ptrs W')) ?_ (fun k hk ih => ?_) 0 (Nat.zero_le _)
    · refine hI _ _ _ _ _ _ _ _ _ _ _ _ _ _ _ _ _ _ _ _ _ _ (brDn (by omega) (hk _ ?_ (hrkl _ (Nat.le_refl _))))
      show ((row.take off ++ A.take W.length ++ row.drop (off + W.length)).drop off).take W'.length = W'.map enc
      have e1 : (row.take off).length = off := by rw [List.length_take]; omega
      rw [List.append_assoc, List.drop_append_of_le_length (by omega), List.drop_of_length_le (by omega), List.nil_append, List.take_of_length_le (i := W.length) (by omega), hl, ← hA, List.take_left]
    · have hk1 : k < W'.length := by omega
      have hk2 : k < W.length := hk
      obtain ⟨w', hw'⟩ : ∃ w', W'[k]? = some w' := ⟨_, List.getElem?_eq_getElem hk1⟩
      obtain ⟨w, hw⟩ : ∃ w, W[k]? = some w := ⟨_, List.getElem?_eq_getElem hk2⟩
      have hse := hsz k w w' hw hw'
      obtain ⟨hval, hyg⟩ := hv w' (List.mem_of_getElem? hw')
      have hp : (ptrs W')[k]? = some (2 * (w'.1 : Int)) := by simp [ptrs, two, hw']
      have hpl : (ptrs W').length = W.length := by rw [ptrs_len, hl]
      have e1 : (row.take off ++ A.take k).length = off + k := by simp only [List.length_append, List.length_take, hA]; omega
      have hg : (rk k)[off + k]? = some (enc w) := by
        show (row.take off ++ A.take k ++ row.drop (off + k))[off + k]? = _
        rw [List.getElem?_append_right (by omega), e1, Nat.sub_self, List.getElem?_drop, Nat.add_zero]
        exact hrow.get hw
      have hnext : List.set (rk k) (off + k) (enc w') = rk (k + 1) := by
        show List.set (row.take off ++ A.take k ++ row.drop (off + k)) (off + k) (enc w') = row.take off ++ A.take (k + 1) ++ row.drop (off + (k + 1))
        have hA2 : A.take (k + 1) = A.take k ++ [enc w'] := by
          have : A[k]? = some (enc w') := by show (W'.map enc)[k]? = _; rw [List.getElem?_map, hw']; rfl
          rw [List.take_add_one, this]; rfl
        rw [List.set_append_right _ _ (by omega), e1, Nat.sub_self, drop_cons (by omega), List.set_cons_zero, hA2]
        simp [Nat.add_assoc]
      have hrl := hrkl k (by omega)
      have hset1 : ∀ x : V, (List.set (rk k) (off + k) x)[off + k]? = some x := fun x => by rw [List.getElem?_set, if_pos rfl, if_pos (by omega)]
      refine hI _ _ _ _ _ _ _ _ _ _ _ _ _ _ _ _ _ _ _ _ _ _ (brD (by omega) (brD (by rw [hpl]; omega) ?_))
      rw [Int.toNat_natCast]
      refine needS hp (brD (by omega) (needS hg (brD (by omega) (needS (hset1 _) (brD (by rw [hpl]; omega) (needS hp (c11v2_ok hb hval fun t => brF rfl (brD (by omega) ?_))))))))
      rw [List.set_set]
      refine needS (hset1 _) (brF ?_ ?_)
      · show ((w'.2.1 : Int) != (w.2.1 : Int)) = false
        simp [hse]
      · rw [wrapS (by omega)]
        have e2 : ((2 * (w'.1 : Int), (enc w).2).1, (2 * (w'.1 : Int), (enc w).2).2.1, 0, (2 * (w'.1 : Int), (enc w).2).2.2.2) = enc w' := by
          show ((2 * (w'.1 : Int), (w.2.1 : Int), (0 : Int), ()) : V) = (2 * (w'.1 : Int), (w'.2.1 : Int), if w'.2.2 then 1 else 0, ())
          rw [hyg, hse]; rfl
        rw [e2, hnext]
        exact ih
  have e0 : rk 0 = row := by show row.take off ++ A.take 0 ++ row.drop (off + 0) = row; simp
  rw [e0] at h0
  exact h0
/-- the law's own sum -/
theorem rooms {N H y o s F : Nat} (hN : N ≤ 6100) (hH : H ≤ 6100) (hy : y ≤ 6100) (ho : o ≤ 6100) (hs : s ≤ 4095) {K : Prop} (kf : Prop) (h : K) :
    br (decide (s + 1 ≤ N))
   (br (decide (((IntKind.wrap .i64 ((IntKind.wrap .i64 ((y : Int) + s)) + 1)) : Int) ≤ N))
    (br (!((roomH s (N + 1) (y + 1) H F (F + o) : Bool) == true)) kf K)
    (br (!(decide (s + 1 ≤ N)))
     (br (!((roomH s (N + 1) (y + 1) H F (F + o) : Bool) == (decide (((IntKind.wrap .i64 ((IntKind.wrap .i64 ((o : Int) + s)) + 1)) : Int) ≤ H)))) kf K)
     (br (!((roomH s (N + 1) (y + 1) H F (F + o) : Bool) == false)) kf K)))
   (br (!(decide (s + 1 ≤ N)))
    (br (!((roomH s (N + 1) (y + 1) H F (F + o) : Bool) == (decide (((IntKind.wrap .i64 ((IntKind.wrap .i64 ((o : Int) + s)) + 1)) : Int) ≤ H)))) kf K)
    (br (!((roomH s (N + 1) (y + 1) H F (F + o) : Bool) == false)) kf K)) := by
  rw [wrap64 (a := (y : Int) + s) (by omega) (by omega), wrap64 (a := (o : Int) + s) (by omega) (by omega), wrap64 (a := (y : Int) + s + 1) (by omega) (by omega), wrap64 (a := (o : Int) + s + 1) (by omega) (by omega)]
  by_cases hsm : s + 1 ≤ N
  · have e : roomH s (N + 1) (y + 1) H F (F + o) = decide (y + 1 + s + 1 ≤ N + 1) := by unfold roomH; rw [if_neg (by omega)]
    refine brD hsm (brP (fun q => ?_) fun q => brF (by simp [hsm]) ?_)
    · rw [e, decide_eq_true (show y + 1 + s + 1 ≤ N + 1 by omega)]; exact brF rfl h
    · rw [e, decide_eq_false (show ¬ y + 1 + s + 1 ≤ N + 1 by omega)]; exact brF rfl h
  · have e : roomH s (N + 1) (y + 1) H F (F + o) = decide ((o : Int) + s + 1 ≤ H) := by unfold roomH; rw [if_pos (by omega)]; exact decide_eq_decide.2 (by omega)
    refine brDn hsm (brT (by simp; omega) ?_)
    rw [e]
    exact brF (by simp) h

theorem j3r34_ok {N H y F o s : Nat} {M R : List Int} {S : Int} (hb : HB (N + 1) (y + 1) H F (F + o) M) (hs : s ≤ 4095) {k1 : Bool → Prop} {k2 : Int → List Int → List Int → Int → Int → Int → Int → Int → Int → Int → Int → Int → Int → List Int → List Int → List V → Prop} {s2 s3 : List Int} {s7 : Int} {row : List V}
    (hk : k2 N s2 s3 H y o s7 S ((N + 1 : Nat) : Int) ((y + 1 : Nat) : Int) H F ((F + o : Nat) : Int) M R row) :
    j3r34 k1 k2 N s2 s3 H y o s7 s (decide (s + 1 ≤ N)) S ((N + 1 : Nat) : Int) ((y + 1 : Nat) : Int) H F ((F + o : Nat) : Int) M R row := by
  obtain ⟨b1, b2, b3, b4, b5, b6, b7, b8⟩ := id hb
  constructor
  refine c8v2_ok hb hs ?_
  exact rooms (by omega) (by omega) (by omega) (by omega) hs _ hk
theorem j3r34v2_ok {N H y F o s : Nat} {M R : List Int} {S : Int} (hb : HB (N + 1) (y + 1) H F (F + o) M) (hs : s ≤ 4095) {k1 : Bool → Prop} {k2 : Int → List Int → List Int → Int → Int → Int → Nat → Nat → Nat → Int → Int → Int → Int → Int → Int → Int → List Int → List Int → List V → Prop} {s2 s3 : List Int} {a b c : Nat} {s7 : Int} {row : List V}
    (hk : k2 N s2 s3 H y o a b c s7 S ((N + 1 : Nat) : Int) ((y + 1 : Nat) : Int) H F ((F + o : Nat) : Int) M R row) :
    j3r34v2 k1 k2 N s2 s3 H y o a b c s7 s (decide (s + 1 ≤ N)) S ((N + 1 : Nat) : Int) ((y + 1 : Nat) : Int) H F ((F + o : Nat) : Int) M R row := by
  obtain ⟨b1, b2, b3, b4, b5, b6, b7, b8⟩ := id hb
  constructor
  refine c8v2_ok hb hs ?_
  exact rooms (by omega) (by omega) (by omega) (by omega) hs _ hk

theorem map_snoc {W : List Lv} {w : Lv} : W.map enc ++ [enc w] = (W ++ [w]).map enc := by simp
theorem enc_s {p s : Nat} : enc (p, s, true) = (2 * (p : Int), (s : Int), 1, ()) := rfl
theorem enc_l {p s : Nat} : enc (p, s, false) = (2 * (p : Int), (s : Int), 0, ()) := rfl
theorem wr1 {a s : Nat} (ha : a ≤ 6100) (hs : s ≤ 4095) : IntKind.wrap .i64 ((a : Int) + (IntKind.wrap .i64 ((s : Int) + 1))) = ((a + s + 1 : Nat) : Int) := by
  rw [wrap64 (a := (s : Int) + 1) (by omega) (by omega), wrap64 (by omega) (by omega)]; omega

theorem j3r21_ok {N H y F o s : Nat} {M : List Int} {S x : Int} {W : List Lv} (hiv : Iv (N + 1) H (y + 1) F (F + o) M W) (hW : W.length ≤ 400) (hs : s ≤ 4095) (hx : -9223372036854775808 ≤ x) (hx2 : x ≤ 9223372036854775807)
    {k1 : Bool → Prop} {k2 : Int → List Int → List Int → Int → Int → Int → Int → Int → Int → Int → Int → Int → Int → List Int → List Int → List V → Prop} {s2 s3 : List Int} {s7 : Int}
    (hk : ∀ (y' o' : Nat) (M' : List Int) (W' : List Lv), Iv (N + 1) H (y' + 1) F (F + o') M' W' → W'.length ≤ W.length + 1 → k2 N s2 s3 H y' o' s7 S ((N + 1 : Nat) : Int) ((y' + 1 : Nat) : Int) H F ((F + o' : Nat) : Int) M' [] (W'.map enc)) :
    j3r21 k1 k2 N s2 s3 H y o s7 x s (decide (s + 1 ≤ N)) (roomH s (N + 1) (y + 1) H F (F + o)) S ((N + 1 : Nat) : Int) ((y + 1 : Nat) : Int) H F ((F + o : Nat) : Int) M [] (W.map enc) := by
  obtain ⟨b1, b2, b3, b4, b5, b6, b7, b8⟩ := id hiv.hb
  constructor
  refine c4_ok (by decide) (by decide) hx hx2 fun t ht => c7v2_ok hiv.hb (by omega) hs (fun hr => ?_) (fun h1 h2 => ?_) fun h1 h2 => ?_
  · rw [hr]
    exact brT rfl (brF rfl (brF rfl (j3r34_ok hiv.hb hs (hk y o M W hiv (by omega)))))
  · have hr : roomH s (N + 1) (y + 1) H F (F + o) = true := by unfold roomH; rw [if_pos (by omega)]; exact decide_eq_true h2
    have hn := hiv.large (t := t) (s := s) (by omega) hs h2
    rw [hr, wr1 (a := o) (by omega) hs, ← enc_l, map_snoc]
    have e : ((F + o + s + 1 : Nat) : Int) = ((F + (o + s + 1) : Nat) : Int) := by omega
    have e2 : F + o + s + 1 = F + (o + s + 1) := by omega
    rw [e]
    rw [e2] at hn
    exact brF rfl (brF rfl (brDn (by omega) (brT (roomS (by rw [List.length_map]; omega)) (j3r34_ok hn.hb hs (hk y (o + s + 1) _ _ hn (by simp))))))
  · have hr : roomH s (N + 1) (y + 1) H F (F + o) = true := by unfold roomH; rw [if_neg (by omega)]; exact decide_eq_true h2
    have hn := hiv.small (t := t) (s := s) (by omega) hs h2
    rw [hr, wr1 (a := y) (by omega) hs, ← enc_s, map_snoc]
    have e : ((y + 1 + s + 1 : Nat) : Int) = (((y + s + 1) + 1 : Nat) : Int) := by omega
    have e2 : y + 1 + s + 1 = (y + s + 1) + 1 := by omega
    rw [e]
    rw [e2] at hn
    refine brF rfl (brF rfl (brD (by omega) (brF ?_ (brT (roomS (by rw [List.length_map]; omega)) (j3r34_ok hn.hb hs (hk (y + s + 1) o _ _ hn (by simp)))))))
    rw [wrap64 (a := 1 + (y : Int)) (by omega) (by omega), wrap64 (by omega) (by omega)]
    simp; omega
theorem roomsB {N H y o s F : Nat} (hN : N ≤ 6100) (hH : H ≤ 6100) (hy : y ≤ 6100) (ho : o ≤ 6100) (hs : s ≤ 4095) (J : Bool → Bool → Prop)
    (h : J (decide (s + 1 ≤ N)) (roomH s (N + 1) (y + 1) H F (F + o))) :
   br (decide (((IntKind.wrap .i64 ((s : Int) + 1)) : Int) ≤ N))
    (br (decide (((IntKind.wrap .i64 ((IntKind.wrap .i64 ((y : Int) + s)) + 1)) : Int) ≤ N))
     (J (decide (((IntKind.wrap .i64 ((s : Int) + 1)) : Int) ≤ N)) true)
     (br (!(decide (((IntKind.wrap .i64 ((s : Int) + 1)) : Int) ≤ N)))
      (J (decide (((IntKind.wrap .i64 ((s : Int) + 1)) : Int) ≤ N)) (decide (((IntKind.wrap .i64 ((IntKind.wrap .i64 ((o : Int) + s)) + 1)) : Int) ≤ H)))
      (J (decide (((IntKind.wrap .i64 ((s : Int) + 1)) : Int) ≤ N)) false)))
    (br (!(decide (((IntKind.wrap .i64 ((s : Int) + 1)) : Int) ≤ N)))
     (J (decide (((IntKind.wrap .i64 ((s : Int) + 1)) : Int) ≤ N)) (decide (((IntKind.wrap .i64 ((IntKind.wrap .i64 ((o : Int) + s)) + 1)) : Int) ≤ H)))
     (J (decide (((IntKind.wrap .i64 ((s : Int) + 1)) : Int) ≤ N)) false)) := by
  have e0 : decide (((IntKind.wrap .i64 ((s : Int) + 1)) : Int) ≤ N) = decide (s + 1 ≤ N) := by rw [wrap64 (by omega) (by omega)]; exact decide_eq_decide.2 (by omega)
  rw [e0, wrap64 (a := (y : Int) + s) (by omega) (by omega), wrap64 (a := (o : Int) + s) (by omega) (by omega), wrap64 (a := (y : Int) + s + 1) (by omega) (by omega), wrap64 (a := (o : Int) + s + 1) (by omega) (by omega)]
  by_cases hsm : s + 1 ≤ N
  · have e : roomH s (N + 1) (y + 1) H F (F + o) = decide (y + 1 + s + 1 ≤ N + 1) := by unfold roomH; rw [if_neg (by omega)]
    rw [decide_eq_true hsm] at h ⊢
    refine brT rfl (brP (fun q => ?_) fun q => brF rfl ?_)
    · rw [e, decide_eq_true (show y + 1 + s + 1 ≤ N + 1 by omega)] at h; exact h
    · rw [e, decide_eq_false (show ¬ y + 1 + s + 1 ≤ N + 1 by omega)] at h; exact h
  · have e : roomH s (N + 1) (y + 1) H F (F + o) = decide ((o : Int) + s + 1 ≤ H) := by unfold roomH; rw [if_pos (by omega)]; exact decide_eq_decide.2 (by omega)
    rw [decide_eq_false hsm] at h ⊢
    rw [e] at h
    exact brF rfl (brT rfl h)
theorem j3r19_ok {N H y F o s : Nat} {M : List Int} {S x : Int} {W : List Lv} (hiv : Iv (N + 1) H (y + 1) F (F + o) M W) (hW : W.length ≤ 400) (hs : s ≤ 4095) (hx : -9223372036854775808 ≤ x) (hx2 : x ≤ 9223372036854775807)
    {k1 : Bool → Prop} {k2 : Int → List Int → List Int → Int → Int → Int → Int → Int → Int → Int → Int → Int → Int → List Int → List Int → List V → Prop} {s2 s3 : List Int} {s7 : Int}
    (hk : ∀ (y' o' : Nat) (M' : List Int) (W' : List Lv), Iv (N + 1) H (y' + 1) F (F + o') M' W' → W'.length ≤ W.length + 1 → k2 N s2 s3 H y' o' s7 S ((N + 1 : Nat) : Int) ((y' + 1 : Nat) : Int) H F ((F + o' : Nat) : Int) M' [] (W'.map enc)) :
    j3r19 k1 k2 N s2 s3 H y o s7 x s S ((N + 1 : Nat) : Int) ((y + 1 : Nat) : Int) H F ((F + o : Nat) : Int) M [] (W.map enc) := by
  obtain ⟨b1, b2, b3, b4, b5, b6, b7, b8⟩ := id hiv.hb
  constructor
  exact roomsB (o := o) (F := F) (by omega) (by omega) (by omega) (by omega) hs (fun a b => j3r21 k1 k2 N s2 s3 H y o s7 x s a b S ((N + 1 : Nat) : Int) ((y + 1 : Nat) : Int) H F ((F + o : Nat) : Int) M [] (W.map enc)) (j3r21_ok hiv hW hs hx hx2 hk)

/-! the same where the live objects are a part of a row -/
structure Pt (row : List V) (off cap : Nat) (W : List Lv) : Prop where
  l : Liv row off W
  c : W.length ≤ cap
  r : off + cap ≤ row.length
theorem Pt.inplace {row : List V} {off cap : Nat} {W : List Lv} {w : Lv} (h : Pt row off cap W) (hc : W.length + 1 ≤ cap) : Pt ((row.take (off + W.length) ++ [enc w]) ++ row.drop (off + W.length + 1)) off cap (W ++ [w]) := by
  have hr := h.r
  have e1 : (row.take (off + W.length)).length = off + W.length := by rw [List.length_take]; omega
  have hl := h.l
  unfold Liv at hl
  refine ⟨?_, by simpa using hc, ?_⟩
  · unfold Liv
    rw [List.append_assoc, List.drop_append_of_le_length (by omega), List.drop_take, Nat.add_sub_cancel_left, hl, List.length_append, List.length_singleton, List.map_append]
    rw [← List.append_assoc, List.take_append_of_le_length (by simp), List.take_of_length_le (by simp)]
    simp
  · simp only [List.length_append, e1, List.length_drop, List.length_singleton]; omega
theorem Pt.behind {row : List V} {off cap : Nat} {W : List Lv} {w : Lv} (h : Pt row off cap W) : Pt (row.take (off + W.length) ++ [enc w]) off (W.length + 1) (W ++ [w]) := by
  have hr := h.r
  have hc := h.c
  have e1 : (row.take (off + W.length)).length = off + W.length := by rw [List.length_take]; omega
  have hl := h.l
  unfold Liv at hl
  refine ⟨?_, by simp, ?_⟩
  · unfold Liv
    rw [List.drop_append_of_le_length (by omega), List.drop_take, Nat.add_sub_cancel_left, hl, List.length_append, List.length_singleton, List.map_append]
    exact List.take_of_length_le (by simp)
  · simp only [List.length_append, e1, List.length_singleton]; omega
theorem Pt.fresh {row : List V} {off cap : Nat} {W : List Lv} {w : Lv} (h : Pt row off cap W) : (row.drop off).take W.length ++ [enc w] = (W ++ [w]).map enc := by
  rw [show (row.drop off).take W.length = W.map enc from h.l]; simp
theorem j3r21v2_ok {N H y F o s : Nat} {M : List Int} {S x : Int} {W : List Lv} {row : List V} {off cap : Nat} (hpt : Pt row off cap W) (hiv : Iv (N + 1) H (y + 1) F (F + o) M W) (hW : W.length ≤ 400) (hs : s ≤ 4095) (hx : -9223372036854775808 ≤ x) (hx2 : x ≤ 9223372036854775807)
    {k1 : Bool → Prop} {k2 : Int → List Int → List Int → Int → Int → Int → Nat → Nat → Nat → Int → Int → Int → Int → Int → Int → Int → List Int → List Int → List V → Prop} {k3 : Int → List Int → List Int → Int → Int → Int → Int → Int → Int → Int → Int → Int → Int → List Int → List Int → List V → Prop} {s2 s3 : List Int} {s7 : Int}
    (hk2 : ∀ (y' o' : Nat) (M' : List Int) (W' : List Lv) (row' : List V) (off' cap' : Nat), Pt row' off' cap' W' → Iv (N + 1) H (y' + 1) F (F + o') M' W' → W'.length ≤ W.length + 1 → k2 N s2 s3 H y' o' off' W'.length cap' s7 S ((N + 1 : Nat) : Int) ((y' + 1 : Nat) : Int) H F ((F + o' : Nat) : Int) M' [] row')
    (hk : ∀ (y' o' : Nat) (M' : List Int) (W' : List Lv), Iv (N + 1) H (y' + 1) F (F + o') M' W' → W'.length ≤ W.length + 1 → k3 N s2 s3 H y' o' s7 S ((N + 1 : Nat) : Int) ((y' + 1 : Nat) : Int) H F ((F + o' : Nat) : Int) M' [] (W'.map enc)) :
    j3r21v2 k1 k2 k3 N s2 s3 H y o off W.length cap s7 x s (decide (s + 1 ≤ N)) (roomH s (N + 1) (y + 1) H F (F + o)) S ((N + 1 : Nat) : Int) ((y + 1 : Nat) : Int) H F ((F + o : Nat) : Int) M [] row := by
  obtain ⟨b1, b2, b3, b4, b5, b6, b7, b8⟩ := id hiv.hb
  constructor
  refine c4_ok (by decide) (by decide) hx hx2 fun t ht => c7v2_ok hiv.hb (by omega) hs (fun hr => ?_) (fun h1 h2 => ?_) fun h1 h2 => ?_
  · rw [hr]
    exact brT rfl (brF rfl (brF rfl (j3r34v2_ok hiv.hb hs (hk2 y o M W row off cap hpt hiv (by omega)))))
  · have hr : roomH s (N + 1) (y + 1) H F (F + o) = true := by unfold roomH; rw [if_pos (by omega)]; exact decide_eq_true h2
    have hn := hiv.large (t := t) (s := s) (by omega) hs h2
    have e : ((F + o + s + 1 : Nat) : Int) = ((F + (o + s + 1) : Nat) : Int) := by omega
    have e2 : F + o + s + 1 = F + (o + s + 1) := by omega
    have e3 : (W ++ [(F + o, s, false)]).length = W.length + 1 := by simp
    rw [e2] at hn
    have hj1 : ∀ {k1 : Bool → Prop}, j3r34 k1 k3 N s2 s3 H y ((o + s + 1 : Nat) : Int) s7 s (decide (s + 1 ≤ N)) S ((N + 1 : Nat) : Int) ((y + 1 : Nat) : Int) H F ((F + (o + s + 1) : Nat) : Int) (wrote M (F + o) t s) [] ((W ++ [(F + o, s, false)]).map enc) := fun {k1} => j3r34_ok hn.hb hs (hk y (o + s + 1) _ _ hn (by simp))
    have hj2 : ∀ {k1 : Bool → Prop} {row' : List V} {cap' : Nat}, Pt row' off cap' (W ++ [(F + o, s, false)]) → j3r34v2 k1 k2 N s2 s3 H y ((o + s + 1 : Nat) : Int) off (W.length + 1) cap' s7 s (decide (s + 1 ≤ N)) S ((N + 1 : Nat) : Int) ((y + 1 : Nat) : Int) H F ((F + (o + s + 1) : Nat) : Int) (wrote M (F + o) t s) [] row' := fun {k1 row' cap'} h => j3r34v2_ok hn.hb hs (by have := hk2 y (o + s + 1) _ _ row' off cap' h hn (by simp); rwa [e3] at this)
    rw [hr, wr1 (a := o) (by omega) hs, ← enc_l, e]
    refine brF rfl (brF rfl (brDn (by omega) (brP (fun q => hj2 (hpt.inplace q)) fun q => brT (roomS (by omega)) (brP (fun q0 => ?_) fun q0 => ⟨?_, hj2 hpt.behind⟩))))
    · have := hpt.fresh (w := (F + o, s, false))
      rw [q0, List.drop_zero] at this
      rw [this]; exact hj1
    · rw [hpt.fresh]; exact hj1
  · have hr : roomH s (N + 1) (y + 1) H F (F + o) = true := by unfold roomH; rw [if_neg (by omega)]; exact decide_eq_true h2
    have hn := hiv.small (t := t) (s := s) (by omega) hs h2
    have e : ((y + 1 + s + 1 : Nat) : Int) = (((y + s + 1) + 1 : Nat) : Int) := by omega
    have e2 : y + 1 + s + 1 = (y + s + 1) + 1 := by omega
    have e3 : (W ++ [(y + 1, s, true)]).length = W.length + 1 := by simp
    rw [e2] at hn
    have hj1 : ∀ {k1 : Bool → Prop}, j3r34 k1 k3 N s2 s3 H ((y + s + 1 : Nat) : Int) o s7 s (decide (s + 1 ≤ N)) S ((N + 1 : Nat) : Int) (((y + s + 1) + 1 : Nat) : Int) H F ((F + o : Nat) : Int) (wrote M (y + 1) t s) [] ((W ++ [(y + 1, s, true)]).map enc) := fun {k1} => j3r34_ok hn.hb hs (hk (y + s + 1) o _ _ hn (by simp))
    have hj2 : ∀ {k1 : Bool → Prop} {row' : List V} {cap' : Nat}, Pt row' off cap' (W ++ [(y + 1, s, true)]) → j3r34v2 k1 k2 N s2 s3 H ((y + s + 1 : Nat) : Int) o off (W.length + 1) cap' s7 s (decide (s + 1 ≤ N)) S ((N + 1 : Nat) : Int) (((y + s + 1) + 1 : Nat) : Int) H F ((F + o : Nat) : Int) (wrote M (y + 1) t s) [] row' := fun {k1 row' cap'} h => j3r34v2_ok hn.hb hs (by have := hk2 (y + s + 1) o _ _ row' off cap' h hn (by simp); rwa [e3] at this)
    rw [hr, wr1 (a := y) (by omega) hs, ← enc_s, e]
    refine brF rfl (brF rfl (brD (by omega) (brF ?_ (brP (fun q => hj2 (hpt.inplace q)) fun q => brT (roomS (by omega)) (brP (fun q0 => ?_) fun q0 => ⟨?_, hj2 hpt.behind⟩)))))
    · rw [wrap64 (a := 1 + (y : Int)) (by omega) (by omega), wrap64 (by omega) (by omega)]
      simp; omega
    · have := hpt.fresh (w := (y + 1, s, true))
      rw [q0, List.drop_zero] at this
      rw [this]; exact hj1
    · rw [hpt.fresh]; exact hj1
theorem j3r19v2_ok {N H y F o s : Nat} {M : List Int} {S x : Int} {W : List Lv} {row : List V} {off cap : Nat} (hpt : Pt row off cap W) (hiv : Iv (N + 1) H (y + 1) F (F + o) M W) (hW : W.length ≤ 400) (hs : s ≤ 4095) (hx : -9223372036854775808 ≤ x) (hx2 : x ≤ 9223372036854775807)
    {k1 : Bool → Prop} {k2 : Int → List Int → List Int → Int → Int → Int → Nat → Nat → Nat → Int → Int → Int → Int → Int → Int → Int → List Int → List Int → List V → Prop} {k3 : Int → List Int → List Int → Int → Int → Int → Int → Int → Int → Int → Int → Int → Int → List Int → List Int → List V → Prop} {s2 s3 : List Int} {s7 : Int}
    (hk2 : ∀ (y' o' : Nat) (M' : List Int) (W' : List Lv) (row' : List V) (off' cap' : Nat), Pt row' off' cap' W' → Iv (N + 1) H (y' + 1) F (F + o') M' W' → W'.length ≤ W.length + 1 → k2 N s2 s3 H y' o' off' W'.length cap' s7 S ((N + 1 : Nat) : Int) ((y' + 1 : Nat) : Int) H F ((F + o' : Nat) : Int) M' [] row')
    (hk : ∀ (y' o' : Nat) (M' : List Int) (W' : List Lv), Iv (N + 1) H (y' + 1) F (F + o') M' W' → W'.length ≤ W.length + 1 → k3 N s2 s3 H y' o' s7 S ((N + 1 : Nat) : Int) ((y' + 1 : Nat) : Int) H F ((F + o' : Nat) : Int) M' [] (W'.map enc)) :
    j3r19v2 k1 k2 k3 N s2 s3 H y o off W.length cap s7 x s S ((N + 1 : Nat) : Int) ((y + 1 : Nat) : Int) H F ((F + o : Nat) : Int) M [] row := by
  obtain ⟨b1, b2, b3, b4, b5, b6, b7, b8⟩ := id hiv.hb
  constructor
  exact roomsB (o := o) (F := F) (by omega) (by omega) (by omega) (by omega) hs (fun a b => j3r21v2 k1 k2 k3 N s2 s3 H y o off W.length cap s7 x s a b S ((N + 1 : Nat) : Int) ((y + 1 : Nat) : Int) H F ((F + o : Nat) : Int) M [] row) (j3r21v2_ok hpt hiv hW hs hx hx2 hk2 hk)
theorem after_len : ∀ {W : List Lv} {l : List Nat}, l.length = W.length → (after W l).length = W.length
  | [], [], _ => rfl
  | w :: r, q :: l, h => by rw [after, List.length_cons, List.length_cons, after_len (by simpa using h)]
  | [], _ :: _, h => by cases h
  | _ :: _, [], h => by cases h
theorem after_size : ∀ {W : List Lv} {l : List Nat} (i : Nat) (w w' : Lv), W[i]? = some w → (after W l)[i]? = some w' → w.2.1 = w'.2.1
  | [], _, i, w, w', h, _ => by simp at h
  | _ :: _, [], i, w, w', _, h => by simp [after] at h
  | x :: r, q :: l, 0, w, w', h, h' => by
    simp only [after, List.getElem?_cons_zero, Option.some.injEq] at h h'
    subst h; subst h'; rfl
  | x :: r, q :: l, i + 1, w, w', h, h' => by
    simp only [after, List.getElem?_cons_succ] at h h'
    exact after_size i w w' h h'
theorem ptrs_after {W : List Lv} {l : List Nat} (h : l.length = W.length) : ptrs (after W l) = two l := by rw [ptrs, after_pos h]
theorem Iv.sz {N1 H Y F O : Nat} {M : List Int} {W : List Lv} (h : Iv N1 H Y F O M W) : ∀ w ∈ W, w.2.1 ≤ 4095 := fun w hw => by
  obtain ⟨t, ho, _⟩ := h.val hw; exact ho.sl
theorem two_nil : two [] = [] := rfl
theorem two_len {l : List Nat} : (two l).length = l.length := by simp [two]

theorem j3r50_ok {N H y F o : Nat} {M : List Int} {S : Int} {W : List Lv} {row : List V} {off cap : Nat} (hpt : Pt row off cap W) (hiv : Iv (N + 1) H (y + 1) F (F + o) M W) (hW : W.length ≤ 400)
    {k1 : Bool → Prop} {k2 k3 : Int → List Int → List Int → Int → Int → Int → Nat → Nat → Nat → Int → Int → Int → Int → Int → Int → Int → List Int → List Int → List V → Prop} {s2 s3 : List Int} {s10 : Int}
    (hk2 : ∀ (M' : List Int), Iv (N + 1) H (y + 1) F (F + o) M' W → k2 N s2 s3 H y o off W.length cap s10 S ((N + 1 : Nat) : Int) ((y + 1 : Nat) : Int) H F ((F + o : Nat) : Int) M' [] row)
    (hk3 : ∀ (o' F' : Nat) (M' : List Int) (W' : List Lv) (row' : List V), Pt row' off cap W' → Iv (N + 1) H (0 + 1) F' (F' + o') M' W' → W'.length = W.length → k3 N s2 s3 H 0 o' off W.length cap s10 S ((N + 1 : Nat) : Int) 1 H F' ((F' + o' : Nat) : Int) M' [] row') :
    j3r50 k1 k2 k3 N s2 s3 H y o off W.length cap s10 15 (mw false W : Nat) (mw true W : Nat) (decide (((mw false W : Nat) : Int) > (H : Int))) S ((N + 1 : Nat) : Int) ((y + 1 : Nat) : Int) H F ((F + o : Nat) : Int) M [] row (ptrs W) := by
  constructor
  refine c10_ok hiv.hb (by omega) hiv.rtM hiv.nd (fun hf => ?_) fun hf => ?_
  · exact brD (by omega) (brF rfl (brF rfl (hk2 _ hiv.fullM)))
  · have hn := hiv.major hf
    have hln := npos_len (yf := false) (W := W) (f := toOf (N + 1) H F)
    refine brDn (by omega) (brF rfl (brF ?_ (brT rfl ?_)))
    · rw [two_len, ptrs_len, hln]; simp
    · rw [← ptrs_after hln]
      refine l3r61_ok hpt.l (by have := hpt.c; have := hpt.r; omega) hW (after_len hln) hn.hb (fun w hw => ⟨hn.val hw, (after_mem hw).1⟩) (fun i w w' h h' => after_size i w w' h h') fun row' h1 h2 => ?_
      exact hk3 (mw false W) _ _ _ row' ⟨h1, by rw [after_len hln]; exact hpt.c, by rw [h2]; exact hpt.r⟩ hn (after_len hln)
theorem j3r50v2_ok {N H y F o : Nat} {M : List Int} {S : Int} {W : List Lv} {row : List V} {off cap : Nat} (hpt : Pt row off cap W) (hiv : Iv (N + 1) H (y + 1) F (F + o) M W) (hW : W.length ≤ 400)
    {k1 : Bool → Prop} {k2 k3 : Int → List Int → List Int → Int → Int → Int → Nat → Nat → Nat → Int → Int → Int → Int → Int → Int → Int → List Int → List Int → List V → Prop} {s2 s3 : List Int} {s10 d : Int} (hd : d ≠ 15)
    (hk2 : k2 N s2 s3 H y o off W.length cap s10 S ((N + 1 : Nat) : Int) ((y + 1 : Nat) : Int) H F ((F + o : Nat) : Int) M [] row)
    (hk3 : ∀ (o' F' : Nat) (M' : List Int) (W' : List Lv) (row' : List V), Pt row' off cap W' → Iv (N + 1) H (0 + 1) F' (F' + o') M' W' → W'.length = W.length → k3 N s2 s3 H 0 o' off W.length cap s10 S ((N + 1 : Nat) : Int) 1 H F' ((F' + o' : Nat) : Int) M' [] row') :
    j3r50v2 k1 k2 k3 N s2 s3 H y o off W.length cap s10 d (mw false W : Nat) (mw true W : Nat) (decide (((IntKind.wrap .i64 ((H : Int) - o)) : Int) < y)) S ((N + 1 : Nat) : Int) ((y + 1 : Nat) : Int) H F ((F + o : Nat) : Int) M [] row (ptrs W) := by
  obtain ⟨b1, b2, b3, b4, b5, b6, b7, b8⟩ := id hiv.hb
  have hmw := hiv.mw
  constructor
  unfold tj3r50v2
  rw [wrap64 (a := (H : Int) - o) (by omega) (by omega)]
  refine c9_ok hiv.hb (by omega) hiv.rtm hiv.nd hiv.mw (fun hf => ?_) fun hf => ?_
  · exact brD (by omega) (brF rfl (brF rfl hk2))
  · have hn := hiv.minor hf
    have hln := npos_len (yf := true) (W := W) (f := F + o)
    have e : F + o + mw true W = F + (o + mw true W) := by omega
    rw [e] at hn
    refine brDn (by omega) (brF rfl (brF ?_ (brF (by simpa using hd) ?_)))
    · rw [two_len, ptrs_len, hln]; simp
    · rw [← ptrs_after hln, show IntKind.wrap .i64 ((o : Int) + ((mw true W : Nat) : Int)) = ((o + mw true W : Nat) : Int) by rw [wrap64 (by omega) (by omega)]; omega, e]
      refine l3r61_ok hpt.l (by have := hpt.c; have := hpt.r; omega) hW (after_len hln) hn.hb (fun w hw => ⟨hn.val hw, (after_mem hw).1⟩) (fun i w w' h h' => after_size i w w' h h') fun row' h1 h2 => ?_
      exact hk3 (o + mw true W) _ _ _ row' ⟨h1, by rw [after_len hln]; exact hpt.c, by rw [h2]; exact hpt.r⟩ hn (after_len hln)

theorem j3r68_ok {N H y F o : Nat} {M : List Int} {S : Int} {W : List Lv} {row : List V} (hiv : Iv (N + 1) H (y + 1) F (F + o) M W) {k1 : Bool → Prop} {k2 : Int → List Int → List Int → Int → Int → Int → Int → Int → Int → Int → Int → Int → Int → List Int → List Int → List V → Prop} {s1 s4 s7 : Int} {s2 s3 : List Int}
    (hk : k2 s1 s2 s3 s4 y o s7 S ((N + 1 : Nat) : Int) ((y + 1 : Nat) : Int) H F ((F + o : Nat) : Int) M [] row) : j3r68 k1 k2 s1 s2 s3 s4 y o s7 S ((N + 1 : Nat) : Int) ((y + 1 : Nat) : Int) H F ((F + o : Nat) : Int) M [] row := by
  obtain ⟨b1, b2, b3, b4, b5, b6, b7, b8⟩ := id hiv.hb
  constructor
  constructor
  refine brF ?_ (brF ?_ hk)
  · rw [wrap64 (by omega) (by omega)]; simp
  · rw [wrap64 (by omega) (by omega)]; simp; omega
theorem j3r68v2_ok {N H y F o : Nat} {M : List Int} {S : Int} {W : List Lv} {row : List V} (hiv : Iv (N + 1) H (y + 1) F (F + o) M W) {k1 : Bool → Prop} {k2 : Int → List Int → List Int → Int → Int → Int → Nat → Nat → Nat → Int → Int → Int → Int → Int → Int → Int → List Int → List Int → List V → Prop} {s1 s4 s7 : Int} {a b c : Nat} {s2 s3 : List Int}
    (hk : k2 s1 s2 s3 s4 y o a b c s7 S ((N + 1 : Nat) : Int) ((y + 1 : Nat) : Int) H F ((F + o : Nat) : Int) M [] row) : j3r68v2 k1 k2 s1 s2 s3 s4 y o a b c s7 S ((N + 1 : Nat) : Int) ((y + 1 : Nat) : Int) H F ((F + o : Nat) : Int) M [] row := by
  obtain ⟨b1, b2, b3, b4, b5, b6, b7, b8⟩ := id hiv.hb
  constructor
  constructor
  refine brF ?_ (brF ?_ hk)
  · rw [wrap64 (by omega) (by omega)]; simp
  · rw [wrap64 (by omega) (by omega)]; simp; omega

/-- the size that a deed asks for -/
theorem sizes {d : Nat} {x : Int} (hx : -9223372036854775808 ≤ x) (hx2 : x ≤ 9223372036854775807) {J : Int → Prop} (hJ : ∀ s : Nat, s ≤ 4095 → J s) :
    (br (decide ((0 : Int) ≤ (Int.tmod (d : Int) 4) ∧ ((Int.tmod (d : Int) 4) : Int) < ((4 : Nat) : Int)))
           (need False ([3, 6, 6, 40] : List Int)[(Int.toNat (Int.tmod (d : Int) 4))]? fun y20 =>
            c4 x y20
             (fun z21 => br ((d : Int) == 12)
              (c4 x 4096 (fun z22 => J z22))
              (J z21)))
           (False /- 39 -/)) := by
  have e : Int.tmod (d : Int) 4 = ((d % 4 : Nat) : Int) := by rw [Int.tmod_eq_emod_of_nonneg (by omega)]; omega
  rw [e, Int.toNat_natCast]
  have h4 : d % 4 < 4 := Nat.mod_lt _ (by decide)
  have fin : ∀ v : Int, 0 < v → v ≤ 40 → c4 x v (fun z21 => br ((d : Int) == 12) (c4 x 4096 (fun z22 => J z22)) (J z21)) := fun v h1 h2 =>
    c4_ok h1 (by omega) hx hx2 fun m hm => brB (fun _ => c4_ok (by decide) (by decide) hx hx2 fun m' hm' => hJ m' (by omega)) fun _ => hJ m (by omega)
  refine brD (by omega) ?_
  generalize d % 4 = r at h4
  match r, h4 with
  | 0, _ => exact needS rfl (fin 3 (by decide) (by decide))
  | 1, _ => exact needS rfl (fin 6 (by decide) (by decide))
  | 2, _ => exact needS rfl (fin 6 (by decide) (by decide))
  | 3, _ => exact needS rfl (fin 40 (by decide) (by decide))

theorem trim {n z : Nat} (hn : n ≤ 100000) (hz : z < 12) : ∃ lo : Nat, lo ≤ n ∧ maxI 0 (IntKind.wrap .i64 ((n : Int) - (z : Int))) = (lo : Int) := by
  rw [wrap64 (by omega) (by omega)]
  unfold maxI
  by_cases h : (n : Int) - z > 0
  · exact ⟨n - z, by omega, by rw [if_pos h]; omega⟩
  · exact ⟨0, by omega, by rw [if_neg h]; rfl⟩
theorem Pt.drop {row : List V} {off cap lo : Nat} {W : List Lv} (h : Pt row off cap W) (hlo : lo ≤ W.length) : Pt row (off + lo) (cap - lo) (W.drop lo) := by
  have hc := h.c
  have hr := h.r
  refine ⟨?_, by rw [List.length_drop]; omega, by omega⟩
  have hl := h.l
  unfold Liv at hl ⊢
  rw [List.length_drop, ← List.drop_drop, List.map_drop, ← hl, List.drop_take]
theorem Pt.whole {W : List Lv} : Pt (W.map enc) 0 W.length W := ⟨by unfold Liv; rw [List.drop_zero, List.take_of_length_le (by simp)], Nat.le_refl _, by simp⟩
def InR (l : List Int) : Prop := ∀ x ∈ l, -9223372036854775808 ≤ x ∧ x ≤ 9223372036854775807

set_option maxRecDepth 4000 in
theorem l3r11_ok {N H y F o : Nat} {M : List Int} {S : Int} (hiv : Iv (N + 1) H (y + 1) F (F + o) M []) {ds xs : List Int} (hds : InR ds) (hxs : InR xs) {k1 : Bool → Prop} {k2 : Int → Int → Int → Int → Int → Int → List Int → List Int → Prop}
    (hk : ∀ (y o F : Nat) (M : List Int) (W : List Lv), Iv (N + 1) H (y + 1) F (F + o) M W → k2 S ((N + 1 : Nat) : Int) ((y + 1 : Nat) : Int) H F ((F + o : Nat) : Int) M []) :
    l3r11 k1 k2 N ds xs H y o 0 S ((N + 1 : Nat) : Int) ((y + 1 : Nat) : Int) H F ((F + o : Nat) : Int) M [] [] := by
  constructor
  intro I1 I2 h1 h2
  have key : ∀ n i : Nat, n + i = 400 →
      (∀ (y o F : Nat) (M : List Int) (W : List Lv), Iv (N + 1) H (y + 1) F (F + o) M W → W.length ≤ i → I1 N ds xs H y o i S ((N + 1 : Nat) : Int) ((y + 1 : Nat) : Int) H F ((F + o : Nat) : Int) M [] (W.map enc)) ∧
      (∀ (y o F : Nat) (M : List Int) (W : List Lv) (row : List V) (off cap : Nat), Pt row off cap W → Iv (N + 1) H (y + 1) F (F + o) M W → W.length ≤ i → I2 N ds xs H y o off W.length cap i S ((N + 1 : Nat) : Int) ((y + 1 : Nat) : Int) H F ((F + o : Nat) : Int) M [] row) := by
    intro n
    induction n with
    | zero =>
      intro i hi
      have hi : i = 400 := by omega
      subst hi
      refine ⟨fun y o F M W hv hW => h1 _ _ _ _ _ _ _ _ _ _ _ _ _ _ _ _ ?_, fun y o F M W row off cap hp hv hW => h2 _ _ _ _ _ _ _ _ _ _ _ _ _ _ _ _ _ _ _ ?_⟩
      · exact brB (fun _ => brB (fun _ => brDn (by decide) (hk y o F M W hv)) fun _ => hk y o F M W hv) fun _ => hk y o F M W hv
      · exact brB (fun _ => brB (fun _ => brDn (by decide) (hk y o F M W hv)) fun _ => hk y o F M W hv) fun _ => hk y o F M W hv
    | succ n ih =>
      intro i hi
      obtain ⟨ih1, ih2⟩ := ih (i + 1) (by omega)
      have hwi : IntKind.wrap .i64 ((i : Int) + 1) = ((i + 1 : Nat) : Int) := wrapS (by omega)
      refine ⟨fun y o F M W hv hW => h1 _ _ _ _ _ _ _ _ _ _ _ _ _ _ _ _ ?_, fun y o F M W row off cap hp hv hW => h2 _ _ _ _ _ _ _ _ _ _ _ _ _ _ _ _ _ _ _ ?_⟩
      · refine brP (fun q1 => ?_) fun _ => hk y o F M W hv
        refine brP (fun q2 => ?_) fun _ => hk y o F M W hv
        refine brD (show (i : Int) < 400 by omega) ?_
        have l1 : i < ds.length := by omega
        have l2 : i < xs.length := by omega
        have rx := hxs _ (List.getElem_mem l2)
        have rd := hds _ (List.getElem_mem l1)
        refine needAt l2 (needAt l1 (c4_ok (by decide) (by decide) rd.1 rd.2 fun d hd => brP (fun q => ?_) fun q => ?_))
        · refine sizes rx.1 rx.2 (J := fun z => j3r19 k1 _ (N : Int) ds xs (H : Int) (y : Int) (o : Int) (i : Int) xs[i] z S ((N + 1 : Nat) : Int) ((y + 1 : Nat) : Int) H F ((F + o : Nat) : Int) M [] (W.map enc)) fun s hs => ?_
          refine j3r19_ok hv (by omega) hs rx.1 rx.2 fun y' o' M' W' hv' hW' => ?_
          refine j3r68_ok hv' ?_
          rw [hwi]
          exact ih1 y' o' F M' W' hv' (by omega)
        · refine c4_ok (by decide) (by decide) rx.1 rx.2 fun z hz => ?_
          obtain ⟨lo, hlo, elo⟩ := trim (n := W.length) (z := z) (by omega) (by omega)
          have ml : (W.map enc).length = W.length := List.length_map ..
          rw [ml, elo]
          refine brD (by omega) ?_
          have hp := (Pt.whole (W := W)).drop hlo
          have hv' := hv.drop (n := lo)
          have hl : (W.drop lo).length = W.length - lo := List.length_drop ..
          rw [Int.toNat_natCast, show ((W.length : Int) - (lo : Int)).toNat = (W.drop lo).length by rw [hl]; omega]
          rw [Nat.zero_add, ← hl] at hp
          refine l3r40_ok hp.l (by omega) hv'.sz ?_
          refine brE (fun q15 => ?_) fun q15 => ?_
          · rw [q15]
            refine j3r50_ok hp hv' (by omega) (fun M' hv2 => ?_) fun o' F' M' W' row' hp2 hv2 hl2 => ?_
            · rw [hwi]; exact ih2 y o F M' _ _ _ _ hp hv2 (by omega)
            · refine j3r68v2_ok (y := 0) hv2 ?_
              have ht := ih2 0 o' F' M' W' row' _ _ hp2 hv2 (by omega)
              rw [hl2] at ht
              rw [hwi]; exact ht
          · refine j3r50v2_ok hp hv' (by omega) q15 ?_ fun o' F' M' W' row' hp2 hv2 hl2 => ?_
            · rw [hwi]; exact ih2 y o F M _ _ _ _ hp hv' (by omega)
            · refine j3r68v2_ok (y := 0) hv2 ?_
              have ht := ih2 0 o' F' M' W' row' _ _ hp2 hv2 (by omega)
              rw [hl2] at ht
              rw [hwi]; exact ht
      · refine brP (fun q1 => ?_) fun _ => hk y o F M W hv
        refine brP (fun q2 => ?_) fun _ => hk y o F M W hv
        refine brD (show (i : Int) < 400 by omega) ?_
        have l1 : i < ds.length := by omega
        have l2 : i < xs.length := by omega
        have rx := hxs _ (List.getElem_mem l2)
        have rd := hds _ (List.getElem_mem l1)
        refine needAt l2 (needAt l1 (c4_ok (by decide) (by decide) rd.1 rd.2 fun d hd => brP (fun q => ?_) fun q => ?_))
        · refine sizes rx.1 rx.2 (J := fun z => j3r19v2 k1 _ _ (N : Int) ds xs (H : Int) (y : Int) (o : Int) off W.length cap (i : Int) xs[i] z S ((N + 1 : Nat) : Int) ((y + 1 : Nat) : Int) H F ((F + o : Nat) : Int) M [] row) fun s hs => ?_
          refine j3r19v2_ok hp hv (by omega) hs rx.1 rx.2 (fun y' o' M' W' row' off' cap' hp' hv' hW' => ?_) fun y' o' M' W' hv' hW' => ?_
          · refine j3r68v2_ok hv' ?_
            rw [hwi]
            exact ih2 y' o' F M' W' row' off' cap' hp' hv' (by omega)
          · refine j3r68_ok hv' ?_
            rw [hwi]
            exact ih1 y' o' F M' W' hv' (by omega)
        · refine c4_ok (by decide) (by decide) rx.1 rx.2 fun z hz => ?_
          obtain ⟨lo, hlo, elo⟩ := trim (n := W.length) (z := z) (by omega) (by omega)
          have hc := hp.c
          rw [elo]
          refine brD (by omega) ?_
          have hp := hp.drop hlo
          have hv' := hv.drop (n := lo)
          have hl : (W.drop lo).length = W.length - lo := List.length_drop ..
          rw [Int.toNat_natCast, show ((W.length : Int) - (lo : Int)).toNat = (W.drop lo).length by rw [hl]; omega, show ((cap : Int) - (lo : Int)).toNat = cap - lo by omega]
          refine l3r40_ok hp.l (by omega) hv'.sz ?_
          refine brE (fun q15 => ?_) fun q15 => ?_
          · rw [q15]
            refine j3r50_ok hp hv' (by omega) (fun M' hv2 => ?_) fun o' F' M' W' row' hp2 hv2 hl2 => ?_
            · rw [hwi]; exact ih2 y o F M' _ _ _ _ hp hv2 (by omega)
            · refine j3r68v2_ok (y := 0) hv2 ?_
              have ht := ih2 0 o' F' M' W' row' _ _ hp2 hv2 (by omega)
              rw [hl2] at ht
              rw [hwi]; exact ht
          · refine j3r50v2_ok hp hv' (by omega) q15 ?_ fun o' F' M' W' row' hp2 hv2 hl2 => ?_
            · rw [hwi]; exact ih2 y o F M _ _ _ _ hp hv' (by omega)
            · refine j3r68v2_ok (y := 0) hv2 ?_
              have ht := ih2 0 o' F' M' W' row' _ _ hp2 hv2 (by omega)
              rw [hl2] at ht
              rw [hwi]; exact ht
  exact (key 400 0 rfl).1 y o F M [] hiv (by simp)
def posI (L : List (Nat × Nat)) : List Int := L.map fun p => (p.1 : Int)
theorem Rg.count {M : List Int} : ∀ {L : List (Nat × Nat)} {a b : Nat}, Rg M a L b → a + L.length ≤ b
  | [], _, _, h => Nat.le_of_eq h
  | p :: L, a, b, ⟨_, _, h3⟩ => by have := h3.count; simp only [List.length_cons]; omega
theorem c22_ok {M R : List Int} (hM : M.length ≤ 6100) {L : List (Nat × Nat)} {a b : Nat} (hr : Rg M a L b) (hb : b ≤ 6100) {S N1 Y H F O : Int} {k : Bool → Int → Int → Int → Int → Int → Int → List Int → List Int → List Int → Prop}
    (h : k true S N1 Y H F O M R (posI L)) : c22 a b S N1 Y H F O M R k := by
  constructor
  constructor
  intro I hI
  have key : ∀ (L : List (Nat × Nat)) (a : Nat) (done : List Int), Rg M a L b → done.length ≤ a → k true S N1 Y H F O M R (done ++ posI L) → I b a S N1 Y H F O M R done := by
    intro L
    induction L with
    | nil =>
      intro a done h1 hd h
      have h1 : a = b := h1
      subst h1
      refine hI _ _ _ _ _ _ _ _ _ _ _ (brDn (by omega) ?_)
      simpa [posI] using h
    | cons p L ih =>
      intro a done h1 hd h
      obtain ⟨h1, ⟨t, ho⟩, h3⟩ := h1
      have hl := ho.lt
      have hs := ho.sl
      have hle := h3.le
      refine hI _ _ _ _ _ _ _ _ _ _ _ (brD (by omega) (brD (by omega) ?_))
      rw [Int.toNat_natCast]
      refine needS ho.hd (c21_ok ho.tl hs (brF rfl (brT (roomS (by omega)) ?_)))
      rw [wr1 (by omega) hs]
      refine brDn (by omega) (ih _ _ h3 (by simp; omega) ?_)
      have h1 : p.1 = a := h1
      simpa [posI, h1] using h
  exact key L a [] hr (Nat.zero_le _) (by simpa using h)

theorem l13r11_ok {a t s : Nat} {M R : List Int} (ho : Oo M a t s) (hM : M.length ≤ 6100) {s4 s5 S N1 Y H F O : Int} {X : List Int} {k1 : Bool → Int → Int → Int → Int → Int → Int → List Int → List Int → Prop} {k2 : Int → Int → Int → Int → Int → Int → Int → Int → List Int → List Int → List Int → Prop}
    (h : k2 s4 s5 S N1 Y H F O M R X) : l13r11 k1 k2 a s ((a + 1 : Nat) : Int) s4 s5 S N1 Y H F O M R X := by
  have hl := ho.lt
  constructor
  intro I hI
  have key : ∀ n i, n + i = s → I a s ((a + 1 + i : Nat) : Int) s4 s5 S N1 Y H F O M R X := by
    intro n
    induction n with
    | zero =>
      intro i hi
      refine hI _ _ _ _ _ _ _ _ _ _ _ _ _ _ (brDn ?_ h)
      rw [wrap64 (by omega) (by omega)]; omega
    | succ n ih =>
      intro i hi
      have hg := ho.fd i (by omega)
      refine hI _ _ _ _ _ _ _ _ _ _ _ _ _ _ (brD (by rw [wrap64 (by omega) (by omega)]; omega) (brD (by omega) ?_))
      rw [Int.toNat_natCast]
      refine needS hg (brT (by rw [and1_odd]; rfl) ?_)
      rw [wrapS (by omega)]
      exact ih (i + 1) (by omega)
  exact key s 0 (by omega)
theorem l13r7_ok {M R : List Int} (hM : M.length ≤ 6100) {L : List (Nat × Nat)} (hL : L.length ≤ 20000) (ho : ∀ p ∈ L, ∃ t, Oo M p.1 t p.2) {S N1 Y H F O : Int} {k1 : Bool → Int → Int → Int → Int → Int → Int → List Int → List Int → Prop} {k2 : Int → Int → Int → Int → Int → Int → List Int → List Int → Prop}
    (h : k2 S N1 Y H F O M R) : l13r7 k1 k2 (((posI L).length : Nat) : Int) 0 S N1 Y H F O M R (posI L) := by
  have hl : (posI L).length = L.length := by simp [posI]
  rw [hl]
  constructor
  intro I hI
  refine upInd (N := L.length) (M := fun i => I (L.length : Int) (i : Int) S N1 Y H F O M R (posI L)) (hI _ _ _ _ _ _ _ _ _ _ _ (brDn (by omega) h)) (fun i hi ih => hI _ _ _ _ _ _ _ _ _ _ _ (brD (by omega) (brD (by rw [hl]; omega) ?_))) 0 (Nat.zero_le _)
  obtain ⟨t, hob⟩ := ho _ (List.getElem_mem hi)
  have hs := hob.sl
  have hlt := hob.lt
  have hg : (posI L)[i]? = some ((L[i].1 : Nat) : Int) := by simp [posI, hi]
  rw [Int.toNat_natCast]
  refine needS hg (brD (by omega) ?_)
  rw [Int.toNat_natCast, wrapS (by omega)]
  refine needS hob.hd (c21_ok hob.tl hs (l13r11_ok hob hM ?_))
  rw [wrapS (by omega)]
  exact ih

theorem c13_ok {N1 H Y F O : Nat} {M : List Int} {W : List Lv} {S : Int} (hv : Iv N1 H Y F O M W) {k : Bool → Int → Int → Int → Int → Int → Int → List Int → List Int → Prop}
    (h : k true S N1 Y H F O M []) : c13 S N1 Y H F O M [] k := by
  obtain ⟨b1, b2, b3, b4, b5, b6, b7, b8⟩ := id hv.hb
  obtain ⟨LY, y1, _⟩ := hv.ry
  obtain ⟨LO, o1, _⟩ := hv.ro
  have hy := y1.count
  have ho := o1.count
  have e : posI (LY ++ LO) = posI LY ++ posI LO := by simp [posI]
  have hm : ∀ p ∈ LY ++ LO, ∃ t, Oo M p.1 t p.2 := fun p hp => by
    rcases List.mem_append.1 hp with hp | hp
    · exact (y1.mem (p := p.1) (s := p.2) hp).2.2
    · exact (o1.mem (p := p.1) (s := p.2) hp).2.2
  have el : (posI (LY ++ LO)).length = LY.length + LO.length := by simp [posI]
  have e1 : (posI LY).length = LY.length := by simp [posI]
  have e2 : (posI LO).length = LO.length := by simp [posI]
  constructor
  refine c22_ok (a := 1) b8 y1 (by omega) (c22_ok b8 o1 (by omega) (brF rfl (brF rfl (brB (fun em => ?_) fun em => brT (roomS (by rw [e1, e2]; omega)) ?_))))
  · exact l13r7_ok b8 (by omega) (fun p hp => hm p (List.mem_append_left _ hp)) h
  · rw [← e]
    exact l13r7_ok b8 (by simp; omega) hm h

theorem c5_ok {m st N : Nat} (h1 : 32 ≤ m) (h2 : m ≤ 6100) (h3 : 4 ≤ st) (h4 : 2 * st ≤ m) (h5 : 4 ≤ N) (h6 : 2 * N ≤ m - st) {k1 : Unit → Int → Prop} {k2 : Int → Int → Int → Int → Int → Int → Int → List Int → Prop}
    (h : k2 0 ((m - st : Nat) : Int) ((N + 1 : Nat) : Int) 1 (((m - st - (N + 1)) / 2 : Nat) : Int) ((N + 1 : Nat) : Int) ((N + 1 : Nat) : Int) (List.replicate m (0 : Int))) : c5 m st N k1 k2 := by
  have e1 : IntKind.wrap .i64 ((m : Int) - st) = ((m - st : Nat) : Int) := by rw [wrap64 (by omega) (by omega)]; omega
  have e2 : IntKind.wrap .i64 (1 + (N : Int)) = ((N + 1 : Nat) : Int) := by rw [wrap64 (by omega) (by omega)]; omega
  have e3 : IntKind.wrap .i64 (((m - st : Nat) : Int) - ((N + 1 : Nat) : Int)) = ((m - st - (N + 1) : Nat) : Int) := by rw [wrap64 (by omega) (by omega)]; omega
  have td : ∀ a : Nat, a ≤ 100000 → IntKind.wrap .i64 (Int.tdiv (a : Int) 2) = ((a / 2 : Nat) : Int) := fun a ha => by
    rw [Int.tdiv_eq_ediv_of_nonneg (by omega), wrap64 (by omega) (by omega)]; omega
  constructor
  unfold tc5
  rw [e1, e2, e3, td m (by omega), td (m - st) (by omega), td (m - st - (N + 1)) (by omega), Int.toNat_natCast]
  exact c15T (by omega) (brF rfl (c15T (by omega) (brF rfl (c15T (by omega) (brF rfl (brD (by omega) h))))))

theorem c17_five {S : Int} {N1 Y H F O i : Nat} {M R : List Int} (hi : i < M.length) {k1 k2 : Int → Int → Int → Int → Int → Int → List Int → List Int → Prop}
    (h : k2 S N1 Y H F O (M.set i 5) R) : c17 i 5 S N1 Y H F O M R k1 k2 := by
  constructor
  unfold tc17
  rw [Int.toNat_natCast]
  refine brD (by omega) (needNth hi (c15_ok (fun _ => brT rfl ?_) fun _ => brF rfl h))
  constructor
  exact brT rfl (brF (by rw [and1_odd]; rfl) (brF rfl h))
theorem c7_fact {M : List Int} (hM : M.length = 64) {S : Int} {k1 : Int → Int → Int → Int → Int → Int → Int → Int → List Int → Prop} {k2 : Int → Int → Int → Int → Int → Int → Int → Int → List Int → List Int → Prop}
    (h : k2 2 0 S 17 4 19 17 17 (((M.set 1 (hdr 3 2)).set 2 5).set 3 5) []) : c7 3 2 5 S 17 1 19 17 17 M k1 k2 := by
  have hb : HB 17 1 19 17 17 M := ⟨by decide, by decide, by decide, .inl rfl, by decide, by decide, by omega, by omega⟩
  constructor
  refine c15T (by decide) (brF rfl (c15T (by decide) (brF rfl (c15T (by decide) (brF rfl ?_)))))
  refine c8_ok (s := 2) hb (by decide) ?_
  refine brF rfl (brDn (by decide) (c16_ok (t := 3) (s := 2) (by decide) (by decide) (brT rfl (brT rfl (brT rfl (brT (eqT_self (.int .i64) _) (brD (by omega) (needNth (by rw [hM]; decide) ?_))))))))
  constructor
  intro I hI
  refine hI _ _ _ _ _ _ _ _ _ _ _ _ (brD (by decide) ?_)
  refine c17_five (i := 2) (N1 := 17) (Y := 4) (H := 19) (F := 17) (O := 17) (by rw [List.length_set, hM]; decide) ?_
  refine hI _ _ _ _ _ _ _ _ _ _ _ _ (brD (by decide) ?_)
  refine c17_five (i := 3) (N1 := 17) (Y := 4) (H := 19) (F := 17) (O := 17) (by rw [List.length_set, List.length_set, hM]; decide) ?_
  exact hI _ _ _ _ _ _ _ _ _ _ _ _ (brDn (by decide) h)
theorem c6_ok {k : Bool → Prop} (h : k true) : c6 k := by
  constructor
  refine c5_ok (m := 64) (st := 8) (N := 16) (by decide) (by decide) (by decide) (by decide) (by decide) (by decide) ?_
  refine brF rfl ?_
  refine c7_fact (by rw [List.length_replicate]) ?_
  constructor
  have hv : HB 17 4 19 17 17 ((((List.replicate 64 (0 : Int)).set 1 (hdr 3 2)).set 2 5).set 3 5) := ⟨by decide, by decide, by decide, .inl rfl, by decide, by decide, by simp, by simp⟩
  have e1 : ((((List.replicate 64 (0 : Int)).set 1 (hdr 3 2)).set 2 5).set 3 5)[1]? = some (hdr 3 2) := by decide
  have hl : ((((List.replicate 64 (0 : Int)).set 1 (hdr 3 2)).set 2 5).set 3 5).length = 64 := by simp
  generalize ((((List.replicate 64 (0 : Int)).set 1 (hdr 3 2)).set 2 5).set 3 5) = M at *
  have h20 : ∀ {k : Int → Int → Int → Int → Int → Int → Int → List Int → List Int → Prop}, k 2 ((64 - 8 : Nat) : Int) 17 4 19 17 17 M [] → c20v2 2 ((64 - 8 : Nat) : Int) 17 4 19 17 17 M [] k := fun {k} h => by
    constructor
    refine brDn (by decide) (brF (by rw [and1_odd]; rfl) (brDn (by decide) (brDn (by decide) (brD (by rw [hl]; decide) (needS e1 (c21_ok (t := 3) (s := 2) (by decide) (by decide) (brF rfl (brDn (by decide) h))))))))
  refine h20 (brDn (by decide) (brD (by rw [hl]; decide) (needS e1 (c21_ok (t := 3) (s := 2) (by decide) (by decide) ?_))))
  exact brT rfl (brT rfl (brT rfl (brT rfl h)))

/-- the law -/
theorem law3r {x1 x2 x3 : Int} {ds xs : List Int} (r1 : -9223372036854775808 ≤ x1 ∧ x1 ≤ 9223372036854775807) (r2 : -9223372036854775808 ≤ x2 ∧ x2 ≤ 9223372036854775807) (r3 : -9223372036854775808 ≤ x3 ∧ x3 ≤ 9223372036854775807) (hd : InR ds) (hx : InR xs)
    {k : Bool → Prop} (h : k true) : c3 x1 x2 x3 ds xs k := by
  have td : ∀ a : Nat, a ≤ 100000 → IntKind.wrap .i64 (Int.tdiv (a : Int) 2) = ((a / 2 : Nat) : Int) := fun a ha => by
    rw [Int.tdiv_eq_ediv_of_nonneg (by omega), wrap64 (by omega) (by omega)]; omega
  constructor
  refine c4_ok (by decide) (by decide) r1.1 r1.2 fun a ha => ?_
  rw [show IntKind.wrap .i64 (32 + (a : Int)) = ((32 + a : Nat) : Int) by rw [wrap64 (by omega) (by omega)]; omega, td (32 + a) (by omega)]
  have e1 : maxI (IntKind.wrap .i64 ((((32 + a) / 2 : Nat) : Int) - 3)) 1 = (((32 + a) / 2 - 3 : Nat) : Int) := by
    rw [wrap64 (by omega) (by omega)]; unfold maxI; rw [if_neg (by omega)]; omega
  rw [e1]
  refine c4_ok (by omega) (by omega) r2.1 r2.2 fun b hb => ?_
  rw [show IntKind.wrap .i64 (4 + (b : Int)) = ((4 + b : Nat) : Int) by rw [wrap64 (by omega) (by omega)]; omega,
    show IntKind.wrap .i64 (((32 + a : Nat) : Int) - ((4 + b : Nat) : Int)) = ((32 + a - (4 + b) : Nat) : Int) by rw [wrap64 (by omega) (by omega)]; omega, td (32 + a - (4 + b)) (by omega),
    show IntKind.wrap .i64 (((((32 + a) - (4 + b)) / 2 : Nat) : Int) - 3) = (((32 + a - (4 + b)) / 2 - 3 : Nat) : Int) by rw [wrap64 (by omega) (by omega)]; omega]
  refine c4_ok (by omega) (by omega) r3.1 r3.2 fun c hc => ?_
  rw [show IntKind.wrap .i64 (4 + (c : Int)) = ((4 + c : Nat) : Int) by rw [wrap64 (by omega) (by omega)]; omega]
  refine c5_ok (by omega) (by omega) (by omega) (by omega) (by omega) (by omega) (c6_ok (brF rfl (brF rfl ?_)))
  have eh : IntKind.wrap .i64 (Int.tdiv (IntKind.wrap .i64 ((IntKind.wrap .i64 ((IntKind.wrap .i64 (((32 + a : Nat) : Int) - 1)) - ((4 + c : Nat) : Int))) - ((4 + b : Nat) : Int))) 2) = (((32 + a - (4 + b) - (4 + c + 1)) / 2 : Nat) : Int) := by
    rw [wrap64 (a := ((32 + a : Nat) : Int) - 1) (by omega) (by omega), wrap64 (a := ((32 + a : Nat) : Int) - 1 - ((4 + c : Nat) : Int)) (by omega) (by omega), wrap64 (a := ((32 + a : Nat) : Int) - 1 - ((4 + c : Nat) : Int) - ((4 + b : Nat) : Int)) (by omega) (by omega),
      show ((32 + a : Nat) : Int) - 1 - ((4 + c : Nat) : Int) - ((4 + b : Nat) : Int) = ((32 + a - (4 + b) - (4 + c + 1) : Nat) : Int) by omega, td _ (by omega)]
  rw [eh]
  have hv : Iv (4 + c + 1) ((32 + a - (4 + b) - (4 + c + 1)) / 2) (0 + 1) (4 + c + 1) (4 + c + 1 + 0) (List.replicate (32 + a) (0 : Int)) [] :=
    ⟨⟨by omega, by omega, by omega, .inl rfl, by omega, by omega, by rw [List.length_replicate]; omega, by rw [List.length_replicate]; omega⟩, ⟨[], rfl, .refl _⟩, ⟨[], rfl, fun w hw => (by cases hw)⟩, List.nodup_nil⟩
  exact l3r11_ok (y := 0) (o := 0) hv hd hx fun y o F M W hv' => c13_ok hv' h
theorem good_i {x : Int} (h : Go.Abs.Good (.int .i64) x) : -9223372036854775808 ≤ x ∧ x ≤ 9223372036854775807 := by
  have h' : (Lit.int .i64 x).wf = true := h
  simp [Lit.wf, IntKind.min, IntKind.max, IntKind.signed, IntKind.bits] at h'
  omega
theorem law3 {x0 x1 x2 : Int} {x3 x4 : List Int} (g0 : Go.Abs.Good (.int .i64) x0) (g1 : Go.Abs.Good (.int .i64) x1) (g2 : Go.Abs.Good (.int .i64) x2) (g3 : Go.Abs.Good (.sl (.int .i64)) x3) (g4 : Go.Abs.Good (.sl (.int .i64)) x4) {k : Bool → Prop} (h : k true) : c3 x0 x1 x2 x3 x4 k :=
  law3r (good_i g0) (good_i g1) (good_i g2) (fun x hx => good_i (g3.2 x hx)) (fun x hx => good_i (g4.2 x hx)) h
end Go.Proofs.Ytdljpdafghdedaa
