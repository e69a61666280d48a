/- The laws of 'timing', in plain Lean: an instruction is issued, by the program and by the reference, in any state. -/
import Derived.Test.YtomgefbhmpeabaaAD3
import Derived.Test.YtomgefbhmpeabaaAPKit2
import Derived.Test.YtomgefbhmpeabaaARow1
import Derived.Test.YtomgefbhmpeabaaARow6
set_option linter.unusedVariables false
set_option linter.unusedSimpArgs false
namespace Go.Proofs.Ytomgefbhmpeabaa
open Go.Abs
theorem hml : maxLen = 9223372036854775807 := rfl
theorem allInd {N : Nat} {p : Nat → Prop} {M : Nat → Prop} (hN : (∀ i, i < N → p i) → M N)
    (hs : ∀ i, i < N → (∀ j, j < i → p j) → (p i → M (i + 1)) → M i) : M 0 := by
  have key := upInd (N := N) (M := fun i => (∀ j, j < i → p j) → M i) hN (fun i hi ih hp =>
    hs i hi hp (fun h => ih fun j hj => by
      by_cases e : j = i
      · subst e; exact h
      · exact hp j (by omega)))
  exact key 0 (Nat.zero_le _) fun j hj => absurd hj (by omega)

abbrev OP := Int × Int × Int × Int × Int × Unit
abbrev TS := Int × Int × Int × List Int × List Int × Unit
abbrev Sh4 := Bool × Bool × Bool × Bool × Unit
/-- which members an instruction uses: D, A, B, N -/
def oshp (op : Int) : Sh4 :=
  if op = 0 ∨ op = 22 then (false, false, false, false, ())
  else if op = 1 ∨ op = 2 ∨ op = 3 ∨ op = 4 ∨ op = 5 ∨ op = 6 ∨ op = 7 ∨ op = 15 then (true, true, true, false, ())
  else if op = 8 ∨ op = 9 ∨ op = 10 ∨ op = 12 then (true, true, false, true, ())
  else if op = 11 then (true, false, false, true, ())
  else if op = 13 ∨ op = 16 ∨ op = 17 ∨ op = 18 then (false, true, true, true, ())
  else if op = 14 then (true, false, true, true, ())
  else if op = 19 ∨ op = 20 ∨ op = 24 then (false, false, false, true, ())
  else (false, true, false, false, ())
def ofbad (x : OP) : Prop := ((oshp x.1).1 = false ∧ x.2.1 ≠ 0) ∨ ((oshp x.1).2.1 = false ∧ x.2.2.1 ≠ 0) ∨ ((oshp x.1).2.2.1 = false ∧ x.2.2.2.1 ≠ 0) ∨ ((oshp x.1).2.2.2.1 = false ∧ x.2.2.2.2.1 ≠ 0)
def orbad (x : OP) : Prop := x.2.1 < 0 ∨ 15 < x.2.1 ∨ x.2.2.1 < 0 ∨ 15 < x.2.2.1 ∨ x.2.2.2.1 < 0 ∨ 15 < x.2.2.2.1 ∨ x.2.2.2.2.1 < -2147483648 ∨ 2147483647 < x.2.2.2.2.1
def olow (op : Int) : Int := if op = 9 ∨ op = 10 ∨ op = 14 then 0 else if op = 24 then 1 else -2147483648
def ohigh (op : Int) : Int := if op = 9 ∨ op = 10 then 31 else if op = 14 then 4095 else if op = 24 then 6 else 2147483647
def otbad (x : OP) : Prop := x.2.2.2.2.1 < olow x.1 ∨ ohigh x.1 < x.2.2.2.2.1
structure Oc (x : OP) (k : Int → Prop) : Prop where
  h1 : ¬ (0 ≤ x.1 ∧ x.1 ≤ 24) → k 1
  hr : 0 ≤ x.1 → x.1 ≤ 24 → orbad x → k 4
  h3 : 0 ≤ x.1 → x.1 ≤ 24 → ¬ orbad x → ofbad x → k 3
  ht : 0 ≤ x.1 → x.1 ≤ 24 → ¬ orbad x → ¬ ofbad x → otbad x → k 4
  h0 : 0 ≤ x.1 → x.1 ≤ 24 → ¬ orbad x → ¬ ofbad x → ¬ otbad x → k 0
open Classical in
noncomputable def oErr (x : OP) : Int := if ¬ (0 ≤ x.1 ∧ x.1 ≤ 24) then 1 else if orbad x then 4 else if ofbad x then 3 else if otbad x then 4 else 0
theorem oc_of {x : OP} {k : Int → Prop} (h : k (oErr x)) : Oc x k := by
  unfold oErr at h
  refine ⟨fun e => ?_, fun a b e => ?_, fun a b e1 e2 => ?_, fun a b e1 e2 e3 => ?_, fun a b e1 e2 e3 => ?_⟩
  · rw [if_pos e] at h; exact h
  · rw [if_neg (fun h => h ⟨a, b⟩), if_pos e] at h; exact h
  · rw [if_neg (fun h => h ⟨a, b⟩), if_neg e1, if_pos e2] at h; exact h
  · rw [if_neg (fun h => h ⟨a, b⟩), if_neg e1, if_neg e2, if_pos e3] at h; exact h
  · rw [if_neg (fun h => h ⟨a, b⟩), if_neg e1, if_neg e2, if_neg e3] at h; exact h
theorem oErr_good {x : OP} (h : oErr x = 0) : (0 ≤ x.1 ∧ x.1 ≤ 24) ∧ ¬ orbad x := by
  unfold oErr at h
  by_cases e : 0 ≤ x.1 ∧ x.1 ≤ 24
  · rw [if_neg (fun h => h e)] at h
    by_cases e2 : orbad x
    · rw [if_pos e2] at h; cases h
    · exact ⟨e, e2⟩
  · rw [if_pos e] at h; cases h

theorem c31_ok {a b c : Int} {k : Bool → Prop} (h : k (decide (b ≤ a ∧ a ≤ c))) : c31 a b c k := by
  constructor
  refine brP (fun h1 => ?_) fun h1 => ?_
  · rw [show decide (a ≤ c) = decide (b ≤ a ∧ a ≤ c) by rw [decide_eq_decide]; omega]; exact h
  · rw [show decide (b ≤ a ∧ a ≤ c) = false from decide_eq_false fun e => h1 e.1] at h; exact h
theorem orng {a lo hi : Int} {x y : Prop} (h1 : ¬ (lo ≤ a ∧ a ≤ hi) → x) (h2 : lo ≤ a → a ≤ hi → y) : c31 a lo hi (fun z => br (!z) x y) := by
  refine c31_ok ?_
  by_cases h : lo ≤ a ∧ a ≤ hi
  · rw [decide_eq_true h]; exact brF rfl (h2 h.1 h.2)
  · rw [decide_eq_false h]; exact brT rfl (h1 h)
theorem orng2 {a lo hi : Int} {J : Bool → Prop} (h1 : ¬ (lo ≤ a ∧ a ≤ hi) → J true) (h2 : lo ≤ a → a ≤ hi → J false) : c31 a lo hi (fun z => J (!z)) := by
  refine c31_ok ?_
  by_cases h : lo ≤ a ∧ a ≤ hi
  · rw [decide_eq_true h]; exact h2 h.1 h.2
  · rw [decide_eq_false h]; exact h1 h

theorem c32_ok {op : Int} {k : Sh4 → Prop} (h0 : 0 ≤ op) (h1 : op ≤ 24) (h : k (oshp op)) : c32 op k := by
  constructor
  unfold tc32
  repeat' (first | refine brE (fun e => ?_) (fun e => ?_))
  all_goals first
    | (subst op; exact h)
    | (unfold oshp at h; rw [if_neg (by omega), if_neg (by omega), if_neg (by omega), if_neg (by omega), if_neg (by omega), if_neg (by omega), if_neg (by omega)] at h; exact h)

theorem j25r8_ok {x : OP} {k : Int → Prop} (h1 : otbad x → k 4) (h0 : ¬ otbad x → k 0) (hr : ¬ orbad x) : j25r8 k x := by
  have hT : otbad x → j25s8 (fun z => k z) (j25r10 (fun z => k z)) true := fun h => ⟨brT rfl (h1 h)⟩
  have hF : ¬ otbad x → j25s8 (fun z => k z) (j25r10 (fun z => k z)) false := fun h => ⟨brF rfl ⟨h0 h⟩⟩
  have hlow : olow x.1 = if x.1 = 9 ∨ x.1 = 10 ∨ x.1 = 14 then 0 else if x.1 = 24 then 1 else -2147483648 := rfl
  have hhigh : ohigh x.1 = if x.1 = 9 ∨ x.1 = 10 then 31 else if x.1 = 14 then 4095 else if x.1 = 24 then 6 else 2147483647 := rfl
  have hL : otbad x ↔ x.2.2.2.2.1 < olow x.1 ∨ ohigh x.1 < x.2.2.2.2.1 := Iff.rfl
  have h24 : x.1 ≠ 9 → x.1 ≠ 10 → x.1 ≠ 14 → br ((x.1 : Int) == 24) (c31 x.2.2.2.2.1 1 6 (fun z42 => j25s8 (fun z43 => k z43) (j25r10 (fun z44 => k z44)) (!z42))) (j25s8 (fun z45 => k z45) (j25r10 (fun z46 => k z46)) false) := fun n1 n2 n3 => by
    refine brE (fun e => ?_) fun n4 => hF fun q => ?_
    · rw [if_neg (by omega), if_pos e] at hlow
      rw [if_neg (by omega), if_neg (by omega), if_pos e] at hhigh
      exact orng2 (J := fun b => j25s8 (fun z => k z) (j25r10 (fun z => k z)) b) (fun q => hT (hL.2 (by omega))) fun c1 c2 => hF fun q => by have := hL.1 q; omega
    · rw [if_neg (by omega), if_neg (by omega)] at hlow
      rw [if_neg (by omega), if_neg (by omega), if_neg (by omega)] at hhigh
      have := hL.1 q
      unfold orbad at hr
      omega
  constructor
  refine brE (fun e1 => ?_) fun n1 => brE (fun e2 => ?_) fun n2 => brE (fun e3 => ?_) fun n3 => h24 n1 n2 n3
  · rw [if_pos (by omega)] at hlow
    rw [if_pos (by omega)] at hhigh
    exact orng (fun q => hT (hL.2 (by omega))) fun c1 c2 => brE (fun e => by omega) fun _ => brE (fun e => by omega) fun _ => hF fun q => by have := hL.1 q; omega
  · rw [if_pos (by omega)] at hlow
    rw [if_pos (by omega)] at hhigh
    exact orng (fun q => hT (hL.2 (by omega))) fun c1 c2 => brE (fun e => by omega) fun _ => brE (fun e => by omega) fun _ => hF fun q => by have := hL.1 q; omega
  · rw [if_pos (by omega)] at hlow
    rw [if_neg (by omega), if_pos (by omega)] at hhigh
    exact orng (fun q => hT (hL.2 (by omega))) fun c1 c2 => brE (fun e => by omega) fun _ => hF fun q => by have := hL.1 q; omega

theorem c25_ok {x : OP} {k : Int → Prop} (h : Oc x k) : c25 x k := by
  have hR : orbad x ↔ (x.2.1 < 0 ∨ 15 < x.2.1 ∨ x.2.2.1 < 0 ∨ 15 < x.2.2.1 ∨ x.2.2.2.1 < 0 ∨ 15 < x.2.2.2.1 ∨ x.2.2.2.2.1 < -2147483648 ∨ 2147483647 < x.2.2.2.2.1) := Iff.rfl
  constructor
  unfold tc25
  refine orng (fun e => h.h1 e) fun a1 a2 => orng (fun e => h.hr a1 a2 (hR.2 (by omega))) fun b1 b2 => orng (fun e => h.hr a1 a2 (hR.2 (by omega))) fun b3 b4 => orng (fun e => h.hr a1 a2 (hR.2 (by omega))) fun b5 b6 => orng (fun e => h.hr a1 a2 (hR.2 (by omega))) fun b7 b8 => c32_ok a1 a2 ?_
  have hr : ¬ orbad x := fun e => by have := hR.1 e; omega
  have hT : ofbad x → j25s6 (fun z8 => k z8) (fun z9 => j25r8 (fun z10 => k z10) z9) true x := fun e => ⟨brT rfl (h.h3 a1 a2 hr e)⟩
  have hF : ¬ ofbad x → j25s6 (fun z8 => k z8) (fun z9 => j25r8 (fun z10 => k z10) z9) false x := fun e => ⟨brF rfl (j25r8_ok (h.ht a1 a2 hr e) (h.h0 a1 a2 hr e) hr)⟩
  unfold ofbad at hT hF
  generalize oshp x.1 = s at hT hF ⊢
  have hJ : ¬ (s.1 = false ∧ x.2.1 ≠ 0) → ¬ (s.2.1 = false ∧ x.2.2.1 ≠ 0) → ¬ (s.2.2.1 = false ∧ x.2.2.2.1 ≠ 0) → s.2.2.2.1 = false → j25s6 (fun z8 => k z8) (fun z9 => j25r8 (fun z10 => k z10) z9) ((x.2.2.2.2.1 : Int) != 0) x := by
    intro q1 q2 q3 q4
    by_cases hn : x.2.2.2.2.1 = 0
    · rw [hn]; exact hF fun e => e.elim q1 fun e => e.elim q2 fun e => e.elim q3 fun e => e.2 hn
    · rw [show ((x.2.2.2.2.1 : Int) != 0) = true by simp [hn]]
      exact hT (.inr (.inr (.inr ⟨q4, hn⟩)))
  obtain ⟨d, a, b, m, ⟨⟩⟩ := s
  clear h hr
  dsimp only at hT hF hJ ⊢
  cases d <;> cases a <;> cases b <;> cases m <;> (repeat' (first | refine brT (b := !false) rfl ?_ | refine brF (b := !true) rfl ?_ | refine brN (fun e => hT ?_) (fun e => ?_))) <;> first
    | (refine hJ ?_ ?_ ?_ rfl <;> simp [*]; done)
    | (refine hF ?_; simp [*]; done)
    | (simp [*]; done)

/-! the reference -/
def ostr (s : Sh4) : List UInt8 := (if s.1 then [68] else []) ++ (if s.2.1 then [65] else []) ++ (if s.2.2.1 then [66] else []) ++ (if s.2.2.2.1 then [78] else [])
theorem c22_ok {s : List UInt8} {c : Nat} {k : Bool → Prop} (hl : s.length ≤ 1000) (h1 : (∃ b ∈ s, b.toNat = c) → k true) (h2 : (¬ ∃ b ∈ s, b.toNat = c) → k false) : c22 s (c : Int) k := by
  constructor
  constructor
  intro I hI
  refine allInd (N := s.length) (p := fun i => ∀ h : i < s.length, s[i].toNat ≠ c) (M := fun i => I s (c : Int) (s.length : Int) (i : Int)) (fun h => hI _ _ _ _ (brDn (by omega) (h2 ?_))) fun i hi hlt ih => hI _ _ _ _ ?_
  · rintro ⟨b, hb, e⟩
    obtain ⟨i, hi, rfl⟩ := List.mem_iff_getElem.1 hb
    exact h i hi hi e
  · rw [wrapS (by omega)]
    exact brD (by omega) (needAt hi (brE (fun e => h1 ⟨s[i], List.getElem_mem hi, by exact_mod_cast e⟩) fun e => ih fun _ e2 => e (by exact_mod_cast e2)))
theorem ostr_len {s : Sh4} : (ostr s).length ≤ 1000 := by
  unfold ostr
  simp only [List.length_append]
  repeat' split
  all_goals simp
/-- the table of members at an operation -/
theorem tab_ok {op : Int} (h0 : 0 ≤ op) (h1 : op ≤ 24) {K : List UInt8 → Prop} (h : K (ostr (oshp op))) :
    need False ([[], [(68 : UInt8), (65 : UInt8), (66 : UInt8)], [(68 : UInt8), (65 : UInt8), (66 : UInt8)], [(68 : UInt8), (65 : UInt8), (66 : UInt8)], [(68 : UInt8), (65 : UInt8), (66 : UInt8)], [(68 : UInt8), (65 : UInt8), (66 : UInt8)], [(68 : UInt8), (65 : UInt8), (66 : UInt8)], [(68 : UInt8), (65 : UInt8), (66 : UInt8)], [(68 : UInt8), (65 : UInt8), (78 : UInt8)], [(68 : UInt8), (65 : UInt8), (78 : UInt8)], [(68 : UInt8), (65 : UInt8), (78 : UInt8)], [(68 : UInt8), (78 : UInt8)], [(68 : UInt8), (65 : UInt8), (78 : UInt8)], [(65 : UInt8), (66 : UInt8), (78 : UInt8)], [(68 : UInt8), (66 : UInt8), (78 : UInt8)], [(68 : UInt8), (65 : UInt8), (66 : UInt8)], [(65 : UInt8), (66 : UInt8), (78 : UInt8)], [(65 : UInt8), (66 : UInt8), (78 : UInt8)], [(65 : UInt8), (66 : UInt8), (78 : UInt8)], [(78 : UInt8)], [(78 : UInt8)], [(65 : UInt8)], [], [(65 : UInt8)], [(78 : UInt8)]])[(Int.toNat op)]? K := by
  have : op = 0 ∨ op = 1 ∨ op = 2 ∨ op = 3 ∨ op = 4 ∨ op = 5 ∨ op = 6 ∨ op = 7 ∨ op = 8 ∨ op = 9 ∨ op = 10 ∨ op = 11 ∨ op = 12 ∨ op = 13 ∨ op = 14 ∨ op = 15 ∨ op = 16 ∨ op = 17 ∨ op = 18 ∨ op = 19 ∨ op = 20 ∨ op = 21 ∨ op = 22 ∨ op = 23 ∨ op = 24 := by omega
  rcases this with rfl | rfl | rfl | rfl | rfl | rfl | rfl | rfl | rfl | rfl | rfl | rfl | rfl | rfl | rfl | rfl | rfl | rfl | rfl | rfl | rfl | rfl | rfl | rfl | rfl <;> exact h

theorem l16r13_ok {x : OP} {k1 : Int → Prop} {k2 : OP → Prop} (h3 : ofbad x → k1 3) (h : ¬ ofbad x → k2 x) :
    l16r13 k1 k2 (ostr (oshp x.1)) ((4 : Nat) : Int) 0 x [x.2.1, x.2.2.1, x.2.2.2.1, x.2.2.2.2.1] := by
  constructor
  intro I hI
  have hs := ostr_len (s := oshp x.1)
  generalize hV : [x.2.1, x.2.2.1, x.2.2.2.1, x.2.2.2.2.1] = V
  have hVl : V.length = 4 := by rw [← hV]; rfl
  have hbad : ofbad x ↔ ∃ i, ∃ h : i < 4, V[i] ≠ 0 ∧ ¬ ∃ b ∈ ostr (oshp x.1), b.toNat = ([68, 65, 66, 78] : List Nat)[i] := by
    unfold ofbad
    generalize oshp x.1 = s
    have e0 : (∃ b ∈ ostr s, b.toNat = 68) ↔ s.1 = true := by obtain ⟨d, a, b, m, ⟨⟩⟩ := s; cases d <;> cases a <;> cases b <;> cases m <;> decide
    have e1 : (∃ b ∈ ostr s, b.toNat = 65) ↔ s.2.1 = true := by obtain ⟨d, a, b, m, ⟨⟩⟩ := s; cases d <;> cases a <;> cases b <;> cases m <;> decide
    have e2 : (∃ b ∈ ostr s, b.toNat = 66) ↔ s.2.2.1 = true := by obtain ⟨d, a, b, m, ⟨⟩⟩ := s; cases d <;> cases a <;> cases b <;> cases m <;> decide
    have e3 : (∃ b ∈ ostr s, b.toNat = 78) ↔ s.2.2.2.1 = true := by obtain ⟨d, a, b, m, ⟨⟩⟩ := s; cases d <;> cases a <;> cases b <;> cases m <;> decide
    subst hV
    constructor
    · rintro (⟨q1, q2⟩ | ⟨q1, q2⟩ | ⟨q1, q2⟩ | ⟨q1, q2⟩)
      · exact ⟨0, by decide, q2, fun e => by rw [e0.1 e] at q1; cases q1⟩
      · exact ⟨1, by decide, q2, fun e => by rw [e1.1 e] at q1; cases q1⟩
      · exact ⟨2, by decide, q2, fun e => by rw [e2.1 e] at q1; cases q1⟩
      · exact ⟨3, by decide, q2, fun e => by rw [e3.1 e] at q1; cases q1⟩
    · have key : ∀ b : Bool, ¬ b = true → b = false := fun b h => by simpa using h
      rintro ⟨i, hi, q1, q2⟩
      match i, hi with
      | 0, _ => exact .inl ⟨key _ fun e => q2 (e0.2 e), q1⟩
      | 1, _ => exact .inr (.inl ⟨key _ fun e => q2 (e1.2 e), q1⟩)
      | 2, _ => exact .inr (.inr (.inl ⟨key _ fun e => q2 (e2.2 e), q1⟩))
      | 3, _ => exact .inr (.inr (.inr ⟨key _ fun e => q2 (e3.2 e), q1⟩))
  clear hV
  have hn : ∀ i, i < 4 → ∀ c : UInt8, ([68, 65, 66, 78] : List UInt8)[i]? = some c → ([68, 65, 66, 78] : List Nat)[i]? = some c.toNat := by
    intro i hi c hc
    match i, hi with
    | 0, _ => simp at hc; subst hc; rfl
    | 1, _ => simp at hc; subst hc; rfl
    | 2, _ => simp at hc; subst hc; rfl
    | 3, _ => simp at hc; subst hc; rfl
  refine allInd (N := 4) (p := fun i => ∀ h : i < 4, ¬ (V[i] ≠ 0 ∧ ¬ ∃ b ∈ ostr (oshp x.1), b.toNat = ([68, 65, 66, 78] : List Nat)[i])) (M := fun i => I (ostr (oshp x.1)) ((4 : Nat) : Int) (i : Int) x V) (fun hall => hI _ _ _ _ _ (brDn (by omega) (h fun e => ?_))) fun i hi hlt ih => hI _ _ _ _ _ ?_
  · obtain ⟨i, hi, q⟩ := hbad.1 e
    exact hall i hi hi q
  · rw [wrapS (by omega), Int.toNat_natCast]
    refine brD (by omega) (brD (by omega) (needNth (by omega) (brN (fun e => needAt (by simpa using hi) ?_) fun e => ih fun _ q => q.1 e)))
    have hc : ([68, 65, 66, 78] : List Nat)[i] = (([68, 65, 66, 78] : List UInt8)[i]'(by simpa using hi)).toNat := by
      have := hn i hi _ (List.getElem?_eq_getElem (by simpa using hi))
      rw [List.getElem?_eq_getElem (by simpa using hi)] at this
      exact Option.some.inj this
    refine c22_ok hs (fun q => brF rfl (ih fun _ q2 => q2.2 ?_)) fun q => brT rfl (h3 (hbad.2 ⟨i, hi, e, ?_⟩))
    · rw [hc]; exact q
    · rw [hc]; exact q

theorem l16r4_ok {x : OP} {l : List Int} {k1 : Int → Prop} {k2 : OP → Prop} (hl : l.length = 3) (h1 : (∃ r ∈ l, r < 0 ∨ 15 < r) → k1 4) (h2 : (¬ ∃ r ∈ l, r < 0 ∨ 15 < r) → k2 x) : l16r4 k1 k2 ((3 : Nat) : Int) 0 x l := by
  constructor
  intro I hI
  refine allInd (N := 3) (p := fun i => ∀ h : i < l.length, ¬ (l[i] < 0 ∨ 15 < l[i])) (M := fun i => I ((3 : Nat) : Int) (i : Int) x l) (fun h => hI _ _ _ _ (brDn (by omega) (h2 ?_))) fun i hi hlt ih => hI _ _ _ _ ?_
  · rintro ⟨r, hr, hb⟩
    obtain ⟨i, hi, rfl⟩ := List.mem_iff_getElem.1 hr
    exact h i (by omega) hi hb
  · rw [wrapS (by omega), Int.toNat_natCast]
    refine brD (by omega) (brD (by omega) (needNth (by omega) (brP (fun q => h1 ⟨l[i], List.getElem_mem _, .inl q⟩) fun q => brP (fun q2 => h1 ⟨l[i], List.getElem_mem _, .inr (by omega)⟩) fun q2 => ih fun _ => by omega)))

theorem c16_ok {x : OP} {k : Int → Prop} (h : Oc x k) : c16 x k := by
  have hR : orbad x ↔ (x.2.1 < 0 ∨ 15 < x.2.1 ∨ x.2.2.1 < 0 ∨ 15 < x.2.2.1 ∨ x.2.2.2.1 < 0 ∨ 15 < x.2.2.2.1 ∨ x.2.2.2.2.1 < -2147483648 ∨ 2147483647 < x.2.2.2.2.1) := Iff.rfl
  have hL : otbad x ↔ x.2.2.2.2.1 < olow x.1 ∨ ohigh x.1 < x.2.2.2.2.1 := Iff.rfl
  have hlow : olow x.1 = if x.1 = 9 ∨ x.1 = 10 ∨ x.1 = 14 then 0 else if x.1 = 24 then 1 else -2147483648 := rfl
  have hhigh : ohigh x.1 = if x.1 = 9 ∨ x.1 = 10 then 31 else if x.1 = 14 then 4095 else if x.1 = 24 then 6 else 2147483647 := rfl
  constructor
  refine brP (fun e => h.h1 (by omega)) fun a1 => brP (fun e => h.h1 (by omega)) fun a2 => ?_
  have a1 : 0 ≤ x.1 := by omega
  have a2 : x.1 ≤ 24 := by omega
  refine l16r4_ok rfl (fun e => h.hr a1 a2 (hR.2 ?_)) fun e => brP (fun e2 => h.hr a1 a2 (hR.2 (by omega))) fun n1 => brP (fun e2 => h.hr a1 a2 (hR.2 (by omega))) fun n2 => ?_
  · simp at e; omega
  have hr : ¬ orbad x := fun e2 => by have := hR.1 e2; simp at e; omega
  constructor
  refine brT rfl (brT (eqT_self (.int .i64) _) (brD ⟨a1, by simp; omega⟩ (tab_ok a1 a2 (l16r13_ok (h.h3 a1 a2 hr) fun hf => ?_))))
  have hb : otbad x → k 4 := h.ht a1 a2 hr hf
  have hg : ¬ otbad x → k 0 := h.h0 a1 a2 hr hf
  clear h e
  refine brE (fun e1 => ?_) fun m1 => brE (fun e1 => ?_) fun m2 => brE (fun e1 => ?_) fun m3 => brE (fun e1 => ?_) fun m4 => ?_
  · rw [if_pos (by omega)] at hlow
    rw [if_pos (by omega)] at hhigh
    exact brP (fun q => hb (hL.2 (by omega))) fun q => brP (fun q2 => hb (hL.2 (by omega))) fun q2 => hg fun w => by have := hL.1 w; omega
  · rw [if_pos (by omega)] at hlow
    rw [if_pos (by omega)] at hhigh
    exact brP (fun q => hb (hL.2 (by omega))) fun q => brP (fun q2 => hb (hL.2 (by omega))) fun q2 => hg fun w => by have := hL.1 w; omega
  · rw [if_pos (by omega)] at hlow
    rw [if_neg (by omega), if_pos (by omega)] at hhigh
    exact brP (fun q => hb (hL.2 (by omega))) fun q => brP (fun q2 => hb (hL.2 (by omega))) fun q2 => hg fun w => by have := hL.1 w; omega
  · rw [if_neg (by omega), if_pos (by omega)] at hlow
    rw [if_neg (by omega), if_neg (by omega), if_pos (by omega)] at hhigh
    exact brP (fun q => hb (hL.2 (by omega))) fun q => brP (fun q2 => hb (hL.2 (by omega))) fun q2 => hg fun w => by have := hL.1 w; omega
  · rw [if_neg (by omega), if_neg (by omega)] at hlow
    rw [if_neg (by omega), if_neg (by omega), if_neg (by omega)] at hhigh
    exact brP (fun q => hb (hL.2 (by omega))) fun q => brP (fun q2 => hb (hL.2 (by omega))) fun q2 => hg fun w => by have := hL.1 w; omega
def lat (op : Int) : Int := if op = 3 ∨ op = 12 then 3 else if op = 14 ∨ op = 15 then 4 else if op = 4 ∨ op = 5 then 8 else 1
theorem lat_pos {op : Int} : 1 ≤ lat op ∧ lat op ≤ 8 := by unfold lat; repeat' split
                                                           all_goals omega
theorem c5_ok {op : Int} {k : Int → Prop} (h : k (lat op)) : c5 op k := by
  constructor
  unfold lat at h
  refine brE (fun e => ?_) fun n1 => brE (fun e => ?_) fun n2 => brE (fun e => ?_) fun n3 => brE (fun e => ?_) fun n4 => brE (fun e => ?_) fun n5 => brE (fun e => ?_) fun n6 => ?_
  · rw [if_pos (by omega)] at h; exact h
  · rw [if_pos (by omega)] at h; exact h
  · rw [if_neg (by omega), if_pos (by omega)] at h; exact h
  · rw [if_neg (by omega), if_pos (by omega)] at h; exact h
  · rw [if_neg (by omega), if_neg (by omega), if_pos (by omega)] at h; exact h
  · rw [if_neg (by omega), if_neg (by omega), if_pos (by omega)] at h; exact h
  · rw [if_neg (by omega), if_neg (by omega), if_neg (by omega)] at h; exact h
theorem c6_ok {op : Int} {k : Int → Prop} (h : k (lat op)) : c6 op k := by
  constructor
  refine brP (fun e => ?_) fun n1 => brP (fun e => ?_) fun n2 => brD (by omega) ?_
  · unfold lat at h; rw [if_neg (by omega), if_neg (by omega), if_neg (by omega)] at h; exact h
  · unfold lat at h; rw [if_neg (by omega), if_neg (by omega), if_neg (by omega)] at h; exact h
  · have : op = 0 ∨ op = 1 ∨ op = 2 ∨ op = 3 ∨ op = 4 ∨ op = 5 ∨ op = 6 ∨ op = 7 ∨ op = 8 ∨ op = 9 ∨ op = 10 ∨ op = 11 ∨ op = 12 ∨ op = 13 ∨ op = 14 ∨ op = 15 ∨ op = 16 ∨ op = 17 ∨ op = 18 ∨ op = 19 ∨ op = 20 ∨ op = 21 ∨ op = 22 ∨ op = 23 ∨ op = 24 := by omega
    rcases this with rfl | rfl | rfl | rfl | rfl | rfl | rfl | rfl | rfl | rfl | rfl | rfl | rfl | rfl | rfl | rfl | rfl | rfl | rfl | rfl | rfl | rfl | rfl | rfl | rfl <;> exact h

def nz (l : List Int) : List Int := l.filter fun r => r != 0
theorem nz_snoc {l : List Int} {j : Nat} (hj : j < l.length) : nz (l.take (j + 1)) = nz (l.take j) ++ (if l[j] = 0 then [] else [l[j]]) := by
  unfold nz
  rw [List.take_succ_eq_append_getElem hj, List.filter_append]
  by_cases e : l[j] = 0 <;> simp [e]
theorem nz_len {l : List Int} : (nz l).length ≤ l.length := by unfold nz; exact List.length_filter_le _ _
theorem c24_ok {l : List Int} {k : List Int → Prop} (hl : l.length ≤ 100) (h : k (nz l)) : c24 l k := by
  constructor
  constructor
  intro I hI
  have key := upInd (N := l.length) (M := fun j => I l (l.length : Int) (j : Int) (nz (l.take j)))
    (by apply hI; rw [List.take_length]; exact brDn (by omega) h)
    (by
      intro j hj ih
      apply hI
      have hn := nz_len (l := l.take j)
      rw [List.length_take] at hn
      rw [nz_snoc hj] at ih
      rw [wrapS (by omega)]
      refine brD (by omega) (needAt hj (brN (fun e => brT (roomS (by omega)) ?_) fun e => ?_))
      · rw [if_neg e] at ih; exact ih
      · rw [if_pos e, List.append_nil] at ih; exact ih)
    0 (Nat.zero_le _)
  exact key
theorem c24v2_ok {l : List Int} {k1 k2 : List Int → Prop} (hl : l.length ≤ 100) (h1 : k1 (nz l)) (h2 : k2 (nz l)) : c24v2 l [] k1 k2 := by
  constructor
  constructor
  intro I1 I2 hI1 hI2
  have key2 := upInd (N := l.length) (M := fun j => I2 l (l.length : Int) (j : Int) (nz (l.take j)))
    (by apply hI2; rw [List.take_length]; exact brDn (by omega) h2)
    (by
      intro j hj ih
      apply hI2
      have hn := nz_len (l := l.take j)
      rw [List.length_take] at hn
      rw [nz_snoc hj] at ih
      rw [wrapS (by omega)]
      refine brD (by omega) (needAt hj (brN (fun e => brT (roomS (by omega)) ?_) fun e => ?_))
      · rw [if_neg e] at ih; exact ih
      · rw [if_pos e, List.append_nil] at ih; exact ih)
  have key1 := upInd (N := l.length) (M := fun j => I1 l (l.length : Int) (j : Int) (nz (l.take j)))
    (by apply hI1; rw [List.take_length]; exact brDn (by omega) h1)
    (by
      intro j hj ih
      apply hI1
      have hn := nz_len (l := l.take j)
      rw [List.length_take] at hn
      have k2' := key2 (j + 1) hj
      rw [nz_snoc hj] at ih k2'
      rw [wrapS (by omega)]
      refine brD (by omega) (needAt hj (brN (fun e => brT (roomS (by omega)) ?_) fun e => ?_))
      · rw [if_neg e] at k2'; exact k2'
      · rw [if_pos e, List.append_nil] at ih; exact ih)
    0 (Nat.zero_le _)
  exact key1

def twoOp (op : Int) : Prop := op = 1 ∨ op = 2 ∨ op = 3 ∨ op = 4 ∨ op = 5 ∨ op = 6 ∨ op = 7 ∨ op = 13 ∨ op = 15 ∨ op = 16 ∨ op = 17 ∨ op = 18
instance {op : Int} : Decidable (twoOp op) := by unfold twoOp; infer_instance
def oneOp (op : Int) : Prop := op = 8 ∨ op = 9 ∨ op = 10 ∨ op = 12 ∨ op = 21 ∨ op = 23
instance {op : Int} : Decidable (oneOp op) := by unfold oneOp; infer_instance
/-- the registers that an instruction reads -/
def reads (x : OP) : List Int :=
  if x.1 = 0 then [1] else if x.1 = 22 then [15] else if twoOp x.1 then nz [x.2.2.1, x.2.2.2.1] else if oneOp x.1 then nz [x.2.2.1] else if x.1 = 14 then nz [x.2.2.2.1] else []

theorem c10_ok {x : OP} {k : List Int → Prop} (h : k (reads x)) : c10 x k := by
  unfold reads at h
  have ht : twoOp x.1 ↔ (x.1 = 1 ∨ x.1 = 2 ∨ x.1 = 3 ∨ x.1 = 4 ∨ x.1 = 5 ∨ x.1 = 6 ∨ x.1 = 7 ∨ x.1 = 13 ∨ x.1 = 15 ∨ x.1 = 16 ∨ x.1 = 17 ∨ x.1 = 18) := Iff.rfl
  have ho : oneOp x.1 ↔ (x.1 = 8 ∨ x.1 = 9 ∨ x.1 = 10 ∨ x.1 = 12 ∨ x.1 = 21 ∨ x.1 = 23) := Iff.rfl
  constructor
  unfold tc10
  refine brE (fun e => ?_) fun n0 => brE (fun e => ?_) fun n22 => ?_
  · rw [if_pos e] at h; exact c24_ok (by simp) ⟨h⟩
  · rw [if_neg n0, if_pos e] at h; exact c24_ok (by simp) ⟨h⟩
  rw [if_neg n0, if_neg n22] at h
  have h2 : twoOp x.1 → j10s19 (fun z6 => j10r30 (fun z7 => k z7) z6) x.1 true x [] := fun e => by
    rw [if_pos e] at h
    exact ⟨brT rfl (c24v2_ok (by simp) ⟨h⟩ ⟨h⟩)⟩
  have h1 : ¬ twoOp x.1 → j10s19 (fun z6 => j10r30 (fun z7 => k z7) z6) x.1 false x [] := fun e => by
    rw [if_neg e] at h
    refine ⟨brF rfl ?_⟩
    refine brE (fun e => ?_) fun m1 => brE (fun e => ?_) fun m2 => brE (fun e => ?_) fun m3 => brE (fun e => ?_) fun m4 => brE (fun e => ?_) fun m5 => brE (fun e => ?_) fun m6 => ?_
    iterate 6
      · rw [if_pos (ho.2 (by omega))] at h; exact c24v2_ok (by simp) ⟨h⟩ ⟨h⟩
    rw [if_neg (fun q => by have := ho.1 q; omega)] at h
    refine brE (fun e => ?_) fun m7 => ?_
    · rw [if_pos e] at h; exact c24v2_ok (by simp) ⟨h⟩ ⟨h⟩
    · rw [if_neg m7] at h; exact ⟨h⟩
  refine brE (fun e => h2 (ht.2 (by omega))) fun m1 => brE (fun e => h2 (ht.2 (by omega))) fun m2 => brE (fun e => h2 (ht.2 (by omega))) fun m3 => brE (fun e => h2 (ht.2 (by omega))) fun m4 => brE (fun e => h2 (ht.2 (by omega))) fun m5 => brE (fun e => h2 (ht.2 (by omega))) fun m6 => brE (fun e => h2 (ht.2 (by omega))) fun m7 => brE (fun e => h2 (ht.2 (by omega))) fun m8 => brE (fun e => h2 (ht.2 (by omega))) fun m9 => brE (fun e => h2 (ht.2 (by omega))) fun m10 => brE (fun e => h2 (ht.2 (by omega))) fun m11 => ?_
  by_cases e : x.1 = 18
  · rw [show (x.1 == 18) = true from beq_iff_eq.2 e]; exact h2 (ht.2 (by omega))
  · rw [show (x.1 == 18) = false from beq_eq_false_iff_ne.2 e]; exact h1 fun q => by have := ht.1 q; omega

/-- what a letter of the reference's table says -/
def rd (x : OP) (c : Int) : List Int := if c = 65 then nz [x.2.2.1] else if c = 66 then nz [x.2.2.2.1] else if c = 70 then [15] else [1]
theorem l11r6_ok {x : OP} {l : List Int} {k : List Int → Prop} (hl : l.length ≤ 100) (h : k (l.flatMap (rd x))) : l11r6 k l (l.length : Int) 0 x [] := by
  have hr : ∀ c, (rd x c).length ≤ 1 := fun c => by
    unfold rd
    repeat' split
    all_goals first | exact nz_len | simp
  have hlen : ∀ m : List Int, (m.flatMap (rd x)).length ≤ m.length := by
    intro m
    induction m with
    | nil => simp
    | cons a r ih => rw [List.flatMap_cons, List.length_append, List.length_cons]; have := hr a; omega
  constructor
  intro I hI
  have key := upInd (N := l.length) (M := fun j => I l (l.length : Int) (j : Int) x ((l.take j).flatMap (rd x)))
    (by apply hI; rw [List.take_length]; exact brDn (by omega) h)
    (by
      intro j hj ih
      apply hI
      have hn := hlen (l.take j)
      rw [List.length_take] at hn
      rw [List.take_succ_eq_append_getElem hj, List.flatMap_append, List.flatMap_cons, List.flatMap_nil, List.append_nil] at ih
      rw [wrapS (by omega)]
      have hrd : rd x l[j] = if l[j] = 65 then nz [x.2.2.1] else if l[j] = 66 then nz [x.2.2.2.1] else if l[j] = 70 then [15] else [1] := rfl
      rw [hrd] at ih
      refine brD (by omega) (needAt hj (brE (fun e => ?_) fun n1 => brE (fun e => ?_) fun n2 => brE (fun e => ?_) fun n3 => ?_))
      · rw [if_pos e] at ih
        refine brN (fun e2 => brT (roomS (by omega)) ?_) fun e2 => ?_
        · rw [show nz [x.2.2.1] = [x.2.2.1] by unfold nz; simp [e2]] at ih; exact ih
        · rw [show nz [x.2.2.1] = [] by unfold nz; simp [e2], List.append_nil] at ih; exact ih
      · rw [if_neg n1, if_pos e] at ih
        refine brN (fun e2 => brT (roomS (by omega)) ?_) fun e2 => ?_
        · rw [show nz [x.2.2.2.1] = [x.2.2.2.1] by unfold nz; simp [e2]] at ih; exact ih
        · rw [show nz [x.2.2.2.1] = [] by unfold nz; simp [e2], List.append_nil] at ih; exact ih
      · rw [if_neg n1, if_neg n2, if_pos e] at ih
        exact brT (roomS (by omega)) ih
      · rw [if_neg n1, if_neg n2, if_neg n3] at ih
        exact brT (roomS (by omega)) ih)
    0 (Nat.zero_le _)
  exact key
theorem nz_two {a b : Int} : nz [a, b] = nz [a] ++ nz [b] := by unfold nz; rw [← List.filter_append]; rfl
theorem c11_ok {x : OP} {k : List Int → Prop} (h : k (reads x)) : c11 x k := by
  constructor
  have hout : x.1 < 0 ∨ 25 ≤ x.1 → reads x = [] := fun e => by
    unfold reads
    rw [if_neg (by omega), if_neg (by omega), if_neg (by unfold twoOp; omega), if_neg (by unfold oneOp; omega), if_neg (by omega)]
  refine brP (fun e => ?_) fun n1 => brP (fun e => ?_) fun n2 => brD (by omega) ?_
  · rw [hout (by omega)] at h; exact h
  · rw [hout (by omega)] at h; exact h
  obtain ⟨op, d, a, b, n, ⟨⟩⟩ := x
  have : op = 0 ∨ op = 1 ∨ op = 2 ∨ op = 3 ∨ op = 4 ∨ op = 5 ∨ op = 6 ∨ op = 7 ∨ op = 8 ∨ op = 9 ∨ op = 10 ∨ op = 11 ∨ op = 12 ∨ op = 13 ∨ op = 14 ∨ op = 15 ∨ op = 16 ∨ op = 17 ∨ op = 18 ∨ op = 19 ∨ op = 20 ∨ op = 21 ∨ op = 22 ∨ op = 23 ∨ op = 24 := by dsimp only at n1 n2; omega
  clear n1 n2 hout
  have hAB : k (nz [a, b]) → l11r6 (fun z3 => k z3) [65, 66] ((2 : Nat) : Int) 0 (op, d, a, b, n, ()) [] := fun h => l11r6_ok (l := [65, 66]) (by simp) (by rw [nz_two] at h; simpa [rd] using h)
  have hA : k (nz [a]) → l11r6 (fun z3 => k z3) [65] ((1 : Nat) : Int) 0 (op, d, a, b, n, ()) [] := fun h => l11r6_ok (l := [65]) (by simp) (by simpa [rd] using h)
  have hB : k (nz [b]) → l11r6 (fun z3 => k z3) [66] ((1 : Nat) : Int) 0 (op, d, a, b, n, ()) [] := fun h => l11r6_ok (l := [66]) (by simp) (by simpa [rd] using h)
  have h1 : k [1] → l11r6 (fun z3 => k z3) [49] ((1 : Nat) : Int) 0 (op, d, a, b, n, ()) [] := fun h => l11r6_ok (l := [49]) (by simp) (by simpa [rd] using h)
  have hF : k [15] → l11r6 (fun z3 => k z3) [70] ((1 : Nat) : Int) 0 (op, d, a, b, n, ()) [] := fun h => l11r6_ok (l := [70]) (by simp) (by simpa [rd] using h)
  have hN : k [] → l11r6 (fun z3 => k z3) [] ((0 : Nat) : Int) 0 (op, d, a, b, n, ()) [] := fun h => l11r6_ok (l := []) (by simp) h
  rcases this with rfl | rfl | rfl | rfl | rfl | rfl | rfl | rfl | rfl | rfl | rfl | rfl | rfl | rfl | rfl | rfl | rfl | rfl | rfl | rfl | rfl | rfl | rfl | rfl | rfl <;> first | exact hAB h | exact hA h | exact hB h | exact h1 h | exact hF h | exact hN h

/-- the register that an instruction writes, or 0 -/
def wr (x : OP) : Int :=
  if x.1 = 20 ∨ x.1 = 21 then 15 else if x.1 = 0 ∨ x.1 = 13 ∨ x.1 = 16 ∨ x.1 = 17 ∨ x.1 = 18 ∨ x.1 = 19 ∨ x.1 = 22 ∨ x.1 = 23 ∨ x.1 = 24 then 0 else x.2.1
theorem c7_ok {x : OP} {k : Int → Prop} (h : k (wr x)) : c7 x k := by
  constructor
  unfold wr at h
  refine brE (fun e => ?_) fun m1 => brE (fun e => ?_) fun m2 => ?_
  · rw [if_pos (by omega)] at h; exact h
  · rw [if_pos (by omega)] at h; exact h
  rw [if_neg (by omega)] at h
  refine brE (fun e => ?_) fun n1 => brE (fun e => ?_) fun n2 => brE (fun e => ?_) fun n3 => brE (fun e => ?_) fun n4 => brE (fun e => ?_) fun n5 => brE (fun e => ?_) fun n6 => brE (fun e => ?_) fun n7 => brE (fun e => ?_) fun n8 => brE (fun e => ?_) fun n9 => ?_
  iterate 9
    · rw [if_pos (by omega)] at h; exact h
  rw [if_neg (by omega)] at h; exact h
theorem c21_ok {a b c : Int} {k : Bool → Prop} (h : k (decide (b ≤ a ∧ a ≤ c))) : c21 a b c k := by
  constructor
  refine brP (fun h1 => ?_) fun h1 => ?_
  · rw [show decide (a ≤ c) = decide (b ≤ a ∧ a ≤ c) by rw [decide_eq_decide]; omega]; exact h
  · rw [show decide (b ≤ a ∧ a ≤ c) = false from decide_eq_false fun e => h1 e.1] at h; exact h
theorem c8_ok {x : OP} {k : Int → Prop} (h0 : 0 ≤ x.1) (h24 : x.1 ≤ 24) (h : k (wr x)) : c8 x k := by
  constructor
  unfold wr at h
  refine brE (fun e => ?_) fun m1 => brE (fun e => ?_) fun m2 => c21_ok ?_
  · rw [if_pos (by omega)] at h; exact h
  · rw [if_pos (by omega)] at h; exact h
  rw [if_neg (by omega)] at h
  rw [decide_eq_true ⟨h0, h24⟩]
  refine brT rfl ?_
  constructor
  refine brT rfl (brT (eqT_self (.int .i64) _) (brD ⟨h0, by simp; omega⟩ (tab_ok h0 h24 (c22_ok (c := 68) ostr_len (fun q => brT rfl ?_) fun q => brF rfl (c21_ok ?_)))))
  · have hd : (oshp x.1).1 = true := by
      revert q
      generalize oshp x.1 = s
      obtain ⟨d, a, b, m, ⟨⟩⟩ := s; cases d <;> cases a <;> cases b <;> cases m <;> decide
    rw [if_neg] at h
    · exact h
    · intro e
      unfold oshp at hd
      have : x.1 = 0 ∨ x.1 = 13 ∨ x.1 = 16 ∨ x.1 = 17 ∨ x.1 = 18 ∨ x.1 = 19 ∨ x.1 = 22 ∨ x.1 = 23 ∨ x.1 = 24 := e
      rcases this with e | e | e | e | e | e | e | e | e <;> rw [e] at hd <;> exact absurd hd (by decide)
  · have hd : (oshp x.1).1 = false := by
      revert q
      generalize oshp x.1 = s
      obtain ⟨d, a, b, m, ⟨⟩⟩ := s; cases d <;> cases a <;> cases b <;> cases m <;> decide
    rw [decide_eq_true ⟨h0, h24⟩]
    refine brT rfl ?_
    rw [if_pos] at h
    · exact h
    · refine Classical.byContradiction fun hne => ?_
      have h2 : x.1 = 1 ∨ x.1 = 2 ∨ x.1 = 3 ∨ x.1 = 4 ∨ x.1 = 5 ∨ x.1 = 6 ∨ x.1 = 7 ∨ x.1 = 8 ∨ x.1 = 9 ∨ x.1 = 10 ∨ x.1 = 11 ∨ x.1 = 12 ∨ x.1 = 14 ∨ x.1 = 15 := by omega
      rcases h2 with e | e | e | e | e | e | e | e | e | e | e | e | e | e <;> rw [e] at hd <;> exact absurd hd (by decide)

theorem c27_ok {op : Int} {k : Bool → Prop} (h1 : op = 4 ∨ op = 5 → k true) (h2 : ¬ (op = 4 ∨ op = 5) → k false) : c27 op k := by
  constructor
  refine brE (fun e => h1 (.inl e)) fun n => ?_
  by_cases e : op = 5
  · rw [show (op == 5) = true from beq_iff_eq.2 e]; exact h1 (.inr e)
  · rw [show (op == 5) = false from beq_eq_false_iff_ne.2 e]; exact h2 (by omega)
theorem c33_ok {l : List Int} {v : Int} {k : Bool → Prop} (hl : l.length ≤ maxLen) (h1 : v ∈ l → k true) (h2 : v ∉ l → k false) : c33 l v k := by
  have hm := hml
  constructor
  constructor
  constructor
  intro I hI
  refine allInd (N := l.length) (p := fun i => ∀ h : i < l.length, l[i] ≠ v) (M := fun i => I l v (l.length : Int) (i : Int)) (fun h => hI _ _ _ _ (brDn (by omega) (h2 fun hm => ?_))) fun i hi hlt ih => hI _ _ _ _ ?_
  · obtain ⟨i, hi, e⟩ := List.mem_iff_getElem.1 hm
    exact h i hi hi e
  · rw [wrapS (by omega)]
    refine brD (by omega) (needAt hi (brE (fun e => ?_) fun e => ih fun _ e2 => e e2.symm))
    show k (decide ((i : Int) ≥ 0))
    rw [decide_eq_true (by omega)]
    exact h1 (e ▸ List.getElem_mem hi)
theorem le_maxI {a b : Int} : a ≤ maxI a b ∧ b ≤ maxI a b := by unfold maxI; split <;> omega
theorem maxI_le {a b M : Int} (h1 : a ≤ M) (h2 : b ≤ M) : maxI a b ≤ M := by unfold maxI; split <;> omega

/-- a state whose numbers are at most M, with at most L writes under way -/
structure St (s : TS) (M : Int) (L : Nat) : Prop where
  n0 : 0 ≤ s.1
  n1 : s.1 ≤ M
  d0 : 0 ≤ s.2.1
  d1 : s.2.1 ≤ M
  f0 : 0 ≤ s.2.2.1
  f1 : s.2.2.1 ≤ M
  rl : s.2.2.2.1.length = 16
  r0 : ∀ r ∈ s.2.2.2.1, 0 ≤ r ∧ r ≤ M
  w0 : ∀ w ∈ s.2.2.2.2.1, s.1 ≤ w ∧ w ≤ M
  ws : s.2.2.2.2.1.Pairwise (· < ·)
  wl : s.2.2.2.2.1.length ≤ L

def at0 (R : List Int) (r : Int) : Int := R[r.toNat]?.getD 0
theorem at0_mem {R : List Int} {r : Int} (h0 : 0 ≤ r) (h : r.toNat < R.length) : at0 R r ∈ R := by
  unfold at0; rw [List.getElem?_eq_getElem h]; exact List.getElem_mem h
theorem at0_get {R : List Int} {n : Nat} (h : n < R.length) : at0 R (n : Int) = R[n] := by
  unfold at0; rw [Int.toNat_natCast, List.getElem?_eq_getElem h]; rfl
def fm (R : List Int) : List Int → Int → Int
  | [], m => m
  | r :: l, m => fm R l (maxI m (at0 R r))
theorem fm_ge {R : List Int} : ∀ {l : List Int} {m : Int}, m ≤ fm R l m ∧ ∀ r ∈ l, at0 R r ≤ fm R l m
  | [], m => ⟨Int.le_refl _, fun r hr => by cases hr⟩
  | x :: l, m => by
    have h1 := fm_ge (R := R) (l := l) (m := maxI m (at0 R x))
    have h2 := le_maxI (a := m) (b := at0 R x)
    refine ⟨Int.le_trans h2.1 h1.1, fun r hr => ?_⟩
    rcases List.mem_cons.1 hr with rfl | hr
    · exact Int.le_trans h2.2 h1.1
    · exact h1.2 r hr
theorem fm_le {R : List Int} {M : Int} : ∀ {l : List Int} {m : Int}, m ≤ M → (∀ r ∈ l, at0 R r ≤ M) → fm R l m ≤ M
  | [], m, h, _ => h
  | x :: l, m, h, h2 => fm_le (l := l) (maxI_le h (h2 x (by simp))) fun r hr => h2 r (by simp [hr])

theorem reads_in {x : OP} (h : ¬ orbad x) : ∀ r ∈ reads x, 0 ≤ r ∧ r < 16 := by
  have hn : ∀ (l : List Int), (∀ r ∈ l, 0 ≤ r ∧ r < 16) → ∀ r ∈ nz l, 0 ≤ r ∧ r < 16 := fun l hl r hr => by
    unfold nz at hr
    exact hl r (List.mem_filter.1 hr).1
  unfold orbad at h
  unfold reads
  repeat' split
  · intro r hr; simp at hr; omega
  · intro r hr; simp at hr; omega
  · exact hn _ fun r hr => by simp at hr; omega
  · exact hn _ fun r hr => by simp at hr; omega
  · exact hn _ fun r hr => by simp at hr; omega
  · intro r hr; cases hr
theorem reads_len {x : OP} : (reads x).length ≤ 2 := by
  unfold reads
  repeat' split
  all_goals first | simp | exact Nat.le_trans nz_len (by simp)
theorem wr_in {x : OP} (h : ¬ orbad x) : 0 ≤ wr x ∧ wr x < 16 := by
  unfold orbad at h
  unfold wr
  repeat' split
  all_goals omega

theorem l26r3_ok {s : TS} {x : OP} {l : List Int} {a m : Int} {k : Int → Int → TS → OP → Prop} (hR : s.2.2.2.1.length = 16) (hl : l.length ≤ 100) (hin : ∀ r ∈ l, 0 ≤ r ∧ r < 16) (h : k a (fm s.2.2.2.1 l m) s x) :
    l26r3 k a m (l.length : Int) 0 s x l := by
  constructor
  intro I hI
  have key := upInd (N := l.length) (M := fun j => ∀ m, k a (fm s.2.2.2.1 (l.drop j) m) s x → I a m (l.length : Int) (j : Int) s x l)
    (by intro m h; apply hI; rw [List.drop_length] at h; exact brDn (by omega) h)
    (by
      intro j hj ih m h
      apply hI
      have hr := hin _ (List.getElem_mem hj)
      rw [drop_cons hj] at h
      rw [wrapS (by omega), Int.toNat_natCast]
      refine brD (by omega) (brD (by omega) (needNth hj (brD (by omega) (needNth (by omega) (ih _ ?_)))))
      have e : at0 s.2.2.2.1 l[j] = s.2.2.2.1[(l[j]).toNat]'(by omega) := by unfold at0; rw [List.getElem?_eq_getElem (by omega)]; rfl
      rw [← e]; exact h)
    0 (Nat.zero_le _)
  exact key m h
theorem l19r4_ok {s : TS} {x : OP} {l : List Int} {a b m u v w : Int} {p q : List Int} {k : Int → Int → Int → TS → OP → Int → Int → Int → List Int → List Int → Prop} (hR : s.2.2.2.1.length = 16) (hl : l.length ≤ 100) (hin : ∀ r ∈ l, 0 ≤ r ∧ r < 16) (h : k a b (fm s.2.2.2.1 l m) s x u v w p q) :
    l19r4 k a b m (l.length : Int) 0 s x u v w p q l := by
  constructor
  intro I hI
  have key := upInd (N := l.length) (M := fun j => ∀ m, k a b (fm s.2.2.2.1 (l.drop j) m) s x u v w p q → I a b m (l.length : Int) (j : Int) s x u v w p q l)
    (by intro m h; apply hI; rw [List.drop_length] at h; exact brDn (by omega) h)
    (by
      intro j hj ih m h
      apply hI
      have hr := hin _ (List.getElem_mem hj)
      rw [drop_cons hj] at h
      rw [wrapS (by omega), Int.toNat_natCast]
      refine brD (by omega) (brD (by omega) (needNth hj (brD (by omega) (needNth (by omega) (ih _ ?_)))))
      have e : at0 s.2.2.2.1 l[j] = s.2.2.2.1[(l[j]).toNat]'(by omega) := by unfold at0; rw [List.getElem?_eq_getElem (by omega)]; rfl
      rw [← e]; exact h)
    0 (Nat.zero_le _)
  exact key m h

/-- the first cycle from b on that no write under way takes, behind l cycles -/
def IsAt (W : List Int) (l b a : Int) : Prop := b ≤ a ∧ a + l ∉ W ∧ ∀ c, b ≤ c → c < a → c + l ∈ W
theorem exists_at (W : List Int) (l : Int) : ∀ (n : Nat) (b : Int), (W.filter fun w => decide (b + l ≤ w)).length ≤ n → ∃ a, IsAt W l b a ∧ a ≤ b + n := by
  intro n
  induction n with
  | zero =>
    intro b hn
    refine ⟨b, ⟨Int.le_refl _, fun hm => ?_, fun c h1 h2 => by omega⟩, by omega⟩
    have : b + l ∈ W.filter fun w => decide (b + l ≤ w) := List.mem_filter.2 ⟨hm, by simp⟩
    have := List.length_pos_of_mem this
    omega
  | succ n ih =>
    intro b hn
    by_cases hm : b + l ∈ W
    · have hlt : (W.filter fun w => decide (b + 1 + l ≤ w)).length < (W.filter fun w => decide (b + l ≤ w)).length := by
        have h1 : (W.filter fun w => decide (b + 1 + l ≤ w)) = ((W.filter fun w => decide (b + l ≤ w)).filter fun w => decide (b + 1 + l ≤ w)) := by
          rw [List.filter_filter]
          congr 1; funext w
          by_cases e : b + 1 + l ≤ w
          · rw [decide_eq_true e, decide_eq_true (by omega : b + l ≤ w)]; rfl
          · rw [decide_eq_false e]; rfl
        rw [h1]
        refine Nat.lt_of_le_of_ne (List.length_filter_le _ _) fun e => ?_
        have h2 := List.length_filter_eq_length_iff.1 e (b + l) (List.mem_filter.2 ⟨hm, by simp⟩)
        simp at h2; omega
      obtain ⟨a, ⟨h1, h2, h3⟩, h4⟩ := ih (b + 1) (by omega)
      refine ⟨a, ⟨by omega, h2, fun c c1 c2 => ?_⟩, by omega⟩
      by_cases e : c = b
      · rw [e]; exact hm
      · exact h3 c (by omega) c2
    · exact ⟨b, ⟨Int.le_refl _, hm, fun c h1 h2 => by omega⟩, by omega⟩

def base (s : TS) (x : OP) (l : Int) : Int :=
  let a := fm s.2.2.2.1 (reads x) s.1
  let b := if x.1 = 4 ∨ x.1 = 5 then maxI a s.2.1 else a
  if wr x = 0 then b else maxI b (at0 s.2.2.2.1 (wr x) + 1 - l)
open Classical in
noncomputable def atOf (s : TS) (x : OP) (l : Int) : Int := if wr x = 0 then base s x l else Classical.choose (exists_at s.2.2.2.2.1 l s.2.2.2.2.1.length (base s x l) (List.length_filter_le _ _))
theorem atOf_ge {s : TS} {x : OP} {l : Int} : base s x l ≤ atOf s x l ∧ atOf s x l ≤ base s x l + s.2.2.2.2.1.length := by
  unfold atOf
  split
  · exact ⟨Int.le_refl _, by omega⟩
  · obtain ⟨h1, h2⟩ := Classical.choose_spec (exists_at s.2.2.2.2.1 l s.2.2.2.2.1.length (base s x l) (List.length_filter_le _ _))
    exact ⟨h1.1, h2⟩
theorem atOf_is {s : TS} {x : OP} {l : Int} (hw : wr x ≠ 0) : IsAt s.2.2.2.2.1 l (base s x l) (atOf s x l) := by
  unfold atOf
  rw [if_neg hw]
  exact (Classical.choose_spec (exists_at s.2.2.2.2.1 l s.2.2.2.2.1.length (base s x l) (List.length_filter_le _ _))).1

theorem base_ge {s : TS} {x : OP} {l : Int} : s.1 ≤ base s x l ∧ (∀ r ∈ reads x, at0 s.2.2.2.1 r ≤ base s x l) ∧ (x.1 = 4 ∨ x.1 = 5 → s.2.1 ≤ base s x l) ∧ (wr x ≠ 0 → at0 s.2.2.2.1 (wr x) + 1 - l ≤ base s x l) := by
  have h := fm_ge (R := s.2.2.2.1) (l := reads x) (m := s.1)
  unfold base
  dsimp only
  generalize fm s.2.2.2.1 (reads x) s.1 = a at h ⊢
  have hb : a ≤ (if x.1 = 4 ∨ x.1 = 5 then maxI a s.2.1 else a) ∧ (x.1 = 4 ∨ x.1 = 5 → s.2.1 ≤ (if x.1 = 4 ∨ x.1 = 5 then maxI a s.2.1 else a)) := by
    by_cases e : x.1 = 4 ∨ x.1 = 5
    · rw [if_pos e]; exact ⟨le_maxI.1, fun _ => le_maxI.2⟩
    · rw [if_neg e]; exact ⟨Int.le_refl _, fun q => absurd q e⟩
  generalize (if x.1 = 4 ∨ x.1 = 5 then maxI a s.2.1 else a) = b at hb ⊢
  by_cases e : wr x = 0
  · rw [if_pos e]
    exact ⟨by omega, fun r hr => Int.le_trans (h.2 r hr) hb.1, hb.2, fun q => absurd e q⟩
  · rw [if_neg e]
    have hm := le_maxI (a := b) (b := at0 s.2.2.2.1 (wr x) + 1 - l)
    exact ⟨by omega, fun r hr => Int.le_trans (h.2 r hr) (Int.le_trans hb.1 hm.1), fun q => Int.le_trans (hb.2 q) hm.1, fun _ => hm.2⟩
theorem base_le {s : TS} {x : OP} {l M : Int} {L : Nat} (hs : St s M L) (hx : ¬ orbad x) (hl : 1 ≤ l) : 0 ≤ base s x l ∧ base s x l ≤ M := by
  have hR := hs.rl
  have hat : ∀ r, 0 ≤ r → r < 16 → 0 ≤ at0 s.2.2.2.1 r ∧ at0 s.2.2.2.1 r ≤ M := fun r h0 h1 => hs.r0 _ (at0_mem h0 (by omega))
  have hn0 := hs.n0
  have hbg := (base_ge (s := s) (x := x) (l := l)).1
  refine ⟨by omega, ?_⟩
  have h := fm_le (R := s.2.2.2.1) (M := M) (l := reads x) (m := s.1) hs.n1 fun r hr => (hat r (reads_in hx r hr).1 (reads_in hx r hr).2).2
  unfold base
  dsimp only
  have hd := hs.d1
  have hb : (if x.1 = 4 ∨ x.1 = 5 then maxI (fm s.2.2.2.1 (reads x) s.1) s.2.1 else fm s.2.2.2.1 (reads x) s.1) ≤ M := by
    split
    · exact maxI_le h hd
    · exact h
  split
  · exact hb
  · have := hat _ (wr_in hx).1 (wr_in hx).2
    exact maxI_le hb (by omega)

theorem l26r12_ok {s : TS} {l b a M : Int} {k : Int → Prop} (h0 : 0 ≤ b) (hM : a ≤ 4000000000000) (hl : 0 ≤ l ∧ l ≤ 100000) (hW : s.2.2.2.2.1.length ≤ maxLen) (h : IsAt s.2.2.2.2.1 l b a) (hk : k a) : l26r12 k l b s := by
  obtain ⟨h1, h2, h3⟩ := h
  constructor
  intro I hI
  have key : ∀ (n : Nat) (c : Int), b ≤ c → c ≤ a → a - c = n → I l c s := by
    intro n
    induction n with
    | zero =>
      intro c c1 c2 e
      have : c = a := by omega
      subst this
      apply hI
      rw [wrap64 (a := c + l) (by omega) (by omega)]
      exact c33_ok hW (fun q => absurd q h2) fun q => brF rfl hk
    | succ n ih =>
      intro c c1 c2 e
      apply hI
      rw [wrap64 (a := c + l) (by omega) (by omega), wrap64 (a := c + 1) (by omega) (by omega)]
      exact c33_ok hW (fun q => brT rfl (ih (c + 1) (by omega) (by omega) (by omega))) fun q => absurd (h3 c c1 (by omega)) q
  exact key (a - b).toNat b (Int.le_refl _) h1 (by omega)

theorem c26_ok {s : TS} {x : OP} {l M : Int} {L : Nat} {k : Int → Prop} (hs : St s M L) (hM : M ≤ 3000000000000) (hL : L ≤ 100000) (hx : ¬ orbad x) (hl : 1 ≤ l ∧ l ≤ 100000) (h : k (atOf s x l)) : c26 s x l k := by
  have hR := hs.rl
  have hwl := hs.wl
  have hm := hml
  have hw := wr_in hx
  have hb := base_le (l := l) hs hx hl.1
  have ha := atOf_ge (s := s) (x := x) (l := l)
  have hat := hs.r0 _ (at0_mem (R := s.2.2.2.1) hw.1 (by omega))
  have eat : at0 s.2.2.2.1 (wr x) = s.2.2.2.1[(wr x).toNat]'(by omega) := by unfold at0; rw [List.getElem?_eq_getElem (by omega)]; rfl
  have hbe : base s x l = (if wr x = 0 then (if x.1 = 4 ∨ x.1 = 5 then maxI (fm s.2.2.2.1 (reads x) s.1) s.2.1 else fm s.2.2.2.1 (reads x) s.1) else maxI (if x.1 = 4 ∨ x.1 = 5 then maxI (fm s.2.2.2.1 (reads x) s.1) s.2.1 else fm s.2.2.2.1 (reads x) s.1) (at0 s.2.2.2.1 (wr x) + 1 - l)) := rfl
  have tail : ∀ b0, b0 = (if x.1 = 4 ∨ x.1 = 5 then maxI (fm s.2.2.2.1 (reads x) s.1) s.2.1 else fm s.2.2.2.1 (reads x) s.1) →
      br ((wr x : Int) != 0) (br (decide ((0 : Int) ≤ wr x ∧ (wr x : Int) < 16)) (need False (s.2.2.2.1)[(Int.toNat (wr x))]? fun y11 =>
         l26r12 (fun z12 => k z12) l (maxI b0 (IntKind.wrap .i64 ((IntKind.wrap .i64 (y11 + 1)) - l))) s) False) (k b0) := by
    intro b0 e0
    rw [← e0] at hbe
    refine brN (fun e => brD (by omega) (needNth (by omega) ?_)) fun e => ?_
    · rw [if_neg e] at hbe
      rw [← eat, wrap64 (a := at0 s.2.2.2.1 (wr x) + 1) (by omega) (by omega), wrap64 (a := at0 s.2.2.2.1 (wr x) + 1 - l) (by omega) (by omega), ← hbe]
      exact l26r12_ok (M := M) hb.1 (by omega) (by omega) (by omega) (atOf_is e) h
    · rw [if_pos e] at hbe
      have : atOf s x l = base s x l := by unfold atOf; rw [if_pos e]
      rw [this, hbe] at h
      exact h
  constructor
  refine c10_ok (l26r3_ok hR (by have := reads_len (x := x); omega) (reads_in hx) (c27_ok (fun e => brT rfl (c7_ok ?_)) fun e => brF rfl (c7_ok ?_)))
  · exact tail _ (by rw [if_pos e])
  · exact tail _ (by rw [if_neg e])

theorem l30r4_ok {s : TS} {x : OP} {R : List Int} {a l : Int} {k1 : Bool → Prop} {k2 : Int → Int → TS → OP → Prop} (hR : s.2.2.2.1.length = 16) (hl : R.length ≤ 100) (hin : ∀ r ∈ R, 0 ≤ r ∧ r < 16) (hle : ∀ r ∈ R, at0 s.2.2.2.1 r ≤ a) (h : k2 a l s x) :
    l30r4 k1 k2 a l (R.length : Int) 0 s x R := by
  constructor
  intro I hI
  refine upInd (N := R.length) (M := fun j => I a l (R.length : Int) (j : Int) s x R) (hI _ _ _ _ _ _ _ (brDn (by omega) h)) (fun j hj ih => hI _ _ _ _ _ _ _ ?_) 0 (Nat.zero_le _)
  have hr := hin _ (List.getElem_mem hj)
  have hle := hle _ (List.getElem_mem hj)
  have e : at0 s.2.2.2.1 R[j] = s.2.2.2.1[(R[j]).toNat]'(by omega) := by unfold at0; rw [List.getElem?_eq_getElem (by omega)]; rfl
  rw [wrapS (by omega), Int.toNat_natCast]
  exact brD (by omega) (brD (by omega) (needNth hj (brD (by omega) (needNth (by omega) (brDn (by omega) ih)))))
theorem l30r15_ok {s : TS} {W : List Int} {a l w : Int} {k1 : Bool → Prop} {k2 : Int → Int → Int → TS → Prop} (hW : W.length ≤ maxLen) (hal : -9223372036854775808 ≤ a + l ∧ a + l ≤ 9223372036854775807) (h1 : a + l ∈ W → k1 false) (h2 : a + l ∉ W → k2 a l w s) :
    l30r15 k1 k2 a l w W (W.length : Int) 0 s := by
  have hm := hml
  constructor
  intro I hI
  refine allInd (N := W.length) (p := fun i => ∀ h : i < W.length, W[i] ≠ a + l) (M := fun i => I a l w W (W.length : Int) (i : Int) s) (fun h => hI _ _ _ _ _ _ _ (brDn (by omega) (h2 fun hm => ?_))) fun i hi hlt ih => hI _ _ _ _ _ _ _ ?_
  · obtain ⟨i, hi, e⟩ := List.mem_iff_getElem.1 hm
    exact h i hi hi e
  · rw [wrapS (by omega), wrap64 (a := a + l) hal.1 hal.2]
    exact brD (by omega) (needAt hi (brE (fun e => h1 (e ▸ List.getElem_mem hi)) fun e => ih fun _ => e))

theorem c30_ok {s : TS} {x : OP} {a l M : Int} {L : Nat} {k : Bool → Prop} (hs : St s M L) (hM : M ≤ 3000000000000) (hL : L ≤ 100000) (h0 : 0 ≤ x.1) (h24 : x.1 ≤ 24) (hx : ¬ orbad x) (hl : 1 ≤ l ∧ l ≤ 100000) (ha : base s x l ≤ a) (ha2 : a ≤ 4000000000000)
    (h1 : wr x ≠ 0 → a + l ∈ s.2.2.2.2.1 → k false) (h2 : (wr x = 0 ∨ a + l ∉ s.2.2.2.2.1) → k true) : c30 s x a l k := by
  have hR := hs.rl
  have hwl := hs.wl
  have hm := hml
  have hw := wr_in hx
  have hb := base_ge (s := s) (x := x) (l := l)
  have hb0 := base_le (l := l) hs hx hl.1
  have eat : at0 s.2.2.2.1 (wr x) = s.2.2.2.1[(wr x).toNat]'(by omega) := by unfold at0; rw [List.getElem?_eq_getElem (by omega)]; rfl
  have tail : c8 x (fun z11 => br ((z11 : Int) == 0) (k true) (l30r15 (fun z12 => k z12) (fun z13 z14 z15 z16 => br (decide ((0 : Int) ≤ z15 ∧ (z15 : Int) < 16)) (need False (z16.2.2.2.1)[(Int.toNat z15)]? fun y17 => k (decide (((IntKind.wrap .i64 (z13 + z14)) : Int) > y17))) False) a l z11 s.2.2.2.2.1 (((List.length s.2.2.2.2.1) : Nat) : Int) 0 s)) := by
    refine c8_ok h0 h24 (brE (fun e => h2 (.inl e)) fun e => l30r15_ok (by omega) (by omega) (fun q => h1 e q) fun q => brD (by omega) (needNth (by omega) ?_))
    rw [wrap64 (a := a + l) (by omega) (by omega), ← eat]
    have := hb.2.2.2 e
    rw [decide_eq_true (by omega)]
    exact h2 (.inr q)
  constructor
  refine brDn (by omega) (c11_ok (l30r4_ok hR (by have := reads_len (x := x); omega) (reads_in hx) (fun r hr => Int.le_trans (hb.2.1 r hr) ha) ?_))
  refine brE (fun e => ?_) fun n1 => brE (fun e => ?_) fun n2 => tail
  · have := hb.2.2.1 (.inl e)
    exact brDn (by omega) tail
  · have := hb.2.2.1 (.inr e)
    exact brDn (by omega) tail

theorem l19r13_ok {s : TS} {x : OP} {l M e u v w : Int} {L : Nat} {p q : List Int} {k : Int → Int → Int → TS → OP → Int → Int → Int → List Int → List Int → Prop} (hs : St s M L) (hM : M ≤ 3000000000000) (hL : L ≤ 100000) (h0 : 0 ≤ x.1) (h24 : x.1 ≤ 24) (hx : ¬ orbad x) (hl : 1 ≤ l ∧ l ≤ 100000)
    (h : k e l (atOf s x l) s x u v w p q) : l19r13 k e l (base s x l) s x u v w p q := by
  have hb := base_le (l := l) hs hx hl.1
  have ha := atOf_ge (s := s) (x := x) (l := l)
  have hwl := hs.wl
  constructor
  intro I hI
  have key : ∀ (n : Nat) (c : Int), base s x l ≤ c → c ≤ atOf s x l → atOf s x l - c = n → I e l c s x u v w p q := by
    intro n
    induction n with
    | zero =>
      intro c c1 c2 ec
      have : c = atOf s x l := by omega
      rw [this]
      apply hI
      refine c30_ok hs hM hL h0 h24 hx hl ha.1 (by omega) (fun e1 e2 => absurd e2 (atOf_is e1).2.1) fun _ => brF rfl h
    | succ n ih =>
      intro c c1 c2 ec
      apply hI
      rw [wrap64 (a := c + 1) (by omega) (by omega)]
      have hne : wr x ≠ 0 := fun e => by
        have : atOf s x l = base s x l := by unfold atOf; rw [if_pos e]
        omega
      have hmem := (atOf_is (s := s) (l := l) hne).2.2 c c1 (by omega)
      exact c30_ok hs hM hL h0 h24 hx hl c1 (by omega) (fun _ _ => brT rfl (ih (c + 1) (by omega) (by omega) (by omega))) fun q => absurd hmem (q.elim (fun e => absurd e hne) id)
  exact key (atOf s x l - base s x l).toNat _ (Int.le_refl _) ha.1 (by omega)
/-- the place of a number in an ascending list that does not have it -/
def Split (L : List Int) (i : Nat) (e : Int) : Prop := i ≤ L.length ∧ (∀ y ∈ L.take i, y < e) ∧ ∀ y ∈ L.drop i, e < y
def ins (L : List Int) (e : Int) : List Int := (L.filter fun y => decide (y < e)) ++ [e] ++ L.filter fun y => decide (e < y)
theorem split_filter {L : List Int} {i : Nat} {e : Int} (h : Split L i e) : L.take i = (L.filter fun y => decide (y < e)) ∧ L.drop i = L.filter fun y => decide (e < y) := by
  obtain ⟨h1, h2, h3⟩ := h
  have e1 : L = L.take i ++ L.drop i := (List.take_append_drop i L).symm
  have f1 : (L.take i).filter (fun y => decide (y < e)) = L.take i := List.filter_eq_self.2 fun y hy => decide_eq_true (h2 y hy)
  have f2 : (L.drop i).filter (fun y => decide (y < e)) = [] := List.filter_eq_nil_iff.2 fun y hy => by have := h3 y hy; simp; omega
  have f3 : (L.take i).filter (fun y => decide (e < y)) = [] := List.filter_eq_nil_iff.2 fun y hy => by have := h2 y hy; simp; omega
  have f4 : (L.drop i).filter (fun y => decide (e < y)) = L.drop i := List.filter_eq_self.2 fun y hy => decide_eq_true (h3 y hy)
  constructor
  · conv => rhs; rw [e1, List.filter_append, f1, f2, List.append_nil]
  · conv => rhs; rw [e1, List.filter_append, f3, f4, List.nil_append]
theorem ins_split {L : List Int} {i : Nat} {e : Int} (h : Split L i e) : L.take i ++ [e] ++ L.drop i = ins L e := by
  obtain ⟨h1, h2⟩ := split_filter h
  unfold ins
  rw [← h1, ← h2]
theorem filter_ins {W : List Int} {k : Nat} {e : Int} {p : Int → Bool} (h : Split W k e) (hp : p e = true) : (W.take k ++ ([e] ++ W.drop k)).filter p = ins (W.filter p) e := by
  obtain ⟨h1, h2⟩ := split_filter h
  unfold ins
  rw [List.filter_append, List.filter_append, h1, h2, List.filter_filter, List.filter_filter, List.filter_filter, List.filter_filter]
  have e1 : (fun a => p a && decide (a < e)) = fun a => decide (a < e) && p a := by funext a; exact Bool.and_comm _ _
  have e2 : (fun a => p a && decide (e < a)) = fun a => decide (e < a) && p a := by funext a; exact Bool.and_comm _ _
  rw [e1, e2, show [e].filter p = [e] by simp [hp], List.append_assoc]

theorem pw_get {L : List Int} (h : L.Pairwise (· < ·)) {i j : Nat} (hj : j < L.length) (hij : i < j) : L[i]'(by omega) < L[j] := List.pairwise_iff_getElem.1 h i j (by omega) hj hij
theorem split_of {L : List Int} (hs : L.Pairwise (· < ·)) {i : Nat} {e : Int} (hi : i ≤ L.length) (h1 : ∀ (h : 0 < i), L[i - 1]'(by omega) < e) (h2 : ∀ (h : i < L.length), e < L[i]) : Split L i e := by
  refine ⟨hi, fun y hy => ?_, fun y hy => ?_⟩
  · obtain ⟨j, hj, rfl⟩ := List.mem_take_iff_getElem.1 hy
    have := h1 (by omega)
    by_cases e2 : j = i - 1
    · subst e2; exact this
    · have := pw_get hs (i := j) (j := i - 1) (by omega) (by omega)
      omega
  · obtain ⟨j, hj, rfl⟩ := List.mem_drop_iff_getElem.1 hy
    have := h2 (by omega)
    by_cases e2 : j = 0
    · subst e2; exact this
    · have := pw_get hs (i := i) (j := i + j) (by omega) (by omega)
      omega

theorem c34_ok {a b : Int} {k : Bool → Prop} (h : k (decide (a < b))) : c34 a b k := by
  constructor
  constructor
  exact brF (by simp) h
theorem l28r3_ok {L : List Int} (hs : L.Pairwise (· < ·)) (hl : L.length ≤ 1000000) {e u : Int} (he : e ∉ L) {k : List Int → Int → Int → Int → Prop} (h : ∀ i, Split L i e → k L e u (i : Int)) : l28r3 k L e u 0 (L.length : Int) := by
  constructor
  intro I hI
  have key : ∀ (n i j : Nat) (h1 : i ≤ j) (h2 : j ≤ L.length), j - i ≤ n → (∀ (h : 0 < i), L[i - 1]'(by omega) < e) → (∀ (h : j < L.length), e < L[j]) → I L e u (i : Int) (j : Int) := by
    intro n
    induction n with
    | zero =>
      intro i j h1 h2 h3 g1 g2
      have : i = j := by omega
      subst this
      apply hI
      exact brDn (by omega) (h i (split_of hs h2 g1 g2))
    | succ n ih =>
      intro i j h1 h2 h3 g1 g2
      apply hI
      by_cases hij : i < j
      · rw [midI (by omega)]
        have hm1 : (i + j) / 2 < j := by omega
        have hm0 : i ≤ (i + j) / 2 := by omega
        generalize (i + j) / 2 = m at hm1 hm0 ⊢
        refine brD (by omega) (needAt (by omega) (c34_ok ?_))
        by_cases hc : L[m]'(by omega) < e
        · rw [decide_eq_true hc, wrapS (by omega)]
          exact brT rfl (ih (m + 1) j (by omega) h2 (by omega) (fun _ => hc) g2)
        · rw [decide_eq_false hc]
          refine brF rfl (ih i m (by omega) (by omega) (by omega) g1 fun hlt => ?_)
          have hne : L[m] ≠ e := fun q => he (q ▸ List.getElem_mem _)
          omega
      · have : i = j := by omega
        subst this
        exact brDn (by omega) (h i (split_of hs h2 g1 g2))
  exact key L.length 0 L.length (Nat.zero_le _) (Nat.le_refl _) (by omega) (fun h => absurd h (by omega)) fun h => absurd h (by omega)
theorem c28_ok {L : List Int} (hs : L.Pairwise (· < ·)) (hl : L.length ≤ 1000000) {e : Int} (he : e ∉ L) {k : Int → Bool → Prop} (h : ∀ i b, Split L i e → k (i : Int) b) : c28 L e k := by
  constructor
  refine l28r3_ok hs hl he fun i hi => brP (fun q => needAt (by omega) (brE (fun q2 => h i _ hi) fun q2 => needAt (by omega) ?_)) fun q => h i _ hi
  constructor
  exact brF (by simp) (h i _ hi)

theorem l28r3_any {L : List Int} (hl : L.length ≤ 1000000) {e u : Int} {k : List Int → Int → Int → Int → Prop} (h : ∀ i : Nat, i ≤ L.length → k L e u (i : Int)) : l28r3 k L e u 0 (L.length : Int) := by
  constructor
  intro I hI
  have key : ∀ (n i j : Nat) (h1 : i ≤ j) (h2 : j ≤ L.length), j - i ≤ n → I L e u (i : Int) (j : Int) := by
    intro n
    induction n with
    | zero =>
      intro i j h1 h2 h3
      apply hI
      exact brDn (by omega) (h i (by omega))
    | succ n ih =>
      intro i j h1 h2 h3
      apply hI
      by_cases hij : i < j
      · rw [midI (by omega)]
        have hm1 : (i + j) / 2 < j := by omega
        have hm0 : i ≤ (i + j) / 2 := by omega
        generalize (i + j) / 2 = m at hm1 hm0 ⊢
        refine brD (by omega) (needAt (by omega) (c34_ok ?_))
        by_cases hc : L[m]'(by omega) < e
        · rw [decide_eq_true hc, wrapS (by omega)]
          exact brT rfl (ih (m + 1) j (by omega) h2 (by omega))
        · rw [decide_eq_false hc]
          exact brF rfl (ih i m (by omega) (by omega) (by omega))
      · exact brDn (by omega) (h i (by omega))
  exact key L.length 0 L.length (Nat.zero_le _) (Nat.le_refl _) (by omega)
theorem c28_any {L : List Int} (hl : L.length ≤ 1000000) {e : Int} {k : Int → Bool → Prop} (h : ∀ (i : Nat) b, i ≤ L.length → k (i : Int) b) : c28 L e k := by
  constructor
  refine l28r3_any hl fun i hi => brP (fun q => needAt (by omega) (brE (fun q2 => h i _ hi) fun q2 => needAt (by omega) ?_)) fun q => h i _ hi
  constructor
  exact brF (by simp) (h i _ hi)

/-- the writes that are not over -/
def live (W : List Int) (n : Int) : List Int := W.filter fun y => decide (y ≥ n)
theorem live_snoc {W : List Int} {n : Int} {j : Nat} (hj : j < W.length) : live (W.take (j + 1)) n = live (W.take j) n ++ (if W[j] ≥ n then [W[j]] else []) := by
  unfold live
  rw [List.take_succ_eq_append_getElem hj, List.filter_append]
  by_cases e : W[j] ≥ n
  · rw [if_pos e]; simp [e]
  · rw [if_neg e]; simp [e]
theorem live_len {W : List Int} {n : Int} : (live W n).length ≤ W.length := by unfold live; exact List.length_filter_le _ _
theorem live_pw {W : List Int} {n : Int} (h : W.Pairwise (· < ·)) : (live W n).Pairwise (· < ·) := by unfold live; exact h.filter _

theorem l17r18_ok {W : List Int} (hl : W.length ≤ 1000000) {a e n d f u v w : Int} {R q r : List Int} {x : OP} {k : Int → Int → List Int → Int → Int → Int → List Int → OP → Int → Int → Int → List Int → List Int → List Int → Prop} (h : k a e W n d f R x u v w q r (live W n)) :
    l17r18 k a e (W.length : Int) 0 W n d f R x u v w q r [] := by
  constructor
  intro I hI
  have key := upInd (N := W.length) (M := fun j => I a e (W.length : Int) (j : Int) W n d f R x u v w q r (live (W.take j) n))
    (by apply hI; rw [List.take_length]; exact brDn (by omega) h)
    (by
      intro j hj ih
      apply hI
      have hn := live_len (W := W.take j) (n := n)
      rw [List.length_take] at hn
      rw [live_snoc hj] at ih
      rw [wrapS (by omega), Int.toNat_natCast]
      refine brD (by omega) (brD (by omega) (needNth hj (brP (fun e => brT (roomS (by omega)) ?_) fun e => ?_)))
      · rw [if_pos e] at ih; exact ih
      · rw [if_neg e, List.append_nil] at ih; exact ih)
    0 (Nat.zero_le _)
  exact key
theorem l17r18v2_ok {W : List Int} (hl : W.length ≤ 1000000) {a e u v w : Int} {s : TS} {q r : List Int} {x : OP} {k : Int → Int → TS → OP → Int → Int → Int → List Int → List Int → List Int → Prop} (h : k a e s x u v w q r (live W s.1)) :
    l17r18v2 k a e W (W.length : Int) 0 s x u v w q r [] := by
  constructor
  intro I hI
  have key := upInd (N := W.length) (M := fun j => I a e W (W.length : Int) (j : Int) s x u v w q r (live (W.take j) s.1))
    (by apply hI; rw [List.take_length]; exact brDn (by omega) h)
    (by
      intro j hj ih
      apply hI
      have hn := live_len (W := W.take j) (n := s.1)
      rw [List.length_take] at hn
      rw [live_snoc hj] at ih
      rw [wrapS (by omega)]
      refine brD (by omega) (needAt hj (brP (fun e => brT (roomS (by omega)) ?_) fun e => ?_))
      · rw [if_pos e] at ih; exact ih
      · rw [if_neg e, List.append_nil] at ih; exact ih)
    0 (Nat.zero_le _)
  exact key
theorem l19r29v2_ok {W : List Int} (hl : W.length ≤ 1000000) {a b c d n t f : Int} {P Q R : List Int} {k : Int → Int → Int → Int → List Int → List Int → Int → Int → Int → List Int → List Int → Prop} (h : k a b c d P Q n t f R (live W n)) :
    l19r29v2 k a (W.length : Int) 0 b c d P Q n t f R [] W := by
  constructor
  intro I hI
  have key := upInd (N := W.length) (M := fun j => I a (W.length : Int) (j : Int) b c d P Q n t f R (live (W.take j) n) W)
    (by apply hI; rw [List.take_length]; exact brDn (by omega) h)
    (by
      intro j hj ih
      apply hI
      have hn := live_len (W := W.take j) (n := n)
      rw [List.length_take] at hn
      rw [live_snoc hj] at ih
      rw [wrapS (by omega), Int.toNat_natCast]
      refine brD (by omega) (brD (by omega) (needNth hj (brP (fun e => brT (roomS (by omega)) ?_) fun e => ?_)))
      · rw [if_pos e] at ih; exact ih
      · rw [if_neg e, List.append_nil] at ih; exact ih)
    0 (Nat.zero_le _)
  exact key

/-- the reference looks for the place from the end -/
theorem l19r25_ok {W : List Int} (hs : W.Pairwise (· < ·)) (hl : W.length ≤ 1000000) {a l b c d n t f : Int} {P Q R T : List Int} (hal : -9223372036854775808 ≤ a + l ∧ a + l ≤ 9223372036854775807) (he : a + l ∉ W)
    {k : Int → Int → Int → Int → Int → Int → List Int → List Int → Int → Int → Int → List Int → List Int → List Int → Prop} (h : ∀ i, Split W i (a + l) → k l a (i : Int) b c d P Q n t f R T W) :
    l19r25 k l a (W.length : Int) b c d P Q n t f R T W := by
  constructor
  intro I hI
  have key : ∀ (i : Nat), i ≤ W.length → (∀ (h : i < W.length), a + l < W[i]) → I l a (i : Int) b c d P Q n t f R T W := by
    intro i
    induction i with
    | zero =>
      intro h1 h2
      apply hI
      exact brDn (by omega) (h 0 (split_of hs h1 (fun h => absurd h (by omega)) h2))
    | succ i ih =>
      intro h1 h2
      apply hI
      have hw : IntKind.wrap .i64 (((i + 1 : Nat) : Int) - 1) = (i : Int) := by rw [wrap64 (by omega) (by omega)]; omega
      rw [hw, Int.toNat_natCast, wrap64 (a := a + l) hal.1 hal.2]
      refine brD (by omega) (brD (by omega) (needNth (by omega) (brP (fun e => ih (by omega) fun _ => e) fun e => h (i + 1) (split_of hs h1 (fun _ => ?_) h2))))
      have hne : W[i] ≠ a + l := fun q => he (q ▸ List.getElem_mem _)
      show W[i] < a + l
      omega
  exact key W.length (Nat.le_refl _) fun h => absurd h (by omega)
theorem ins_len {e : Int} : ∀ {L : List Int}, (ins L e).length ≤ L.length + 1
  | [] => by simp [ins]
  | y :: L => by
    have := ins_len (e := e) (L := L)
    unfold ins at this ⊢
    simp only [List.length_append, List.filter_cons, List.length_cons, List.length_nil] at this ⊢
    by_cases h1 : y < e
    · rw [decide_eq_true h1, decide_eq_false (by omega : ¬ e < y)]; simp; omega
    · by_cases h2 : e < y
      · rw [decide_eq_false h1, decide_eq_true h2]; simp; omega
      · rw [decide_eq_false h1, decide_eq_false h2]; simp; omega
theorem ins_mem {e y : Int} {L : List Int} (h : y ∈ ins L e) : y ∈ L ∨ y = e := by
  unfold ins at h
  simp only [List.mem_append, List.mem_filter, List.mem_singleton] at h
  rcases h with (h | h) | h
  · exact .inl h.1
  · exact .inr h
  · exact .inl h.1
theorem ins_pw {e : Int} {L : List Int} (h : L.Pairwise (· < ·)) : (ins L e).Pairwise (· < ·) := by
  unfold ins
  rw [List.pairwise_append, List.pairwise_append]
  refine ⟨⟨h.filter _, by simp, fun a ha b hb => ?_⟩, h.filter _, fun a ha b hb => ?_⟩
  · rw [List.mem_singleton.1 hb]
    simpa using (List.mem_filter.1 ha).2
  · have hb2 : e < b := by simpa using (List.mem_filter.1 hb).2
    rcases List.mem_append.1 ha with ha | ha
    · have : a < e := by simpa using (List.mem_filter.1 ha).2
      omega
    · rw [List.mem_singleton.1 ha]; exact hb2

noncomputable def newSt (s : TS) (x : OP) (extra : Int) : TS :=
  (atOf s x (lat x.1 + extra) + 1 + extra, if x.1 = 4 ∨ x.1 = 5 then atOf s x (lat x.1 + extra) + (lat x.1 + extra) else s.2.1, maxI s.2.2.1 (atOf s x (lat x.1 + extra) + (lat x.1 + extra)),
    if wr x = 0 then s.2.2.2.1 else s.2.2.2.1.set (wr x).toNat (atOf s x (lat x.1 + extra) + (lat x.1 + extra)),
    if wr x = 0 then live s.2.2.2.2.1 (atOf s x (lat x.1 + extra) + 1 + extra) else ins (live s.2.2.2.2.1 (atOf s x (lat x.1 + extra) + 1 + extra)) (atOf s x (lat x.1 + extra) + (lat x.1 + extra)), ())

theorem St.new {s : TS} {x : OP} {extra M : Int} {L : Nat} (hs : St s M L) (hL : L ≤ 20000) (hx : ¬ orbad x) (he : 0 ≤ extra ∧ extra ≤ 10000) : St (newSt s x extra) (M + 40000) (L + 1) := by
  have hl := lat_pos (op := x.1)
  have hb := base_le (l := lat x.1 + extra) hs hx (by omega)
  have ha := atOf_ge (s := s) (x := x) (l := lat x.1 + extra)
  have hwl := hs.wl
  generalize hat : atOf s x (lat x.1 + extra) = a at ha
  have hll := live_len (W := s.2.2.2.2.1) (n := a + 1 + extra)
  have hlm : ∀ y ∈ live s.2.2.2.2.1 (a + 1 + extra), a + 1 + extra ≤ y ∧ y ≤ M := fun y hy => by
    have := List.mem_filter.1 hy
    exact ⟨by simpa using this.2, (hs.w0 y this.1).2⟩
  have d0 := hs.d0
  have d1 := hs.d1
  have f0 := hs.f0
  have f1 := hs.f1
  have n0 := hs.n0
  unfold newSt
  rw [hat]
  refine ⟨by dsimp only; omega, by dsimp only; omega, ?_, ?_, ?_, ?_, ?_, ?_, ?_, ?_, ?_⟩ <;> dsimp only
  · split <;> omega
  · split <;> omega
  · exact Int.le_trans f0 le_maxI.1
  · exact maxI_le (by omega) (by omega)
  · split
    · exact hs.rl
    · rw [List.length_set]; exact hs.rl
  · intro r hr
    split at hr
    · have := hs.r0 r hr; omega
    · rcases List.mem_or_eq_of_mem_set hr with hr | rfl
      · have := hs.r0 r hr; omega
      · omega
  · intro w hw
    split at hw
    · have := hlm w hw; omega
    · rcases ins_mem hw with hw | rfl
      · have := hlm w hw; omega
      · omega
  · split
    · exact live_pw hs.ws
    · exact ins_pw (live_pw hs.ws)
  · split
    · omega
    · have := ins_len (e := a + (lat x.1 + extra)) (L := live s.2.2.2.2.1 (a + 1 + extra))
      omega

/-- the state is found to be right -/
theorem c15_ok {s : TS} {M : Int} {L : Nat} (hs : St s M L) (hL : L ≤ 16384) (hM : M ≤ 4000000000000) {k : Int → Prop} (h : k 0) : c15 s k := by
  have n0 := hs.n0
  have d0 := hs.d0
  have f0 := hs.f0
  have hwl := hs.wl
  have hn1 := hs.n1
  constructor
  refine brDn (by omega) (brDn (by omega) (brDn (by omega) (brDn (by omega) ?_)))
  constructor
  intro I hI
  refine upInd (N := 16) (M := fun i => I s.2.2.2.1 (i : Int) s) (hI _ _ _ (brDn (by decide) ?_)) (fun i hi ih => hI _ _ _ ?_) 0 (Nat.zero_le _)
  · constructor
    intro J hJ
    rw [wrap64 (a := s.1 - 1) (by omega) (by omega)]
    have key := upInd (N := s.2.2.2.2.1.length) (M := fun i => ∀ u : Int, (∀ (h : i < s.2.2.2.2.1.length), u < s.2.2.2.2.1[i]) → J u s.2.2.2.2.1 (s.2.2.2.2.1.length : Int) (i : Int))
      (fun u _ => hJ _ _ _ _ (brDn (by omega) h))
      (fun i hi ih u hu => by
        apply hJ
        have := hu hi
        rw [wrapS (by omega)]
        exact brD (by omega) (needAt hi (brDn (by omega) (ih _ fun h2 => pw_get hs.ws h2 (by omega)))))
      0 (Nat.zero_le _)
    refine key _ fun h2 => ?_
    have := (hs.w0 _ (List.getElem_mem h2)).1
    omega
  · have hR := hs.rl
    have := (hs.r0 _ (List.getElem_mem (show i < s.2.2.2.1.length by omega))).1
    rw [wrapS (by omega)]
    exact brD (by omega) (needAt (by omega) (brDn (by omega) ih))

noncomputable def isErr (x : OP) (extra : Int) : Int := if oErr x ≠ 0 then oErr x else if extra < 0 ∨ 10000 < extra then 1 else 0
theorem isErr_good {x : OP} {extra : Int} (h : isErr x extra = 0) : oErr x = 0 ∧ 0 ≤ extra ∧ extra ≤ 10000 := by
  unfold isErr at h
  by_cases e : oErr x = 0
  · rw [if_neg (fun h => h e)] at h
    by_cases e2 : extra < 0 ∨ 10000 < extra
    · rw [if_pos e2] at h; cases h
    · exact ⟨e, by omega, by omega⟩
  · rw [if_pos e] at h; exact absurd h e

theorem notmem_live {W : List Int} {n e : Int} (h : e ∉ W) : e ∉ live W n := fun q => h (List.mem_filter.1 q).1

theorem c17_ok {n d f : Int} {R W : List Int} {x : OP} {extra M : Int} {L : Nat} (hs : St (n, d, f, R, W, ()) M L) (hL : L ≤ 16384) (hM : M ≤ 3000000000000) {k : Int → Int → Int → List Int → Int → Int → List Int → List Int → Prop}
    (h1 : isErr x extra ≠ 0 → k 0 0 0 [0, 0, 0, 0, 0, 0, 0, 0, 0, 0, 0, 0, 0, 0, 0, 0] 0 (isErr x extra) W [])
    (h2 : isErr x extra = 0 → ∀ t, newSt (n, d, f, R, W, ()) x extra = t → k t.1 t.2.1 t.2.2.1 t.2.2.2.1 (atOf (n, d, f, R, W, ()) x (lat x.1 + extra)) 0 W t.2.2.2.2.1) : c17 n d f R x extra W k := by
  unfold isErr at h1 h2
  constructor
  refine c15_ok hs (by omega) (by omega) (brF rfl (c25_ok (oc_of (brN (fun e => ?_) fun e => ?_))))
  · rw [if_pos e] at h1; exact h1 e
  rw [if_neg (fun h => h e)] at h1 h2
  refine brP (fun e2 => ?_) fun n1 => brP (fun e2 => ?_) fun n2 => ?_
  · rw [if_pos (.inl e2)] at h1; exact h1 (by decide)
  · rw [if_pos (.inr (by omega))] at h1; exact h1 (by decide)
  rw [if_neg (by omega)] at h2
  have h2 := h2 rfl _ rfl
  obtain ⟨⟨g0, g24⟩, hx⟩ := oErr_good e
  have hl := lat_pos (op := x.1)
  have hb := base_le (l := lat x.1 + extra) hs hx (by omega)
  have ha := atOf_ge (s := (n, d, f, R, W, ())) (x := x) (l := lat x.1 + extra)
  have hisat := fun hw => atOf_is (s := (n, d, f, R, W, ())) (x := x) (l := lat x.1 + extra) hw
  have hw := wr_in hx
  have hR : R.length = 16 := hs.rl
  have hWl : W.length ≤ L := hs.wl
  have hWs : W.Pairwise (· < ·) := hs.ws
  refine c5_ok ?_
  rw [wrap64 (a := lat x.1 + extra) (by omega) (by omega)]
  refine c26_ok (M := M) (L := L) hs hM (by omega) hx (by omega) ?_
  unfold newSt at h2
  generalize hat : atOf (n, d, f, R, W, ()) x (lat x.1 + extra) = a at ha h2 hisat ⊢
  have ha2 : a ≤ base (n, d, f, R, W, ()) x (lat x.1 + extra) + (W.length : Int) := ha.2
  rw [wrap64 (a := a + (lat x.1 + extra)) (by omega) (by omega), wrap64 (a := a + 1) (by omega) (by omega), wrap64 (a := a + 1 + extra) (by omega) (by omega)]
  have hll := live_len (W := W) (n := a + 1 + extra)
  dsimp only at h2
  have hput : wr x ≠ 0 → ∀ (i : Nat) {K : List Int → Prop}, Split (live W (a + 1 + extra)) i (a + (lat x.1 + extra)) → K (ins (live W (a + 1 + extra)) (a + (lat x.1 + extra))) →
      br (decide ((0 : Int) ≤ (i : Int) ∧ ((i : Nat) : Int) ≤ (((List.length (live W (a + 1 + extra))) : Nat) : Int))) (br (roomB ((List.length (live W (a + 1 + extra))) + 1) 8) (K (((List.take (Int.toNat (i : Int)) (live W (a + 1 + extra))) ++ [a + (lat x.1 + extra)]) ++ (List.drop (Int.toNat (i : Int)) (live W (a + 1 + extra))))) False) False := by
    intro _ i K hi hk
    have := hi.1
    rw [Int.toNat_natCast, ins_split hi]
    exact brD (by omega) (brT (roomS (by omega)) hk)
  refine c27_ok (fun e4 => ?_) fun e4 => ?_
  · rw [if_pos e4] at h2
    refine brT rfl (l17r18_ok (by omega) (c7_ok (brN (fun ew => brD (by omega) (needNth (by omega) (brD (by omega) (c28_ok (live_pw hWs) (by omega) (notmem_live (hisat ew).2.1) fun i b hi => ?_)))) fun ew => ?_)))
    · rw [if_neg ew, if_neg ew] at h2
      exact hput ew i (K := fun z => k _ _ _ _ _ 0 W z) hi h2
    · rw [if_pos ew, if_pos ew] at h2; exact h2
  · rw [if_neg e4] at h2
    refine brF rfl (l17r18_ok (by omega) (c7_ok (brN (fun ew => brD (by omega) (needNth (by omega) (brD (by omega) (c28_ok (live_pw hWs) (by omega) (notmem_live (hisat ew).2.1) fun i b hi => ?_)))) fun ew => ?_)))
    · rw [if_neg ew, if_neg ew] at h2
      exact hput ew i (K := fun z => k _ _ _ _ _ 0 W z) hi h2
    · rw [if_pos ew, if_pos ew] at h2; exact h2
theorem isE {α : Type} {l : List α} : l.isEmpty = true → l = [] := List.isEmpty_iff.1

theorem j19r20_ok {s : TS} {x : OP} {l M a n t f : Int} {L : Nat} {P Q : List Int} {k : Int → Int → Int → Int → List Int → List Int → Prop} (hs : St s M L) (hL : L ≤ 20000) (hx : ¬ orbad x) (h0 : 0 ≤ x.1) (h24 : x.1 ≤ 24)
    (hb : -4611686018427387904 ≤ a + l ∧ a + l ≤ 4611686018427387904) (hn : n ≤ a + l) (ha : wr x ≠ 0 → a + l ∉ s.2.2.2.2.1)
    (h : k a n t f (if wr x = 0 then s.2.2.2.1 else s.2.2.2.1.set (wr x).toNat (a + l)) (if wr x = 0 then live s.2.2.2.2.1 n else ins (live s.2.2.2.2.1 n) (a + l))) :
    j19r20 k l a s x 0 0 0 P Q n t f s.2.2.2.1 [] := by
  have hR := hs.rl
  have hw := wr_in hx
  have hwl := hs.wl
  have hws := hs.ws
  obtain ⟨s1, s2, s3, R, W, ⟨⟩⟩ := s
  dsimp only at hR hwl hws ha h ⊢
  have eal : IntKind.wrap .i64 (a + l) = a + l := wrap64 (by omega) (by omega)
  have hfin : ∀ (i : Nat), wr x ≠ 0 → Split W i (a + l) → ∀ T : List Int, T = W.take i ++ ([a + l] ++ W.drop i) → T.length ≤ 1000000 → l19r29v2 (fun z42 z43 z44 z45 z46 z47 z48 z49 z50 z51 z52 => k z42 z48 z49 z50 z51 z52) a (T.length : Int) 0 0 0 0 P Q n t f (R.set (wr x).toNat (a + l)) [] T := by
    intro i hne hi T hT hTl
    refine l19r29v2_ok hTl ?_
    rw [if_neg hne, if_neg hne] at h
    have : live T n = ins (live W n) (a + l) := by
      rw [hT]; exact filter_ins hi (decide_eq_true (by omega))
    rw [this]; exact h
  have body : ∀ (i : Nat), wr x ≠ 0 → Split W i (a + l) →
      br (decide ((0 : Int) ≤ 0 ∧ (0 : Int) ≤ (i : Int) ∧ ((i : Nat) : Int) ≤ (i : Int) ∧ ((i : Nat) : Int) ≤ (((List.length W) : Nat) : Int)))
        (br (decide ((0 : Int) ≤ (i : Int) ∧ ((i : Nat) : Int) ≤ (((List.length W) : Nat) : Int) ∧ ((((List.length W) : Nat) : Int) : Int) ≤ (((List.length W) : Nat) : Int) ∧ ((((List.length W) : Nat) : Int) : Int) ≤ (((List.length W) : Nat) : Int)))
         (br (eqT (.int .i64) (i : Int) (i : Int))
          (br (eqT (.int .i64) (i : Int) (i : Int))
           (br (decide ((0 : Int) ≤ 0 ∧ (0 : Int) ≤ (i : Int) ∧ ((i : Nat) : Int) ≤ (i : Int) ∧ ((i : Nat) : Int) ≤ (((List.length W) : Nat) : Int)))
            (br (true && ((decide ((Int.toNat ((i : Int) - 0)) = (Int.toNat ((i : Int) - 0)))) && (decide ((Int.toNat ((i : Int) - 0)) = (Int.toNat ((i : Int) - 0))))))
             (br (eqT (.int .i64) (i : Int) (i : Int))
              (br (decide ((0 : Int) ≤ (i : Int) ∧ ((i : Nat) : Int) ≤ (((List.length W) : Nat) : Int) ∧ ((((List.length W) : Nat) : Int) : Int) ≤ (((List.length W) : Nat) : Int) ∧ ((((List.length W) : Nat) : Int) : Int) ≤ (((List.length W) : Nat) : Int)))
               (br ((decide ((Int.toNat (i : Int)) = (Int.toNat (i : Int)))) && ((decide ((Int.toNat ((((List.length W) : Nat) : Int) - (i : Int))) = (Int.toNat ((((List.length W) : Nat) : Int) - (i : Int))))) && (decide ((Int.toNat ((((List.length W) : Nat) : Int) - (i : Int))) = (Int.toNat ((((List.length W) : Nat) : Int) - (i : Int)))))))
                (br (List.isEmpty (List.take (Int.toNat ((((List.length W) : Nat) : Int) - (i : Int))) (List.drop (Int.toNat (i : Int)) W)))
                 (br (eqT (.int .i64) (i : Int) (i : Int))
                  (br (eqT (.int .i64) (i : Int) (i : Int))
                   (br (decide ((0 : Int) ≤ 0 ∧ (0 : Int) ≤ (i : Int) ∧ ((i : Nat) : Int) ≤ (i : Int) ∧ ((i : Nat) : Int) ≤ (((List.length W) : Nat) : Int)))
                    (br (true && ((decide ((Int.toNat ((i : Int) - 0)) = (Int.toNat ((i : Int) - 0)))) && (decide ((Int.toNat ((i : Int) - 0)) = (Int.toNat ((i : Int) - 0))))))
                     (br (decide (((Int.toNat ((i : Int) - 0)) + 1) ≤ (Int.toNat ((i : Int) - 0))))
                      (l19r29
                       (fun z31 z32 z33 z34 z35 z36 z37 z38 z39 z40 z41 => k z31 z37 z38 z39 z40 z41)
                       a 0 ((Int.toNat ((i : Int) - 0)) + 1) (Int.toNat ((i : Int) - 0)) ((((Int.toNat ((i : Int) - 0)) + 1) : Nat) : Int) 0 0 0 0 P Q n t f (R.set (wr x).toNat (a + l)) [] (((List.take (0 + (Int.toNat ((i : Int) - 0))) W) ++ [(IntKind.wrap .i64 (a + l))]) ++ (List.drop ((0 + (Int.toNat ((i : Int) - 0))) + 1) W)))
                      (br (roomB ((Int.toNat ((i : Int) - 0)) + 1) 8)
                       (l19r29v2
                        (fun z42 z43 z44 z45 z46 z47 z48 z49 z50 z51 z52 => k z42 z48 z49 z50 z51 z52)
                        a (((List.length ((List.take (Int.toNat ((i : Int) - 0)) (List.drop 0 W)) ++ [(IntKind.wrap .i64 (a + l))])) : Nat) : Int) 0 0 0 0 P Q n t f (R.set (wr x).toNat (a + l)) [] ((List.take (Int.toNat ((i : Int) - 0)) (List.drop 0 W)) ++ [(IntKind.wrap .i64 (a + l))]))
                       (False /- 65 -/)))
                     (False /- 942 -/))
                    (False /- 82 -/))
                   (False /- 942 -/))
                  (False /- 942 -/))
                 (br (roomB (1 + (List.length (List.take (Int.toNat ((((List.length W) : Nat) : Int) - (i : Int))) (List.drop (Int.toNat (i : Int)) W)))) 8)
                  (br (eqT (.int .i64) (i : Int) (i : Int))
                   (br (eqT (.int .i64) (i : Int) (i : Int))
                    (br (decide ((0 : Int) ≤ 0 ∧ (0 : Int) ≤ (i : Int) ∧ ((i : Nat) : Int) ≤ (i : Int) ∧ ((i : Nat) : Int) ≤ (((List.length W) : Nat) : Int)))
                     (br (true && ((decide ((Int.toNat ((i : Int) - 0)) = (Int.toNat ((i : Int) - 0)))) && (decide ((Int.toNat ((i : Int) - 0)) = (Int.toNat ((i : Int) - 0))))))
                      (br (decide (((Int.toNat ((i : Int) - 0)) + (List.length ([(IntKind.wrap .i64 (a + l))] ++ (List.take (Int.toNat ((((List.length W) : Nat) : Int) - (i : Int))) (List.drop (Int.toNat (i : Int)) W))))) ≤ (Int.toNat ((i : Int) - 0))))
                       (l19r29
                        (fun z53 z54 z55 z56 z57 z58 z59 z60 z61 z62 z63 => k z53 z59 z60 z61 z62 z63)
                        a 0 ((Int.toNat ((i : Int) - 0)) + (List.length ([(IntKind.wrap .i64 (a + l))] ++ (List.take (Int.toNat ((((List.length W) : Nat) : Int) - (i : Int))) (List.drop (Int.toNat (i : Int)) W))))) (Int.toNat ((i : Int) - 0)) ((((Int.toNat ((i : Int) - 0)) + (List.length ([(IntKind.wrap .i64 (a + l))] ++ (List.take (Int.toNat ((((List.length W) : Nat) : Int) - (i : Int))) (List.drop (Int.toNat (i : Int)) W))))) : Nat) : Int) 0 0 0 0 P Q n t f (R.set (wr x).toNat (a + l)) [] (((List.take (0 + (Int.toNat ((i : Int) - 0))) W) ++ ([(IntKind.wrap .i64 (a + l))] ++ (List.take (Int.toNat ((((List.length W) : Nat) : Int) - (i : Int))) (List.drop (Int.toNat (i : Int)) W)))) ++ (List.drop ((0 + (Int.toNat ((i : Int) - 0))) + (List.length ([(IntKind.wrap .i64 (a + l))] ++ (List.take (Int.toNat ((((List.length W) : Nat) : Int) - (i : Int))) (List.drop (Int.toNat (i : Int)) W))))) W)))
                       (br (roomB ((Int.toNat ((i : Int) - 0)) + (List.length ([(IntKind.wrap .i64 (a + l))] ++ (List.take (Int.toNat ((((List.length W) : Nat) : Int) - (i : Int))) (List.drop (Int.toNat (i : Int)) W))))) 8)
                        (l19r29v2
                         (fun z64 z65 z66 z67 z68 z69 z70 z71 z72 z73 z74 => k z64 z70 z71 z72 z73 z74)
                         a (((List.length ((List.take (Int.toNat ((i : Int) - 0)) (List.drop 0 W)) ++ ([(IntKind.wrap .i64 (a + l))] ++ (List.take (Int.toNat ((((List.length W) : Nat) : Int) - (i : Int))) (List.drop (Int.toNat (i : Int)) W))))) : Nat) : Int) 0 0 0 0 P Q n t f (R.set (wr x).toNat (a + l)) [] ((List.take (Int.toNat ((i : Int) - 0)) (List.drop 0 W)) ++ ([(IntKind.wrap .i64 (a + l))] ++ (List.take (Int.toNat ((((List.length W) : Nat) : Int) - (i : Int))) (List.drop (Int.toNat (i : Int)) W)))))
                        (False /- 65 -/)))
                      (False /- 942 -/))
                     (False /- 82 -/))
                    (False /- 942 -/))
                   (False /- 942 -/))
                  (False /- 61 -/)))
                (False /- 942 -/))
               (False /- 82 -/))
              (False /- 942 -/))
             (False /- 942 -/))
            (False /- 82 -/))
           (False /- 942 -/))
          (False /- 942 -/))
         (False /- 82 -/))
        (False /- 82 -/) := by
    intro i hne hi
    have hil := hi.1
    have hE : eqT (.int .i64) (i : Int) (i : Int) = true := eqT_self (.int .i64) _
    have e1 : Int.toNat ((i : Int) - 0) = i := by omega
    have e2 : Int.toNat (i : Int) = i := by omega
    have e3 : Int.toNat ((W.length : Int) - (i : Int)) = W.length - i := by omega
    have e4 : (W.drop i).take (W.length - i) = W.drop i := List.take_of_length_le (by rw [List.length_drop]; exact Nat.le_refl _)
    rw [e1, e2, e3, e4, eal, List.drop_zero]
    refine brD (by omega) (brD (by omega) (brT hE (brT hE (brD (by omega) (brT (by simp) (brT hE (brD (by omega) (brT (by simp) ?_))))))))
    refine brB (fun em => ?_) fun em => ?_
    · have em := isE em
      refine brT hE (brT hE (brD (by omega) (brT (by simp) (brDn (by omega) (brT (roomS (by omega)) (hfin i hne hi _ ?_ ?_))))))
      · rw [em]; simp
      · rw [List.length_append, List.length_take]; simp; omega
    · have hdl : (W.drop i).length = W.length - i := List.length_drop
      refine brT (roomS (by omega)) (brT hE (brT hE (brD (by omega) (brT (by simp) (brDn ?_ (brT (roomS ?_) (hfin i hne hi _ rfl ?_)))))))
      · rw [List.length_append, List.length_singleton]; omega
      · rw [List.length_append, List.length_singleton]; omega
      · rw [List.length_append, List.length_append, List.length_take, List.length_singleton]; omega
  constructor
  unfold tj19r20
  dsimp only
  refine brB (fun em => ?_) fun em => brT (roomS (by omega)) ?_
  · have em := isE em
    subst em
    refine c8_ok h0 h24 (brN (fun ew => brD (by omega) (needNth (by omega) ?_)) fun ew => ?_)
    · rw [eal]
      show l19r25 _ l a ((([] : List Int).length : Nat) : Int) 0 0 0 P Q n t f _ [] []
      refine l19r25_ok (W := []) hws (by omega) (by omega) (ha ew) fun i hi => ?_
      exact body i ew hi
    · rw [if_pos ew, if_pos ew] at h
      exact l19r29v2_ok (W := []) (by simp) h
  · refine c8_ok h0 h24 (brN (fun ew => brD (by omega) (needNth (by omega) ?_)) fun ew => ?_)
    · rw [eal]
      refine l19r25_ok (W := W) hws (by omega) (by omega) (ha ew) fun i hi => ?_
      exact body i ew hi
    · rw [if_pos ew, if_pos ew] at h
      exact l19r29v2_ok (W := W) (by omega) h

theorem c19_ok {s : TS} {x : OP} {extra M : Int} {L : Nat} (hs : St s M L) (hL : L ≤ 20000) (hM : M ≤ 3000000000000) (he : isErr x extra = 0) {k : Int → Int → Int → List Int → Int → List Int → Prop}
    (h2 : ∀ t, newSt s x extra = t → k t.1 t.2.1 t.2.2.1 t.2.2.2.1 (atOf s x (lat x.1 + extra)) t.2.2.2.2.1) : c19 s x extra k := by
  obtain ⟨e, n1, n2⟩ := isErr_good he
  obtain ⟨⟨g0, g24⟩, hx⟩ := oErr_good e
  have h2 := h2 _ rfl
  have hl := lat_pos (op := x.1)
  have hb := base_le (l := lat x.1 + extra) hs hx (by omega)
  have ha := atOf_ge (s := s) (x := x) (l := lat x.1 + extra)
  have hisat := fun hw => atOf_is (s := s) (x := x) (l := lat x.1 + extra) hw
  have hw := wr_in hx
  have hR := hs.rl
  have hwl := hs.wl
  have hat := hs.r0 _ (at0_mem (R := s.2.2.2.1) hw.1 (by omega))
  have eat : at0 s.2.2.2.1 (wr x) = s.2.2.2.1[(wr x).toNat]'(by omega) := by unfold at0; rw [List.getElem?_eq_getElem (by omega)]; rfl
  have hbe : base s x (lat x.1 + extra) = (if wr x = 0 then (if x.1 = 4 ∨ x.1 = 5 then maxI (fm s.2.2.2.1 (reads x) s.1) s.2.1 else fm s.2.2.2.1 (reads x) s.1) else maxI (if x.1 = 4 ∨ x.1 = 5 then maxI (fm s.2.2.2.1 (reads x) s.1) s.2.1 else fm s.2.2.2.1 (reads x) s.1) (at0 s.2.2.2.1 (wr x) + 1 - (lat x.1 + extra))) := rfl
  unfold newSt at h2
  dsimp only at h2
  have jend : j19r13 (fun z16 z17 z18 z19 z20 z21 => k z17 z18 z19 z20 z16 z21) extra (lat x.1 + extra) (base s x (lat x.1 + extra)) s x 0 0 0 [0, 0, 0, 0, 0, 0, 0, 0, 0, 0, 0, 0, 0, 0, 0, 0] [] := by
    constructor
    refine l19r13_ok hs hM (by omega) g0 g24 hx (by omega) ?_
    generalize hat2 : atOf s x (lat x.1 + extra) = a at ha h2 hisat ⊢
    have f0 := hs.f0
    rw [wrap64 (a := a + (lat x.1 + extra)) (by omega) (by omega), wrap64 (a := a + 1) (by omega) (by omega), wrap64 (a := a + 1 + extra) (by omega) (by omega)]
    have hmax : maxI s.2.2.1 (a + (lat x.1 + extra)) = if a + (lat x.1 + extra) > s.2.2.1 then a + (lat x.1 + extra) else s.2.2.1 := rfl
    have e18 : ∀ f, f = maxI s.2.2.1 (a + (lat x.1 + extra)) → j19r18 (fun z21 z22 z23 z24 z25 z26 => k z22 z23 z24 z25 z21 z26) (lat x.1 + extra) a s x 0 0 0 [0, 0, 0, 0, 0, 0, 0, 0, 0, 0, 0, 0, 0, 0, 0, 0] [] (a + 1 + extra) s.2.1 f s.2.2.2.1 [] := by
      intro f hf
      subst hf
      constructor
      unfold tj19r18
      rw [wrap64 (a := a + (lat x.1 + extra)) (by omega) (by omega)]
      refine brE (fun e4 => ?_) fun n4 => brE (fun e5 => ?_) fun n5 => ?_
      · rw [if_pos (.inl e4)] at h2
        exact j19r20_ok hs hL hx g0 g24 (by omega) (by omega) (fun ew => (hisat ew).2.1) h2
      · rw [if_pos (.inr e5)] at h2
        exact j19r20_ok hs hL hx g0 g24 (by omega) (by omega) (fun ew => (hisat ew).2.1) h2
      · rw [if_neg (by omega)] at h2
        exact j19r20_ok hs hL hx g0 g24 (by omega) (by omega) (fun ew => (hisat ew).2.1) h2
    refine brP (fun q => e18 _ ?_) fun q => e18 _ ?_
    · rw [hmax, if_pos q]
    · rw [hmax, if_neg q]
  have tail : ∀ b0, b0 = (if x.1 = 4 ∨ x.1 = 5 then maxI (fm s.2.2.2.1 (reads x) s.1) s.2.1 else fm s.2.2.2.1 (reads x) s.1) →
      j19r10 (fun z16 z17 z18 z19 z20 z21 => k z17 z18 z19 z20 z16 z21) extra (lat x.1 + extra) b0 s x 0 0 0 [0, 0, 0, 0, 0, 0, 0, 0, 0, 0, 0, 0, 0, 0, 0, 0] [] := by
    intro b0 e0
    rw [← e0] at hbe
    constructor
    refine c8_ok g0 g24 (brN (fun ew => brD (by omega) (needNth (by omega) ?_)) fun ew => ?_)
    · rw [if_neg ew] at hbe
      rw [← eat, wrap64 (a := at0 s.2.2.2.1 (wr x) - (lat x.1 + extra)) (by omega) (by omega), wrap64 (a := at0 s.2.2.2.1 (wr x) - (lat x.1 + extra) + 1) (by omega) (by omega)]
      have : at0 s.2.2.2.1 (wr x) - (lat x.1 + extra) + 1 = at0 s.2.2.2.1 (wr x) + 1 - (lat x.1 + extra) := by omega
      rw [this, ← hbe]
      exact jend
    · rw [if_pos ew] at hbe
      rw [← hbe]
      exact jend
  constructor
  refine c6_ok (c11_ok ?_)
  rw [wrap64 (a := lat x.1 + extra) (by omega) (by omega)]
  refine l19r4_ok hR (by have := reads_len (x := x); omega) (reads_in hx) (brE (fun e4 => tail _ ?_) fun n4 => brE (fun e5 => tail _ ?_) fun n5 => tail _ ?_)
  · rw [if_pos (.inl e4)]
  · rw [if_pos (.inr e5)]
  · rw [if_neg (by omega)]
def prevW (s : TS) (i : Nat) : Int := if i = 0 then s.1 - 1 else at0 s.2.2.2.2.1 ((i - 1 : Nat) : Int)
theorem prevW_succ {s : TS} {i : Nat} (h : i < s.2.2.2.2.1.length) : prevW s (i + 1) = s.2.2.2.2.1[i] := by
  unfold prevW; rw [if_neg (by omega), Nat.add_sub_cancel]; exact at0_get h
def stBad1 (s : TS) : Prop := s.1 < 0 ∨ s.2.1 < 0 ∨ s.2.2.1 < 0 ∨ 16384 < s.2.2.2.2.1.length ∨ ∃ r ∈ s.2.2.2.1, r < 0
def stBad2 (s : TS) : Prop := ∃ i, ∃ h : i < s.2.2.2.2.1.length, s.2.2.2.2.1[i] ≤ prevW s i
open Classical in
noncomputable def stErr (s : TS) : Int := if stBad1 s then 4 else if stBad2 s then 3 else 0
structure Sc (s : TS) (k : Int → Prop) : Prop where
  h4 : stBad1 s → k 4
  h3 : ¬ stBad1 s → stBad2 s → k 3
  h0 : ¬ stBad1 s → ¬ stBad2 s → k 0
theorem sc_of {s : TS} {k : Int → Prop} (h : k (stErr s)) : Sc s k := by
  unfold stErr at h
  refine ⟨fun e => ?_, fun e1 e2 => ?_, fun e1 e2 => ?_⟩
  · rw [if_pos e] at h; exact h
  · rw [if_neg e1, if_pos e2] at h; exact h
  · rw [if_neg e1, if_neg e2] at h; exact h
theorem stErr_good {s : TS} (h : stErr s = 0) : ¬ stBad1 s ∧ ¬ stBad2 s := by
  unfold stErr at h
  by_cases e : stBad1 s
  · rw [if_pos e] at h; cases h
  · rw [if_neg e] at h
    by_cases e2 : stBad2 s
    · rw [if_pos e2] at h; cases h
    · exact ⟨e, e2⟩
theorem chain_ge {s : TS} : ∀ (i : Nat) (h : i < s.2.2.2.2.1.length), (∀ j, j ≤ i → ∀ h : j < s.2.2.2.2.1.length, prevW s j < s.2.2.2.2.1[j]) → s.1 ≤ s.2.2.2.2.1[i] := by
  intro i
  induction i with
  | zero => intro h hp; have := hp 0 (Nat.le_refl _) h; unfold prevW at this; rw [if_pos rfl] at this; omega
  | succ i ih =>
    intro h hp
    have h1 := ih (by omega) fun j hj => hp j (by omega)
    have h2 := hp (i + 1) (Nat.le_refl _) h
    rw [prevW_succ (by omega)] at h2
    omega
theorem st_good {s : TS} {M : Int} (h : stErr s = 0) (hR : s.2.2.2.1.length = 16) (h1 : s.1 ≤ M) (h2 : s.2.1 ≤ M) (h3 : s.2.2.1 ≤ M) (h4 : ∀ r ∈ s.2.2.2.1, r ≤ M) (h5 : ∀ r ∈ s.2.2.2.2.1, r ≤ M) : St s M 16384 := by
  obtain ⟨g1, g2⟩ := stErr_good h
  have hp : ∀ j, ∀ h : j < s.2.2.2.2.1.length, prevW s j < s.2.2.2.2.1[j] := fun j hj => by
    refine Classical.byContradiction fun e => g2 ⟨j, hj, by omega⟩
  have n0 : ¬ s.1 < 0 := fun e => g1 (.inl e)
  have n1 : ¬ s.2.1 < 0 := fun e => g1 (.inr (.inl e))
  have n2 : ¬ s.2.2.1 < 0 := fun e => g1 (.inr (.inr (.inl e)))
  have n3 : ¬ 16384 < s.2.2.2.2.1.length := fun e => g1 (.inr (.inr (.inr (.inl e))))
  refine ⟨by omega, h1, by omega, h2, by omega, h3, hR, fun r hr => ⟨?_, h4 r hr⟩, fun w hw => ⟨?_, h5 w hw⟩, ?_, by omega⟩
  · have : ¬ r < 0 := fun e => g1 (.inr (.inr (.inr (.inr ⟨r, hr, e⟩))))
    omega
  · obtain ⟨i, hi, rfl⟩ := List.mem_iff_getElem.1 hw
    exact chain_ge i hi fun j _ => hp j
  · rw [List.pairwise_iff_getElem]
    have key : ∀ (n i : Nat) (h : i + n + 1 < s.2.2.2.2.1.length), s.2.2.2.2.1[i]'(by omega) < s.2.2.2.2.1[i + n + 1] := by
      intro n
      induction n with
      | zero => intro i h; have := hp (i + 1) h; rw [prevW_succ (by omega)] at this; exact this
      | succ n ih =>
        intro i h
        have h1 := ih i (by omega)
        have h2 := hp (i + n + 1 + 1) h
        rw [prevW_succ (by omega)] at h2
        exact Int.lt_trans h1 h2
    intro i j hi hj hij
    have := key (j - i - 1) i (by omega)
    have e : i + (j - i - 1) + 1 = j := by omega
    simp only [e] at this
    exact this

theorem c15_gen {s : TS} (hR : s.2.2.2.1.length = 16) (hW : s.2.2.2.2.1.length ≤ maxLen) (hn : s.1 ≤ 9223372036854775807) {k : Int → Prop} (h : k (stErr s)) : c15 s k := by
  have hm := hml
  have h := sc_of h
  have hR0 := hR
  constructor
  refine brP (fun e => h.h4 (.inl e)) fun n1 => brP (fun e => h.h4 (.inr (.inl e))) fun n2 => brP (fun e => h.h4 (.inr (.inr (.inl e)))) fun n3 => brP (fun e => h.h4 (.inr (.inr (.inr (.inl (by omega)))))) fun n4 => ?_
  constructor
  intro I hI
  refine allInd (N := 16) (p := fun i => ∀ h : i < s.2.2.2.1.length, ¬ s.2.2.2.1[i] < 0) (M := fun i => I s.2.2.2.1 (i : Int) s) (fun hr => hI _ _ _ (brDn (by decide) ?_)) fun i hi hlt ih => hI _ _ _ ?_
  · have hb1 : ¬ stBad1 s := by
      rintro (e | e | e | e | ⟨r, hr1, e⟩)
      · omega
      · omega
      · omega
      · omega
      · obtain ⟨i, hi, rfl⟩ := List.mem_iff_getElem.1 hr1
        exact hr i (by omega) hi e
    constructor
    intro J hJ
    rw [wrap64 (a := s.1 - 1) (by omega) (by omega)]
    refine allInd (N := s.2.2.2.2.1.length) (p := fun i => ∀ h : i < s.2.2.2.2.1.length, prevW s i < s.2.2.2.2.1[i]) (M := fun i => J (prevW s i) s.2.2.2.2.1 (s.2.2.2.2.1.length : Int) (i : Int)) (fun hp => hJ _ _ _ _ (brDn (by omega) (h.h0 hb1 ?_))) fun i hi hlt ih => hJ _ _ _ _ ?_
    · rintro ⟨i, hi, e⟩
      have := hp i hi hi
      omega
    · rw [wrapS (by omega)]
      refine brD (by omega) (needAt hi (brP (fun e => h.h3 hb1 ⟨i, hi, e⟩) fun e => ?_))
      have := ih fun _ => by omega
      rw [prevW_succ hi] at this
      exact this
  · rw [wrapS (by omega)]
    exact brD (by omega) (needAt (by omega) (brP (fun e => h.h4 (.inr (.inr (.inr (.inr ⟨_, List.getElem_mem _, e⟩))))) fun e => ih fun _ => e))
theorem c14_gen {s : TS} (hR : s.2.2.2.1.length = 16) (hW : s.2.2.2.2.1.length ≤ maxLen) {k : Int → Prop} (h : k (stErr s)) : c14 s k := by
  have hm := hml
  have h := sc_of h
  have hR0 := hR
  constructor
  refine brP (fun e => h.h4 (.inl e)) fun n1 => brP (fun e => h.h4 (.inr (.inl e))) fun n2 => brP (fun e => h.h4 (.inr (.inr (.inl e)))) fun n3 => brP (fun e => h.h4 (.inr (.inr (.inr (.inl (by omega)))))) fun n4 => ?_
  constructor
  intro I hI
  refine allInd (N := 16) (p := fun i => ∀ h : i < s.2.2.2.1.length, ¬ s.2.2.2.1[i] < 0) (M := fun i => I s.2.2.2.1 (i : Int) s) (fun hr => hI _ _ _ (brDn (by decide) ?_)) fun i hi hlt ih => hI _ _ _ ?_
  · have hb1 : ¬ stBad1 s := by
      rintro (e | e | e | e | ⟨r, hr1, e⟩)
      · omega
      · omega
      · omega
      · omega
      · obtain ⟨i, hi, rfl⟩ := List.mem_iff_getElem.1 hr1
        exact hr i (by omega) hi e
    constructor
    intro J hJ
    refine allInd (N := s.2.2.2.2.1.length) (p := fun i => ∀ h : i < s.2.2.2.2.1.length, prevW s i < s.2.2.2.2.1[i]) (M := fun i => J s.2.2.2.2.1 (s.2.2.2.2.1.length : Int) (i : Int) s) (fun hp => hJ _ _ _ _ (brDn (by omega) (h.h0 hb1 ?_))) fun i hi hlt ih => hJ _ _ _ _ ?_
    · rintro ⟨i, hi, e⟩
      have := hp i hi hi
      omega
    · rw [wrapS (by omega)]
      refine brD (by omega) (needAt hi ?_)
      match i, hi, hlt, ih with
      | 0, hi, hlt, ih =>
        have hp0 : prevW s 0 = s.1 - 1 := by unfold prevW; rw [if_pos rfl]
        exact brP (fun e => h.h3 hb1 ⟨0, hi, by omega⟩) fun e => brDn (by omega) (ih fun _ => by omega)
      | i + 1, hi, hlt, ih =>
        have hge := chain_ge (s := s) i (by omega) fun j hj => hlt j (by omega)
        have hps := prevW_succ (s := s) (i := i) (by omega)
        have hw : IntKind.wrap .i64 (((i + 1 : Nat) : Int) - 1) = (i : Int) := by rw [wrap64 (by omega) (by omega)]; omega
        refine brP (fun e => h.h3 hb1 ⟨i + 1, hi, by omega⟩) fun e => brD (by omega) ?_
        rw [hw]
        exact needAt (by omega) (brP (fun e2 => h.h3 hb1 ⟨i + 1, hi, by omega⟩) fun e2 => ih fun _ => by omega)
  · rw [wrapS (by omega)]
    exact brD (by omega) (needAt (by omega) (brP (fun e => h.h4 (.inr (.inr (.inr (.inr ⟨_, List.getElem_mem _, e⟩))))) fun e => ih fun _ => e))

def strB (op : Int) : Bool := decide ((1 ≤ op ∧ op ≤ 15) ∨ op = 23)
theorem c12_ok {op : Int} {k : Bool → Prop} (h : k (strB op)) : c12 op k := by
  unfold strB at h
  have e1 : ¬ (1 ≤ op ∧ op ≤ 15) → decide ((1 ≤ op ∧ op ≤ 15) ∨ op = 23) = (op == 23) := fun q => by
    by_cases e : op = 23
    · rw [decide_eq_true (.inr e), beq_iff_eq.2 e]
    · rw [decide_eq_false (fun q2 => q2.elim q e), beq_eq_false_iff_ne.2 e]
  constructor
  refine brP (fun a => brP (fun b => ?_) fun b => ?_) fun a => ?_
  · rw [decide_eq_true (.inl ⟨a, b⟩)] at h; exact h
  · rw [e1 (fun q => b q.2)] at h; exact h
  · rw [e1 (fun q => a q.1)] at h; exact h
theorem c13_ok {op : Int} {k : Bool → Prop} (h : k (strB op)) : c13 op k := by
  unfold strB at h
  have e1 : ¬ (1 ≤ op ∧ op ≤ 15) → decide ((1 ≤ op ∧ op ≤ 15) ∨ op = 23) = (op == 23) := fun q => by
    by_cases e : op = 23
    · rw [decide_eq_true (.inr e), beq_iff_eq.2 e]
    · rw [decide_eq_false (fun q2 => q2.elim q e), beq_eq_false_iff_ne.2 e]
  constructor
  refine brP (fun a => brP (fun b => ?_) fun b => ?_) fun a => ?_
  · rw [decide_eq_true (.inl ⟨by omega, by omega⟩)] at h; exact h
  · rw [e1 (fun q => b (by omega))] at h; exact h
  · rw [e1 (fun q => a (by omega))] at h; exact h
theorem c8_gen {x : OP} {k : Int → Prop} (h : k (wr x)) : c8 x k := by
  by_cases e : 0 ≤ x.1 ∧ x.1 ≤ 24
  · exact c8_ok e.1 e.2 h
  · constructor
    unfold wr at h
    rw [if_neg (by omega), if_neg (by omega)] at h
    refine brE (fun e2 => by omega) fun m1 => brE (fun e2 => by omega) fun m2 => c21_ok ?_
    rw [decide_eq_false e]
    refine brF rfl (c21_ok ?_)
    rw [decide_eq_false e]
    exact brF rfl h
theorem c9_same {l : List Int} (hl : l.length ≤ maxLen) {k : Bool → Prop} (h : k true) : c9 l l k := by
  have hm := hml
  constructor
  refine brF (by simp) ?_
  constructor
  intro I hI
  refine upInd (N := l.length) (M := fun i => I l l (l.length : Int) (i : Int)) (hI _ _ _ _ (brDn (by omega) h)) (fun i hi ih => hI _ _ _ _ ?_) 0 (Nat.zero_le _)
  rw [wrapS (by omega)]
  exact brD (by omega) (needAt hi (needAt hi (brF (by simp) ih)))
theorem c18_same {s : TS} (hl : s.2.2.2.2.1.length ≤ maxLen) {k : Bool → Prop} (h : k true) : c18 s s k := by
  constructor
  exact brT (by simp) (brT (by simp) (brT (by simp) (brT (eqT_self (.arr 16 (.int .i64)) _) (c9_same hl h))))
theorem wrap_wrap {a b : Int} : IntKind.wrap .i64 (IntKind.wrap .i64 a + b) = IntKind.wrap .i64 (a + b) := by
  simp [IntKind.wrap, IntKind.signed, IntKind.bits]
  omega
theorem wrap_wrap0 {a : Int} : IntKind.wrap .i64 (IntKind.wrap .i64 a) = IntKind.wrap .i64 a := by
  simp [IntKind.wrap, IntKind.signed, IntKind.bits]
  omega
theorem wrap_ne {a : Int} {m : Nat} (h0 : 0 < m) (h1 : m < 10000000) : IntKind.wrap .i64 (a + (m : Int)) ≠ IntKind.wrap .i64 a := by
  intro e
  simp [IntKind.wrap, IntKind.signed, IntKind.bits] at e
  omega
/-- a list is too short for so many cycles -/
theorem wrap_free : ∀ (n : Nat) (W : List Int) (b : Int), W.length ≤ n → n < 1000000 → ∃ k : Nat, k ≤ n ∧ IntKind.wrap .i64 (b + (k : Int)) ∉ W := by
  intro n
  induction n with
  | zero =>
    intro W b h _
    have : W = [] := List.eq_nil_of_length_eq_zero (by omega)
    subst this
    exact ⟨0, by omega, by simp⟩
  | succ n ih =>
    intro W b h hn
    by_cases hm : IntKind.wrap .i64 b ∈ W
    · have hlt : (W.filter fun w => decide (w ≠ IntKind.wrap .i64 b)).length < W.length := by
        refine Nat.lt_of_le_of_ne (List.length_filter_le _ _) fun e => ?_
        have := List.length_filter_eq_length_iff.1 e _ hm
        simp at this
      obtain ⟨k, h1, h2⟩ := ih (W.filter fun w => decide (w ≠ IntKind.wrap .i64 b)) (b + 1) (by omega) (by omega)
      refine ⟨k + 1, by omega, fun q => h2 (List.mem_filter.2 ⟨?_, ?_⟩)⟩
      · rw [show b + 1 + (k : Int) = b + ((k + 1 : Nat) : Int) by omega]; exact q
      · rw [show b + 1 + (k : Int) = b + ((k + 1 : Nat) : Int) by omega]
        exact decide_eq_true (wrap_ne (by omega) (by omega))
    · exact ⟨0, by omega, by rw [show b + ((0 : Nat) : Int) = b by omega]; exact hm⟩

theorem l26r12_any {s : TS} {l b : Int} (hW : s.2.2.2.2.1.length ≤ 16384) {k : Int → Prop} (hk : ∀ a, k a) : l26r12 k l b s := by
  have hm := hml
  constructor
  intro I hI
  obtain ⟨n, hn, hfree⟩ := wrap_free _ s.2.2.2.2.1 (b + l) (Nat.le_refl _) (by omega)
  have key : ∀ (j : Nat) (c : Int), j ≤ n → IntKind.wrap .i64 (c + l) = IntKind.wrap .i64 (b + l + ((n - j : Nat) : Int)) → I l c s := by
    intro j
    induction j with
    | zero =>
      intro c _ e
      apply hI
      rw [e]
      exact c33_ok (by omega) (fun q => absurd q hfree) fun q => brF rfl (hk _)
    | succ j ih =>
      intro c hj e
      apply hI
      refine c33_ok (by omega) (fun q => brT rfl (ih _ (by omega) ?_)) fun q => brF rfl (hk _)
      rw [wrap_wrap, show c + 1 + l = (c + l) + 1 by omega, ← wrap_wrap (a := c + l), e, wrap_wrap]
      congr 1
      omega
  exact key n b (Nat.le_refl _) (by rw [Nat.sub_self]; congr 1; omega)

theorem c26_any {s : TS} {x : OP} {l : Int} {k : Int → Prop} (hR : s.2.2.2.1.length = 16) (hW : s.2.2.2.2.1.length ≤ 16384) (hx : ¬ orbad x) (h : ∀ a, k a) : c26 s x l k := by
  have hw := wr_in hx
  have tail : ∀ b0, br ((wr x : Int) != 0) (br (decide ((0 : Int) ≤ wr x ∧ (wr x : Int) < 16)) (need False (s.2.2.2.1)[(Int.toNat (wr x))]? fun y11 =>
         l26r12 (fun z12 => k z12) l (maxI b0 (IntKind.wrap .i64 ((IntKind.wrap .i64 (y11 + 1)) - l))) s) False) (k b0) := fun b0 =>
    brN (fun e => brD (by omega) (needNth (by omega) (l26r12_any hW h))) fun e => h _
  constructor
  exact c10_ok (l26r3_ok hR (by have := reads_len (x := x); omega) (reads_in hx) (c27_ok (fun e => brT rfl (c7_ok (tail _))) fun e => brF rfl (c7_ok (tail _))))

theorem room_live {W : List Int} {n : Int} (h : W.length ≤ 16384) : roomB ((live W n).length + 1) 8 = true := roomS (by have := live_len (W := W) (n := n); omega)
noncomputable def allErr (s : TS) (x : OP) (extra : Int) : Int := if stErr s ≠ 0 then stErr s else isErr x extra
theorem allErr_good {s : TS} {x : OP} {extra : Int} (h : allErr s x extra = 0) : stErr s = 0 ∧ isErr x extra = 0 := by
  unfold allErr at h
  by_cases e : stErr s = 0
  · rw [if_neg (fun h => h e)] at h; exact ⟨e, h⟩
  · rw [if_pos e] at h; exact absurd h e
abbrev Z16 : List Int := [0, 0, 0, 0, 0, 0, 0, 0, 0, 0, 0, 0, 0, 0, 0, 0]

theorem c17v2_ok {s : TS} {x : OP} {extra : Int} (hR : s.2.2.2.1.length = 16) (hW : s.2.2.2.2.1.length ≤ maxLen) (hn : s.1 ≤ 9223372036854775807) {k : Int → Int → Int → List Int → Int → Int → List Int → Prop}
    (h1 : allErr s x extra ≠ 0 → k 0 0 0 Z16 0 (allErr s x extra) [])
    (h2 : allErr s x extra = 0 → St s 1099511627776 16384 → ∀ t, newSt s x extra = t → k t.1 t.2.1 t.2.2.1 t.2.2.2.1 (atOf s x (lat x.1 + extra)) 0 t.2.2.2.2.1)
    (h3 : allErr s x extra = 0 → ¬ St s 1099511627776 16384 → ∀ a b c R n W, k a b c R n 0 W) : c17v2 s x extra k := by
  have hag := allErr_good (s := s) (x := x) (extra := extra)
  unfold allErr isErr at h1
  constructor
  refine c15_gen hR hW hn (brN (fun e => ?_) fun es => c25_ok (oc_of (brN (fun e => ?_) fun e => ?_)))
  · rw [if_pos e] at h1; exact h1 e
  · rw [if_neg (fun h => h es), if_pos e] at h1; exact h1 e
  rw [if_neg (fun h => h es), if_neg (fun h => h e)] at h1
  refine brP (fun e2 => ?_) fun n1 => brP (fun e2 => ?_) fun n2 => ?_
  · rw [if_pos (.inl e2)] at h1; exact h1 (by decide)
  · rw [if_pos (.inr (by omega))] at h1; exact h1 (by decide)
  clear h1
  have hi : isErr x extra = 0 := by unfold isErr; rw [if_neg (fun h => h e), if_neg (by omega)]
  have ha0 : allErr s x extra = 0 := by unfold allErr; rw [if_neg (fun h => h es)]; exact hi
  obtain ⟨⟨g0, g24⟩, hx⟩ := oErr_good e
  have hl := lat_pos (op := x.1)
  have hw := wr_in hx
  have hWl : s.2.2.2.2.1.length ≤ 16384 := by
    have := (stErr_good es).1
    exact Nat.le_of_not_lt fun q => this (.inr (.inr (.inr (.inl q))))
  refine c5_ok ?_
  rw [wrap64 (a := lat x.1 + extra) (by omega) (by omega)]
  by_cases hst : St s 1099511627776 16384
  · have h2 := h2 ha0 hst _ rfl
    clear h3
    have hb := base_le (l := lat x.1 + extra) hst hx (by omega)
    have ha := atOf_ge (s := s) (x := x) (l := lat x.1 + extra)
    have hisat := fun hw => atOf_is (s := s) (x := x) (l := lat x.1 + extra) hw
    have hWs := hst.ws
    refine c26_ok (M := 1099511627776) (L := 16384) hst (by decide) (by decide) hx (by omega) ?_
    unfold newSt at h2
    generalize hat : atOf s x (lat x.1 + extra) = a at ha h2 hisat ⊢
    rw [wrap64 (a := a + (lat x.1 + extra)) (by omega) (by omega), wrap64 (a := a + 1) (by omega) (by omega), wrap64 (a := a + 1 + extra) (by omega) (by omega)]
    have hll := live_len (W := s.2.2.2.2.1) (n := a + 1 + extra)
    dsimp only at h2
    refine c27_ok (fun e4 => ?_) fun e4 => ?_
    · rw [if_pos e4] at h2
      refine brT rfl (l17r18v2_ok (by omega) (c7_ok (brN (fun ew => brD (by omega) (needNth (by dsimp only; omega) (brD (by dsimp only; omega) (c28_ok (live_pw hWs) (by dsimp only; omega) (notmem_live (hisat ew).2.1) fun i b hi => ?_)))) fun ew => ?_)))
      · rw [if_neg ew, if_neg ew] at h2
        have := hi.1
        rw [Int.toNat_natCast, ins_split hi]
        exact brD (by omega) (brT (roomS (by dsimp only; omega)) h2)
      · rw [if_pos ew, if_pos ew] at h2; exact h2
    · rw [if_neg e4] at h2
      refine brF rfl (l17r18v2_ok (by omega) (c7_ok (brN (fun ew => brD (by omega) (needNth (by dsimp only; omega) (brD (by dsimp only; omega) (c28_ok (live_pw hWs) (by dsimp only; omega) (notmem_live (hisat ew).2.1) fun i b hi => ?_)))) fun ew => ?_)))
      · rw [if_neg ew, if_neg ew] at h2
        have := hi.1
        rw [Int.toNat_natCast, ins_split hi]
        exact brD (by omega) (brT (roomS (by dsimp only; omega)) h2)
      · rw [if_pos ew, if_pos ew] at h2; exact h2
  · have h3 := h3 ha0 hst
    clear h2
    refine c26_any hR hWl hx fun a => c27_ok (fun e4 => ?_) fun e4 => ?_
    · refine brT rfl (l17r18v2_ok (by omega) (c7_ok (brN (fun ew => brD (by omega) (needNth (by dsimp only; omega) (brP (fun q => c28_any ?_ fun i b hi => ?_) fun q => h3 _ _ _ _ _ _))) fun ew => h3 _ _ _ _ _ _)))
      · exact Nat.le_trans live_len (by omega)
      · exact brD (by omega) (brT (room_live hWl) (h3 _ _ _ _ _ _))
    · refine brF rfl (l17r18v2_ok (by omega) (c7_ok (brN (fun ew => brD (by omega) (needNth (by dsimp only; omega) (brP (fun q => c28_any ?_ fun i b hi => ?_) fun q => h3 _ _ _ _ _ _))) fun ew => h3 _ _ _ _ _ _)))
      · exact Nat.le_trans live_len (by omega)
      · exact brD (by omega) (brT (room_live hWl) (h3 _ _ _ _ _ _))
end Go.Proofs.Ytomgefbhmpeabaa
