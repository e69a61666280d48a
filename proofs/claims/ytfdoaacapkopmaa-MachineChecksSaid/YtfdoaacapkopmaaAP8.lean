/- The law of 'MachineChecks', in plain Lean. -/
import Derived.Test.YtfdoaacapkopmaaAD8
import Derived.Test.YtfdoaacapkopmaaAPKit2
import Derived.Test.YtfdoaacapkopmaaARow1
set_option linter.unusedVariables false
set_option linter.unusedSimpArgs false
namespace Go.Proofs.Ytfdoaacapkopmaa
open Go.Abs

abbrev CL := Int × Int × Int × Int × Unit
abbrev CF := Int × Int × Int × Int × CL × CL × Int × Unit

theorem c127_ok {a b c : Int} {k : Bool → Prop} (h : k (decide (b ≤ a ∧ a ≤ c))) : c127 a b c k := by
  constructor
  unfold tc127
  refine brP (fun h1 => ?_) fun h1 => ?_
  · rw [show decide (a ≤ c) = decide (b ≤ a ∧ a ≤ c) by rw [decide_eq_decide]; exact ⟨fun h => ⟨h1, h⟩, fun h => h.2⟩]; exact h
  · rw [show decide (b ≤ a ∧ a ≤ c) = false from decide_eq_false fun hc => h1 hc.1] at h; exact h
theorem c124_ok {a b c : Int} {k : Bool → Prop} (h : k (decide (b ≤ a ∧ a ≤ c))) : c124 a b c k := by
  constructor
  unfold tc124
  refine brP (fun h1 => ?_) fun h1 => ?_
  · rw [show decide (a ≤ c) = decide (b ≤ a ∧ a ≤ c) by rw [decide_eq_decide]; exact ⟨fun h => ⟨h1, h⟩, fun h => h.2⟩]; exact h
  · rw [show decide (b ≤ a ∧ a ≤ c) = false from decide_eq_false fun hc => h1 hc.1] at h; exact h

def LOk (l : CL) : Prop := (1 ≤ l.1 ∧ l.1 ≤ 64) ∧ (1 ≤ l.2.1 ∧ l.2.1 ≤ 256) ∧ (1 ≤ l.2.2.1 ∧ l.2.2.1 ≤ 8) ∧ (0 ≤ l.2.2.2.1 ∧ l.2.2.2.1 ≤ 1000)
instance (l : CL) : Decidable (LOk l) := by unfold LOk; infer_instance
/-- a 'not' in front -/
theorem brNot {p : Prop} [Decidable p] {x y : Prop} (h1 : ¬p → x) (h2 : p → y) : br (!decide p) x y := by
  by_cases h : p
  · exact brF (by simp [h]) (h2 h)
  · exact brT (by simp [h]) (h1 h)

theorem c122_ok {l : CL} {k : Int → Prop} (h1 : ¬LOk l → k 4) (h2 : LOk l → k 0) : c122 l k := by
  constructor
  unfold tc122
  unfold LOk at h1 h2
  refine c124_ok (brNot (fun g => h1 fun hc => g hc.1) fun g1 => c124_ok (brNot (fun g => h1 fun hc => g hc.2.1) fun g2 => c124_ok (brNot (fun g => h1 fun hc => g hc.2.2.1) fun g3 => c124_ok (brNot (fun g => h1 fun hc => g hc.2.2.2) fun g4 => h2 ⟨g1, g2, g3, g4⟩))))

theorem c44_ok {l : CL} {k : Int → Prop} (h1 : ¬LOk l → k 4) (h2 : LOk l → k 0) : c44 l k := by
  constructor
  unfold tc44
  unfold LOk at h1 h2
  refine brP (fun g => h1 (by omega)) fun g1 => brP (fun g => h1 (by omega)) fun g2 => brP (fun g => h1 (by omega)) fun g3 => brP (fun g => h1 (by omega)) fun g4 => brP (fun g => h1 (by omega)) fun g5 => brP (fun g => h1 (by omega)) fun g6 => brP (fun g => h1 (by omega)) fun g7 => brP (fun g => h1 (by omega)) fun g8 => h2 (by omega)

theorem c123_ok {l : CL} {k : CL → List (List (Int × Bool × Unit)) → Prop} (hl : LOk l) (h : ∀ s, k l s) : c123 l k := by
  constructor
  unfold tc123
  unfold LOk at hl
  exact brD (by omega) (brT (eqT_self _ _) (h _))

theorem c59_ok {a b : CL} {k1 : Unit → Int → Prop} {k2 : Int → Int → CL → List (List (Int × Bool × Unit)) → CL → List (List (Int × Bool × Unit)) → Prop} (h1 : ¬(LOk a ∧ LOk b) → k1 () 4) (h2 : LOk a → LOk b → ∀ s t, k2 0 0 a s b t) : c59 a b k1 k2 := by
  constructor
  unfold tc59
  refine c122_ok (fun g => brT rfl (h1 fun hc => g hc.1)) fun g1 => brF rfl (c122_ok (fun g => brT rfl (h1 fun hc => g hc.2)) fun g2 => brF rfl (c123_ok g1 fun s => brT (eqT_self _ _) (c123_ok g2 fun t => h2 g1 g2 s t)))

def HOk (m s n : Int) : Prop := (32 ≤ m ∧ m ≤ 65536) ∧ (4 ≤ s ∧ s ≤ m / 2) ∧ (4 ≤ n ∧ n ≤ (m - s) / 2)
instance (m s n : Int) : Decidable (HOk m s n) := by unfold HOk; infer_instance

theorem half {m : Int} (h : 0 ≤ m ∧ m ≤ 70000) : IntKind.wrap .i64 (Int.tdiv m 2) = m / 2 := by
  rw [Int.tdiv_eq_ediv_of_nonneg h.1, wrap64 (by omega) (by omega)]

theorem c66_ok {m s n : Int} {k1 : Unit → Int → Prop} {k2 : Int → Int → Int → Int → Int → Int → Int → List Int → Prop} (h1 : ¬HOk m s n → k1 () 4) (h2 : HOk m s n → ∀ a b c d e f l, k2 0 a b c d e f l) : c66 m s n k1 k2 := by
  constructor
  unfold tc66
  unfold HOk at h1 h2
  refine c127_ok (brNot (fun g => h1 fun hc => g hc.1) fun g1 => ?_)
  rw [half (by omega)]
  refine c127_ok (brNot (fun g => h1 fun hc => g hc.2.1) fun g2 => ?_)
  rw [wrap64 (a := m - s) (by omega) (by omega), half (by omega)]
  refine c127_ok (brNot (fun g => h1 fun hc => g hc.2.2) fun g3 => brD (by omega) (h2 ⟨g1, g2, g3⟩ _ _ _ _ _ _ _))

theorem l15_ok {k : Int → List Int → Prop} {w : Int} {N : Nat} (hN : N ≤ 1024) (h : ∀ l, k w l) : l15r5 k (N : Int) 0 w (List.replicate N 0) := by
  constructor
  intro I hI
  refine upInd (N := N) (M := fun i => ∀ l : List Int, l.length = N → I (N : Int) (i : Int) w l) ?_ ?_ 0 (Nat.zero_le _) _ (by simp)
  · intro l _
    exact hI _ _ _ _ (brDn (by omega) (h l))
  · intro i hi ih l hl
    apply hI
    refine brD (by omega) (brD (by omega) ?_)
    rw [Int.toNat_natCast, wrapS (by omega)]
    exact needNth (by omega) (ih _ (by simpa using hl))

theorem c15_ok {x : Int} {k1 : Unit → Int → Prop} {k2 : Int → Int → List Int → Prop} (h1 : ¬(1 ≤ x ∧ x ≤ 1024) → k1 () 4) (h2 : 1 ≤ x ∧ x ≤ 1024 → ∀ l, k2 0 0 l) : c15 x k1 k2 := by
  constructor
  unfold tc15
  refine brP (fun h => h1 (by omega)) fun h => brP (fun h => h1 (by omega)) fun h' => brD (by omega) ?_
  rw [List.length_replicate]
  exact l15_ok (by omega) (h2 (by omega))

/-- is the configuration valid? -/
def COk (c : CF) : Prop := 0 ≤ c.2.2.2.1 ∧ HOk c.1 c.2.1 c.2.2.1 ∧ LOk c.2.2.2.2.1 ∧ LOk c.2.2.2.2.2.1 ∧ 1 ≤ c.2.2.2.2.2.2.1 ∧ c.2.2.2.2.2.2.1 ≤ 1024
theorem c42_ok {c : CF} {k : Int → Prop} (h1 : ¬COk c → k 4) (h2 : COk c → k 0) : c42 c k := by
  constructor
  unfold tc42
  refine brP (fun g => h1 fun hc => by have := hc.1; omega) fun g0 => c66_ok (fun g => brT rfl (h1 fun hc => g hc.2.1)) fun g1 _ _ _ _ _ _ _ => brF rfl (c59_ok (fun g => brT rfl (h1 fun hc => g ⟨hc.2.2.1, hc.2.2.2.1⟩)) fun g2 g3 _ _ => brF rfl (c15_ok (fun g => h1 fun hc => g hc.2.2.2.2) fun g4 _ => h2 ⟨by omega, g1, g2, g3, g4⟩))

theorem c145_nil {a b : Int} {k : Bool → Prop} (h : k true) : c145 [] a b k := by
  constructor
  constructor
  intro I hI
  exact hI _ _ _ _ _ (brDn (by simp) h)
theorem c112_halt {k : Int → Prop} (h : k 0) : c112 ([0], 0, [], [], [], ()) k := by
  constructor
  unfold tc112
  refine brDn (by simp) (brDn (by simp) (brDn (by simp) (brDn (by simp) (brDn (by simp) (c145_nil (brF rfl ?_))))))
  constructor
  intro I hI
  exact hI _ _ _ _ _ (brDn (by simp) h)
theorem c114_one {k : List Int → Prop} (h : k [0]) : c114 [0] k := by
  constructor
  exact brF rfl (brF rfl (brT (roomS (by decide)) h))
theorem c114_nil {k : List Int → Prop} (h : k []) : c114 [] k := by
  constructor
  exact brT rfl ⟨h, brT rfl h⟩
theorem c115_nil {k : List (Int × Int × List Int × Int × Unit) → List (Int × Int × List Int × Int × Unit) → Prop} (h : k [] []) : c115 [] k := by
  constructor
  exact brT rfl ⟨h, brT rfl h⟩

theorem j8_ok {w : Int} {c : CF} {k : Bool → Prop} (h4 : ¬COk c → w = 4) (h0 : COk c → w = 0) (h : k true) : j8r17 k w c 0 [0] [] [] [] := by
  constructor
  unfold tj8r17
  constructor
  unfold tc45
  refine c112_halt (brF rfl (c42_ok (fun g => brT rfl ?_) fun g => brF rfl ?_))
  · have := h4 g
    subst this
    exact c42_ok (fun _ => brT rfl (brT rfl h)) fun g' => absurd g' g
  · have := h0 g
    subst this
    refine ⟨brT rfl (brT (eqT_self _ _) (brT (eqT_self _ _) ⟨?_⟩))⟩
    unfold tj45r8
    refine c114_one (c114_nil (c115_nil (c66_ok (fun hc => absurd g.2.1 hc) fun _ _ _ _ _ _ _ _ => ⟨?_⟩)))
    unfold tj45r10v2
    refine c59_ok (fun hc => absurd ⟨g.2.2.1, g.2.2.2.1⟩ hc) fun _ _ _ _ => c15_ok (fun hc => absurd g.2.2.2.2 hc) fun _ _ => brT (eqT_self _ _) (brT (eqT_self _ _) (needS (v := 0) rfl ?_))
    exact c42_ok (fun hc => absurd g hc) fun _ => brT rfl (brT rfl h)

theorem law8 {x : CF} {k : Bool → Prop} (_ : Go.Abs.Good (.pair (.int .i64) (.pair (.int .i64) (.pair (.int .i64) (.pair (.int .i64) (.pair (.pair (.int .i64) (.pair (.int .i64) (.pair (.int .i64) (.pair (.int .i64) .unit)))) (.pair (.pair (.int .i64) (.pair (.int .i64) (.pair (.int .i64) (.pair (.int .i64) .unit)))) (.pair (.int .i64) .unit))))))) x) (h : k true) : c8 x k := by
  constructor
  unfold tc8
  refine ⟨c42_ok (fun hc => absurd (by unfold COk HOk LOk; simp) hc) fun _ => brF rfl ?_⟩
  have bad : ¬COk x → j8r17 k 4 x 0 [0] [] [] [] := fun hc => j8_ok (fun _ => rfl) (fun g => absurd g hc) h
  have hx : ∀ {P : Prop}, (¬COk x → P) → (COk x → P) → P := fun a b => (Classical.em (COk x)).elim b a
  refine brP (fun g => bad fun hc => by have := hc.1; omega) fun g1 => brP (fun g => bad fun hc => by have := hc.2.1.1; omega) fun g2 => brP (fun g => bad fun hc => by have := hc.2.1.1; omega) fun g3 => brP (fun g => bad fun hc => by have := hc.2.1.2.1; omega) fun g4 => ?_
  rw [half (by omega)]
  refine brP (fun g => bad fun hc => by have := hc.2.1.2.1; omega) fun g5 => brP (fun g => bad fun hc => by have := hc.2.1.2.2; omega) fun g6 => ?_
  rw [wrap64 (a := x.1 - x.2.1) (by omega) (by omega), half (by omega)]
  refine brP (fun g => bad fun hc => by have := hc.2.1.2.2; omega) fun g7 => ?_
  refine c44_ok (fun g => brT rfl (bad fun hc => g hc.2.2.1)) fun g8 => brF rfl (c44_ok (fun g => brT rfl (bad fun hc => g hc.2.2.2.1)) fun g9 => brF rfl ?_)
  refine brP (fun g => bad fun hc => by have := hc.2.2.2.2; omega) fun g10 => brP (fun g => bad fun hc => by have := hc.2.2.2.2; omega) fun g11 => ?_
  exact j8_ok (fun hc => absurd ⟨by omega, ⟨by omega, by omega, by omega⟩, g8, g9, by omega, by omega⟩ hc) (fun _ => rfl) h
end Go.Proofs.Ytfdoaacapkopmaa
