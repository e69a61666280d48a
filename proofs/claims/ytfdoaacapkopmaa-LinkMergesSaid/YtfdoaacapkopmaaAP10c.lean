/- The law of 'LinkMerges', in plain Lean: the classes. -/
import Derived.Test.YtfdoaacapkopmaaAP10b
set_option linter.unusedVariables false
set_option linter.unusedSimpArgs false
namespace Go.Proofs.Ytfdoaacapkopmaa
open Go.Abs

def dflt : LF := (0, [], [], [], 0, ())
def F (x : List LF) (i : Nat) : LF := x[i]?.getD dflt
theorem F_eq {x : List LF} {i : Nat} (h : i < x.length) : F x i = x[i] := by simp [F, h]
theorem S_mono {R T : Nat → Nat → Prop} {f g : LF} (h : ∀ i (h1 : i < f.2.2.1.length) (h2 : i < g.2.2.1.length), R f.2.2.1[i].2.1.toNat g.2.2.1[i].2.1.toNat → T f.2.2.1[i].2.1.toNat g.2.2.1[i].2.1.toNat) (hs : S R f g) : S T f g :=
  ⟨hs.1, hs.2.1, hs.2.2.1, hs.2.2.2.1, fun i h1 h2 => ⟨(hs.2.2.2.2 i h1 h2).1, h i h1 h2 (hs.2.2.2.2 i h1 h2).2⟩⟩
def RP (x : List LF) (cls : List Int) (i j : Nat) : Prop := RC cls i j ∧ S (RC cls) (F x i) (F x j)
structure Eqv (R : Nat → Nat → Prop) : Prop where
  rfl' : ∀ i, R i i
  sy : ∀ {i j}, R i j → R j i
  tr : ∀ {i j k}, R i j → R j k → R i k
theorem RC_eqv (cls : List Int) : Eqv (RC cls) := ⟨fun _ => rfl, fun h => Eq.symm h, fun h g => Eq.trans h g⟩
theorem S_rfl {R : Nat → Nat → Prop} (h : Eqv R) (f : LF) : S R f f := ⟨rfl, rfl, rfl, rfl, fun i _ _ => ⟨rfl, h.rfl' _⟩⟩
theorem S_sy {R : Nat → Nat → Prop} (h : Eqv R) {f g : LF} (hs : S R f g) : S R g f :=
  ⟨hs.1.symm, hs.2.1.symm, hs.2.2.1.symm, hs.2.2.2.1.symm, fun i h1 h2 => ⟨(hs.2.2.2.2 i h2 h1).1.symm, h.sy (hs.2.2.2.2 i h2 h1).2⟩⟩
theorem S_tr {R : Nat → Nat → Prop} (h : Eqv R) {f g e : LF} (hs : S R f g) (ht : S R g e) : S R f e :=
  ⟨hs.1.trans ht.1, hs.2.1.trans ht.2.1, hs.2.2.1.trans ht.2.2.1, hs.2.2.2.1.trans ht.2.2.2.1, fun i h1 h2 =>
    have h3 : i < g.2.2.1.length := by rw [← hs.2.2.2.1]; exact h1
    ⟨(hs.2.2.2.2 i h1 h3).1.trans (ht.2.2.2.2 i h3 h2).1, h.tr (hs.2.2.2.2 i h1 h3).2 (ht.2.2.2.2 i h3 h2).2⟩⟩
theorem RP_eqv (x : List LF) (cls : List Int) : Eqv (RP x cls) :=
  have e := RC_eqv cls
  ⟨fun i => ⟨rfl, S_rfl e _⟩, fun h => ⟨e.sy h.1, S_sy e h.2⟩, fun h g => ⟨e.tr h.1 g.1, S_tr e h.2 g.2⟩⟩

/-- the least that is related -/
def Lst (R : Nat → Nat → Prop) (i v : Nat) : Prop := v ≤ i ∧ R i v ∧ ∀ j, j < v → ¬ R i j
def Right (R : Nat → Nat → Prop) (nx : List Int) (i : Nat) : Prop := ∀ t, t < i → ∃ v : Nat, nx[t]? = some (v : Int) ∧ Lst R t v
theorem noRep {R : Nat → Nat → Prop} {nx : List Int} {i j : Nat} (e : Eqv R) (hr : Right R nx i) (hj : j ≤ i) (h : ∀ t, t < j → ¬ (nx[t]? = some (t : Int) ∧ R i t)) : ∀ t, t < j → ¬ R i t := by
  intro t ht hR
  obtain ⟨v, hv, hle, hRv, hmin⟩ := hr t (by omega)
  obtain ⟨w, hw, hwle, hRw, hm2⟩ := hr v (by omega)
  have : w = v := by
    by_cases hlt : w < v
    · exact absurd (e.tr hRv hRw) (hmin w hlt)
    · omega
  subst this
  exact h w (by omega) ⟨hw, e.tr hR hRv⟩

/-- all that is known of the list of functions -/
structure Inp (x : List LF) : Prop where
  le : x.length ≤ 12
  calls : ∀ j (h : j < x.length), CallsIn x.length (x[j]).2.2.1 0
  lens : ∀ f ∈ x, Lens f

theorem l55r11_ok {x : List LF} {cls nx : List Int} {i : Nat} {k : List LF → Int → Int → List Int → List Int → Prop} (hx : Inp x) (hcls : cls.length = x.length) (hnx : nx.length = x.length) (hi : i < x.length)
    (hr : Right (RP x cls) nx i) (hni : nx[i]? = some (i : Int)) (h : ∀ nx' : List Int, nx'.length = x.length → Right (RP x cls) nx' (i + 1) → k x (x.length : Int) (i : Int) cls nx') :
    l55r11 k x (i : Int) (x.length : Int) (i : Int) (i : Int) 0 cls nx := by
  have hle := hx.le
  have eq := RP_eqv x cls
  constructor
  intro I hI
  have key := upInd (N := i) (M := fun j => (∀ t, t < j → ¬ (nx[t]? = some (t : Int) ∧ RP x cls i t)) → I x (i : Int) (x.length : Int) (i : Int) (i : Int) (j : Int) cls nx)
    (by
      intro hno
      apply hI
      refine brDn (by omega) (h nx hnx fun t ht => ?_)
      by_cases e : t = i
      · subst e
        exact ⟨t, hni, Nat.le_refl _, eq.rfl' _, noRep eq hr (Nat.le_refl _) hno⟩
      · exact hr t (by omega))
    (by
      intro j hj ih hno
      apply hI
      have hgo : ¬ (nx[j]? = some (j : Int) ∧ RP x cls i j) → I x (i : Int) (x.length : Int) (i : Int) (i : Int) ((j + 1 : Nat) : Int) cls nx := fun hn => ih fun t ht => by
        by_cases e : t = j
        · subst e; exact hn
        · exact hno t (by omega)
      rw [wrapS (by omega), Int.toNat_natCast, Int.toNat_natCast]
      refine brD (by omega) (brD (by omega) (needNth (by omega) (brE (fun e1 => ?_) fun e1 => hgo fun hh => e1 ?_)))
      rotate_left
      · have := hh.1
        rw [List.getElem?_eq_getElem (by omega)] at this
        exact Option.some.inj this
      refine brD (by omega) (needNth (by omega) (brD (by omega) (needNth (by omega) (brE (fun e2 => ?_) fun e2 => hgo fun hh => e2 ?_))))
      rotate_left
      · have := hh.2.1
        unfold RC at this
        rw [List.getElem?_eq_getElem (by omega), List.getElem?_eq_getElem (by omega)] at this
        exact Option.some.inj this
      refine needAt hi (needAt (by omega) ?_)
      have hcl : ((cls.length : Nat) : Int) = ((x.length : Nat) : Int) := by omega
      have hci : CallsIn ((cls.length : Nat) : Int) (x[i]).2.2.1 0 := by rw [hcl]; exact hx.calls i hi
      have hcj : CallsIn ((cls.length : Nat) : Int) (x[j]'(by omega)).2.2.1 0 := by rw [hcl]; exact hx.calls j (by omega)
      refine c118_ok (hx.lens _ (List.getElem_mem hi)) hci hcj (fun hs => ?_) fun hs => ?_
      · refine brT rfl (brD (by omega) (needNth (by omega) (h _ (by simp [hnx]) fun t ht => ?_)))
        have hRP : RP x cls i j := ⟨by unfold RC; rw [List.getElem?_eq_getElem (by omega), List.getElem?_eq_getElem (by omega), e2], by rw [F_eq hi, F_eq (by omega)]; exact hs⟩
        by_cases e : t = i
        · subst e
          exact ⟨j, by rw [List.getElem?_set_self (by omega)], by omega, hRP, noRep eq hr (by omega) hno⟩
        · obtain ⟨v, hv, hl⟩ := hr t (by omega)
          exact ⟨v, by rw [List.getElem?_set_ne (by omega)]; exact hv, hl⟩
      · refine brF rfl (hgo fun hh => hs ?_)
        have := hh.2.2
        rw [F_eq hi, F_eq (by omega)] at this
        exact this)
    0 (Nat.zero_le _)
  exact key fun t ht => absurd ht (by omega)

theorem l55r7_ok {x : List LF} {cls nx : List Int} {k : List LF → List Int → List Int → Prop} (hx : Inp x) (hcls : cls.length = x.length) (hnx : nx.length = x.length)
    (h : ∀ nx' : List Int, nx'.length = x.length → Right (RP x cls) nx' x.length → k x cls nx') : l55r7 k x (x.length : Int) 0 cls nx := by
  have hle := hx.le
  constructor
  intro I hI
  have key := upInd (N := x.length) (M := fun i => ∀ nx : List Int, nx.length = x.length → Right (RP x cls) nx i → I x (x.length : Int) (i : Int) cls nx)
    (by
      intro nx h1 h2
      apply hI
      exact brDn (by omega) (h nx h1 h2))
    (by
      intro i hi ih nx h1 h2
      apply hI
      rw [Int.toNat_natCast]
      refine brD (by omega) (brD (by omega) (needNth (by omega) (l55r11_ok hx hcls (by simp [h1]) hi (fun t ht => ?_) (by rw [List.getElem?_set_self (by omega)]) fun nx' h3 h4 => ?_)))
      · obtain ⟨v, hv, hl⟩ := h2 t ht
        exact ⟨v, by rw [List.getElem?_set_ne (by omega)]; exact hv, hl⟩
      · rw [wrapS (by omega)]
        exact ih nx' h3 h4)
    0 (Nat.zero_le _)
  exact key nx hnx fun t ht => absurd ht (by omega)

def Post (x : List LF) (E : Nat → Nat → Prop) : Prop := ∀ i j, E i j → i < x.length ∧ j < x.length ∧ S E (F x i) (F x j)
structure Inv (x : List LF) (cls : List Int) : Prop where
  len : cls.length = x.length
  right : Right (RC cls) cls x.length
  top : ∀ E, Post x E → ∀ i j, E i j → RC cls i j
structure Fin' (x : List LF) (cls : List Int) : Prop extends Inv x cls where
  post : ∀ i j, i < x.length → j < x.length → RC cls i j → S (RC cls) (F x i) (F x j)

theorem next_rel {x : List LF} {cls nx : List Int} (hr : Right (RP x cls) nx x.length) {i j : Nat} (hi : i < x.length) (hj : j < x.length) : RC nx i j ↔ RP x cls i j := by
  have eq := RP_eqv x cls
  obtain ⟨v, hv, h1, h2, h3⟩ := hr i hi
  obtain ⟨w, hw, g1, g2, g3⟩ := hr j hj
  unfold RC
  rw [hv, hw]
  constructor
  · intro h
    have : v = w := by have := Option.some.inj h; omega
    subst this
    exact eq.tr h2 (eq.sy g2)
  · intro h
    have : v = w := by
      by_cases l1 : v < w
      · exact absurd (eq.tr (eq.sy h) h2) (g3 v l1)
      · by_cases l2 : w < v
        · exact absurd (eq.tr h g2) (h3 w l2)
        · omega
    rw [this]
theorem next_inv {x : List LF} {cls nx : List Int} (hc : Inv x cls) (hl : nx.length = x.length) (hr : Right (RP x cls) nx x.length) : Inv x nx := by
  refine ⟨hl, fun t ht => ?_, fun E hE i j hij => ?_⟩
  · obtain ⟨v, hv, h1, h2, h3⟩ := hr t ht
    exact ⟨v, hv, h1, (next_rel hr ht (by omega)).2 h2, fun j hj hh => h3 j hj ((next_rel hr ht (by omega)).1 hh)⟩
  · obtain ⟨h1, h2, h3⟩ := hE i j hij
    exact (next_rel hr h1 h2).2 ⟨hc.top E hE i j hij, S_mono (fun _ _ _ h => hc.top E hE _ _ h) h3⟩
theorem next_ge {x : List LF} {cls nx : List Int} (hc : Inv x cls) (hr : Right (RP x cls) nx x.length) {t : Nat} (ht : t < x.length) : ∃ a b : Nat, cls[t]? = some (a : Int) ∧ nx[t]? = some (b : Int) ∧ a ≤ b ∧ b ≤ t := by
  obtain ⟨v, hv, h1, h2, h3⟩ := hr t ht
  obtain ⟨w, hw, g1, g2, g3⟩ := hc.right t ht
  refine ⟨w, v, hw, hv, ?_, h1⟩
  by_cases l : v < w
  · exact absurd h2.1 (g3 v l)
  · omega
theorem sum_le : ∀ (a b : List Int), a.length = b.length → (∀ (t : Nat) (u v : Int), a[t]? = some u → b[t]? = some v → u ≤ v) → a.sum ≤ b.sum
  | [], [], _, _ => Int.le_refl _
  | [], _ :: _, h, _ => by simp at h
  | _ :: _, [], h, _ => by simp at h
  | u :: a, v :: b, h, hh => by
    have h0 := hh 0 u v rfl rfl
    have h1 := sum_le a b (by simpa using h) fun t p q h1 h2 => hh (t + 1) p q h1 h2
    simp only [List.sum_cons]; omega
theorem sum_lt : ∀ (a b : List Int), a.length = b.length → (∀ (t : Nat) (u v : Int), a[t]? = some u → b[t]? = some v → u ≤ v) → a ≠ b → a.sum < b.sum
  | [], [], _, _, hn => absurd rfl hn
  | [], _ :: _, h, _, _ => by simp at h
  | _ :: _, [], h, _, _ => by simp at h
  | u :: a, v :: b, h, hh, hn => by
    have h0 := hh 0 u v rfl rfl
    have h1 := sum_le a b (by simpa using h) fun t p q h1 h2 => hh (t + 1) p q h1 h2
    simp only [List.sum_cons]
    by_cases e : u = v
    · have h2 := sum_lt a b (by simpa using h) (fun t p q h1 h2 => hh (t + 1) p q h1 h2) fun e2 => hn (by rw [e, e2])
      omega
    · omega
theorem sum_bd : ∀ (a : List Int) (n : Int), (∀ (t : Nat) (u : Int), a[t]? = some u → u ≤ n) → a.sum ≤ a.length * n
  | [], n, _ => by simp
  | u :: a, n, h => by
    have h0 := h 0 u rfl
    have h1 := sum_bd a n fun t p h1 => h (t + 1) p h1
    simp only [List.sum_cons, List.length_cons]
    have : ((a.length + 1 : Nat) : Int) * n = a.length * n + n := by rw [Int.natCast_add, Int.add_mul]; simp
    omega

theorem l55r5_ok {x : List LF} {cls : List Int} {k : Int → List Int → Prop} (hx : Inp x) (hc : Inv x cls) (h : ∀ cls : List Int, Fin' x cls → k 0 cls) : l55r5 k x cls := by
  have hle := hx.le
  constructor
  intro I hI
  have key : ∀ m : Nat, ∀ cls : List Int, Inv x cls → (x.length : Int) * x.length - cls.sum ≤ m → I x cls := by
    intro m
    induction m with
    | zero =>
      intro cls hc hm
      apply hI
      refine brD (by omega) (l55r7_ok hx hc.len (by simp) fun nx h1 h2 => ?_)
      have hge := fun t ht => next_ge hc h2 (t := t) ht
      have hsum : cls ≠ nx → cls.sum < nx.sum := sum_lt cls nx (by rw [hc.len, h1]) fun t u v hu hv => by
        have ht : t < x.length := by have := (List.getElem?_eq_some_iff.1 hu).1; rw [hc.len] at this; exact this
        obtain ⟨a, b, ha, hb, hab, _⟩ := hge t ht
        rw [hu] at ha; rw [hv] at hb
        have := Option.some.inj ha; have := Option.some.inj hb; omega
      have hbd : nx.sum ≤ nx.length * (x.length : Int) := sum_bd nx x.length fun t u hu => by
        have ht : t < x.length := by have := (List.getElem?_eq_some_iff.1 hu).1; rw [h1] at this; exact this
        obtain ⟨a, b, ha, hb, hab, _⟩ := hge t ht
        rw [hu] at hb
        have := Option.some.inj hb; omega
      rw [h1] at hbd
      refine c119_ok (by rw [h1, hml]; omega) (fun e => ?_) fun e => ?_
      · subst e
        refine brT rfl (h _ ⟨hc, fun i j hi hj hij => ((next_rel h2 hi hj).1 hij).2⟩)
      · have := hsum fun h => e h.symm
        omega
    | succ m ih =>
      intro cls hc hm
      apply hI
      refine brD (by omega) (l55r7_ok hx hc.len (by simp) fun nx h1 h2 => ?_)
      have hge := fun t ht => next_ge hc h2 (t := t) ht
      have hsum : cls ≠ nx → cls.sum < nx.sum := sum_lt cls nx (by rw [hc.len, h1]) fun t u v hu hv => by
        have ht : t < x.length := by have := (List.getElem?_eq_some_iff.1 hu).1; rw [hc.len] at this; exact this
        obtain ⟨a, b, ha, hb, hab, _⟩ := hge t ht
        rw [hu] at ha; rw [hv] at hb
        have := Option.some.inj ha; have := Option.some.inj hb; omega
      refine c119_ok (by rw [h1, hml]; omega) (fun e => ?_) fun e => ?_
      · subst e
        refine brT rfl (h _ ⟨hc, fun i j hi hj hij => ((next_rel h2 hi hj).1 hij).2⟩)
      · have := hsum fun h => e h.symm
        exact brF rfl (ih nx (next_inv hc h1 h2) (by omega))
  exact key _ cls hc (Int.self_le_toNat _)

theorem c55_ok {x : List LF} {e : Int} {k : Int → List Int → Prop} (hle : x.length ≤ 12) (hlens : ∀ f ∈ x, Lens f) (he : e = 0 → ∀ j (h : j < x.length), CallsIn x.length (x[j]).2.2.1 0) (hk : ∀ k : Int → Prop, k e → c56 x k)
    (h1 : e ≠ 0 → k e []) (h2 : e = 0 → ∀ cls, Fin' x cls → k 0 cls) : c55 x k := by
  constructor
  unfold tc55
  refine hk _ (brN h1 fun e0 => brD (by omega) (l55r5_ok ⟨hle, he e0, hlens⟩ ⟨by simp, fun t ht => ⟨0, ?_, Nat.zero_le _, ?_, fun j hj => absurd hj (by omega)⟩, fun E hE i j hij => ?_⟩ (h2 e0)))
  · simp [List.getElem?_replicate, ht]
  · have h0 : 0 < x.length := by omega
    show (List.replicate _ (0 : Int))[t]? = (List.replicate _ (0 : Int))[0]?
    rw [List.getElem?_replicate, List.getElem?_replicate, if_pos (by omega), if_pos (by omega)]
  · obtain ⟨g1, g2, _⟩ := hE i j hij
    simp [RC, List.getElem?_replicate, g1, g2]
end Go.Proofs.Ytfdoaacapkopmaa
