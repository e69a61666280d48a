/- Rows of rows that are written: a row lent, taken back; a new one. -/
import Derived.Test.YteeigkbjjoedoaaAOpsHm
set_option linter.unusedVariables false
set_option linter.unusedSimpArgs false
namespace Go.Abs
theorem Free.cons {hs : List (Nat × Nat)} {i j k : Nat} : Free ((i, j) :: hs) k ↔ k ≠ i ∧ Free hs k := by
  constructor
  · intro h
    refine ⟨fun e => h j (by rw [e]; simp), fun j' hj' => h j' (by simp [hj'])⟩
  · rintro ⟨h1, h2⟩ j' hj'
    rcases List.mem_cons.1 hj' with e | hj'
    · cases e; exact h1 rfl
    · exact h2 j' hj'
theorem put_put : ∀ {σ : Sto} {id : Nat} {x y : Ob}, Sto.put (Sto.put σ id x) id y = Sto.put σ id y
  | [], _, _, _ => rfl
  | _ :: _, 0, _, _ => rfl
  | _ :: σ, n + 1, x, y => by simp only [Sto.put]; rw [put_put]
theorem put_comm : ∀ {σ : Sto} {i j : Nat} {x y : Ob}, i ≠ j → Sto.put (Sto.put σ i x) j y = Sto.put (Sto.put σ j y) i x
  | [], _, _, _, _, _ => rfl
  | _ :: _, 0, 0, _, _, h => (h rfl).elim
  | _ :: _, 0, _ + 1, _, _, _ => rfl
  | _ :: _, _ + 1, 0, _, _, _ => rfl
  | _ :: σ, i + 1, j + 1, x, y, h => by simp only [Sto.put]; rw [put_comm (by omega)]
theorem put_swap {σ : Sto} {id j : Nat} {x y z : Ob} (h : j ≠ id) : Sto.put (Sto.put (Sto.put σ id x) j y) id z = Sto.put (Sto.put σ j y) id z := by
  rw [put_comm (i := id) (j := j) (fun e => h e.symm), put_put]
theorem Sim.lendRow {s : St} (hS : Sim s) {id i : Nat} {t : Ty} {xs : List (List t.T)} {hs : List (Nat × Nat)} (hg : Sto.get s.σ id = .deep t xs hs) {m : Meta} (hm : s.ρ id = some m) {b : Nat} (hb : m.blk = some b) {c : Array Value} {el : TypeId} (hc : s.w.heap[b]? = some (.cells c el (0, 0)))
    {ys : List t.T} (hi : xs[i]? = some ys) (hf : Free hs i) {v : Value} (hv : c[i]? = some v) :
    ∃ mi : Meta, mi.ty = t ∧ HdrOf mi v ∧
      let s' : St := ⟨s.w, s.F, upd s.ρ s.σ.length mi, Sto.put s.σ id (.deep t xs ((i, s.σ.length) :: hs)) ++ [.row t ys false]⟩
      Sim s' ∧ J s s' := by
  have hlive : isLive (Sto.get s.σ id) = true := by rw [hg]; rfl
  have hid := get_lt hlive
  have ho := hS.obj id
  rw [hg] at ho
  obtain ⟨m', k1, k2, k3, k4, k5, k6⟩ := ho
  rw [hm] at k1; cases k1
  rcases k5 with ⟨k5, _⟩ | ⟨b', c', el', j1, j2, j3, j4⟩
  · rw [hb] at k5; cases k5
  rw [hb] at j1; cases j1
  rw [hc] at j2; cases j2
  obtain ⟨v', g1, g2, g3⟩ := j4 i ys hi
  rw [hv] at g1; cases g1
  obtain ⟨a, cap, q1, q2, q3, q4⟩ := g2 hf
  have hil : i < m.len := by rw [k3]; exact (List.getElem?_eq_some_iff.1 hi).1
  have hself : ¬ Inner s.w m hs b := hS.selfO id m hs b hlive hm (by rw [hg]; rfl) hb
  -- the row's own data
  obtain ⟨mi, e1, e2, e3, e4, e5⟩ : ∃ mi : Meta, mi.ty = t ∧ HdrOf mi v ∧ mi.len = ys.length ∧ (∀ bi, mi.blk = some bi → SlotB v bi) ∧
      ((mi.blk = none ∧ mi.tot = 0) ∨ ∃ b c el cs, mi.blk = some b ∧ s.w.heap[b]? = some (.cells c el (0, 0)) ∧ mi.tot * t.csz ≤ c.size ∧ ImmL (Imm s.w s.F t) ys cs ∧ cs <+: c.toList) := by
    by_cases h0 : cap = 0
    · refine ⟨⟨none, ys.length, cap, t, q3⟩, rfl, ⟨a, q1, q2, .inl h0⟩, rfl, (fun bi h => by cases h), .inl ⟨rfl, h0⟩⟩
    · rcases q4 with q4 | ⟨bi, ci, eli, cs, r1, r2, r3, r4, r5⟩
      · exact (h0 q4).elim
      · subst r1
        exact ⟨⟨some bi, ys.length, cap, t, q3⟩, rfl, ⟨_, q1, q2, .inr ⟨bi, rfl, rfl⟩⟩, rfl, (fun b2 h => by cases h; exact ⟨_, _, _, q1, rfl, h0⟩), .inr ⟨bi, ci, eli, cs, rfl, r2, r3, r4, r5⟩⟩
  refine ⟨mi, e1, e2, ?_⟩
  have hlen : mi.len ≤ mi.tot := by obtain ⟨_, _, h, _⟩ := e2; exact h
  have hmono := upd_mono hS mi
  have get1 : ∀ k, k < s.σ.length → Sto.get (Sto.put s.σ id (.deep t xs ((i, s.σ.length) :: hs)) ++ [.row t ys false]) k = Sto.get (Sto.put s.σ id (.deep t xs ((i, s.σ.length) :: hs))) k := fun k hk => get_append_lt (by rw [length_put]; exact hk)
  have getn : Sto.get (Sto.put s.σ id (.deep t xs ((i, s.σ.length) :: hs)) ++ [.row t ys false]) s.σ.length = .row t ys false := by rw [get_append_ge (by rw [length_put]; exact Nat.le_refl _), length_put, Nat.sub_self]; rfl
  -- who owns what
  have key : ∀ k b1, OwnsO s.w (upd s.ρ s.σ.length mi) k (Sto.get (Sto.put s.σ id (.deep t xs ((i, s.σ.length) :: hs)) ++ [.row t ys false]) k) b1 →
      (k < s.σ.length ∧ s.owns k b1 ∧ (k = id → ¬ SlotB v b1)) ∨ (k = s.σ.length ∧ SlotB v b1) := by
    intro k b1 h
    by_cases hk : k < s.σ.length
    · rw [get1 k hk] at h
      by_cases h2 : k = id
      · subst h2
        rw [get_put_same hk] at h
        obtain ⟨_, m2, h3, h4⟩ := h
        rw [upd_lt hk, hm] at h3; cases h3
        rcases h4 with h4 | ⟨hs2, h5, i2, blk, c2, el2, v2, h6, h7, h8, h9, h10, h11⟩
        · rw [hb] at h4; cases h4
          exact .inl ⟨hk, .main hlive hm hb, fun _ hsb => hself ⟨i, b, c, el, v, hb, hc, hil, hf, hv, hsb⟩⟩
        · cases h5
          rw [hb] at h6; cases h6
          rw [hc] at h7; cases h7
          obtain ⟨hne, hf2⟩ := Free.cons.1 h9
          exact .inl ⟨hk, ⟨hlive, m, hm, .inr ⟨hs, by rw [hg]; rfl, i2, b, c, el, v2, hb, hc, h8, hf2, h10, h11⟩⟩, fun _ hsb => hne (k6 b c el i2 i v2 v b1 hb hc h8 hil hf2 hf h10 hv h11 hsb)⟩
      · rw [get_put_ne h2] at h
        exact .inl ⟨hk, OwnsO.back h (fun m' h' => by rwa [upd_lt hk] at h') fun _ _ _ _ => rfl, fun e => (h2 e).elim⟩
    · by_cases h2 : k = s.σ.length
      · subst h2
        rw [getn] at h
        exact .inr ⟨rfl, e4 b1 (h.plain rfl upd_self)⟩
      · rw [get_ge (by simp [length_put]; omega)] at h; cases h.1
  have hvown : ∀ b1, SlotB v b1 → s.owns id b1 := fun b1 h => ⟨hlive, m, hm, .inr ⟨hs, by rw [hg]; rfl, i, b, c, el, v, hb, hc, hil, hf, hv, h⟩⟩
  refine hS.alter (fun _ => False) (.refl _ _) (fun _ h => h.elim) rfl (fun k hk => upd_lt hk) (by simp [length_put]) (fun k m' hk => ?_) (fun k => ?_) (fun k b1 h => ?_) (fun k k' b1 h h' => ?_) fun k m2 hs2 b1 h1 h2 h3 h4 h5 => ?_
  · simp only [upd] at hk
    simp [length_put]
    split at hk
    · omega
    · have := hS.dom k m' hk; omega
  · by_cases hk : k < s.σ.length
    · rw [get1 k hk]
      by_cases h2 : k = id
      · subst h2
        rw [get_put_same hk]
        refine ⟨m, hmono _ _ hm, k2, k3, k4, .inr ⟨b, c, el, hb, hc, j3, fun k ys' hk' => ?_⟩, fun blk c2 el2 k k' v1 v2 b1 a1 a2 a3 a4 a5 a6 => k6 blk c2 el2 k k' v1 v2 b1 a1 a2 a3 a4 (Free.cons.1 a5).2 (Free.cons.1 a6).2⟩
        obtain ⟨v2, r1, r2, r3⟩ := j4 k ys' hk'
        refine ⟨v2, r1, fun hf2 => r2 (Free.cons.1 hf2).2, fun j hj => ?_⟩
        rcases List.mem_cons.1 hj with e | hj
        · cases e
          rw [hv] at r1; cases r1
          exact ⟨mi, upd_self, e1, e2⟩
        · obtain ⟨mj, p1, p2, p3⟩ := r3 j hj
          exact ⟨mj, hmono _ _ p1, p2, p3⟩
      · rw [get_put_ne h2]
        exact (hS.obj k).mono (fun _ _ => rfl) (fun _ h => h) hmono fun _ _ => rfl
    · by_cases h2 : k = s.σ.length
      · subst h2
        rw [getn]
        exact ⟨mi, upd_self, e1, e3, hlen, (fun h => by cases h), e5⟩
      · rw [get_ge (by simp [length_put]; omega)]; trivial
  · rcases key k b1 h with h | h
    · exact .inl ⟨k, h.2.1⟩
    · exact .inl ⟨id, hvown b1 h.2⟩
  · rcases key k b1 h with ⟨a1, a2, a3⟩ | ⟨a1, a2⟩ <;> rcases key k' b1 h' with ⟨c1, c2, c3⟩ | ⟨c1, c2⟩
    · exact hS.sepO k k' b1 a2 c2
    · exact (a3 (hS.sepO k id b1 a2 (hvown b1 c2)) c2).elim
    · exact (c3 (hS.sepO k' id b1 c2 (hvown b1 a2)) a2).elim
    · omega
  · by_cases hk : k < s.σ.length
    · rw [get1 k hk] at h1 h3
      rw [upd_lt hk] at h2
      by_cases h2' : k = id
      · subst h2'
        rw [get_put_same hk] at h3
        cases h3
        rw [hm] at h2; cases h2
        obtain ⟨i2, blk, c2, el2, v2, q6, q7, q8, q9, q10, q11⟩ := h5
        exact hS.selfO k m hs b1 hlive hm (by rw [hg]; rfl) h4 ⟨i2, blk, c2, el2, v2, q6, q7, q8, (Free.cons.1 q9).2, q10, q11⟩
      · rw [get_put_ne h2'] at h1 h3
        exact hS.selfO k m2 hs2 b1 h1 h2 h3 h4 h5
    · by_cases h2' : k = s.σ.length
      · subst h2'
        rw [getn] at h3; cases h3
      · rw [get_ge (by simp [length_put]; omega)] at h1; cases h1
theorem Sim.takeBack {s : St} (hS : Sim s) {id i j : Nat} {t : Ty} {xs : List (List t.T)} {hs hs' : List (Nat × Nat)} (hg : Sto.get s.σ id = .deep t xs hs) (hij : (i, j) ∈ hs) {ys : List t.T} {ex : Bool} (hj : Sto.get s.σ j = .row t ys ex) (hne : j ≠ id)
    (hsub : ∀ p, p ∈ hs' → p ∈ hs) (hsup : ∀ p, p ∈ hs → p ≠ (i, j) → p ∈ hs') :
    Sim ⟨s.w, s.F, s.ρ, Sto.put (Sto.put s.σ j .dead) id (.deep t (List.set xs i ys) hs')⟩ ∧ J s ⟨s.w, s.F, s.ρ, Sto.put (Sto.put s.σ j .dead) id (.deep t (List.set xs i ys) hs')⟩ := by
  have hlive : isLive (Sto.get s.σ id) = true := by rw [hg]; rfl
  have hlj : isLive (Sto.get s.σ j) = true := by rw [hj]; rfl
  have hid := get_lt hlive
  have hjl := get_lt hlj
  have ho := hS.obj id
  rw [hg] at ho
  obtain ⟨m, hm, k2, k3, k4, k5, k6⟩ := ho
  have hoj := hS.obj j
  rw [hj] at hoj
  obtain ⟨mj, l1, l2, l3, l4, l5, l6⟩ := hoj
  have get1 : ∀ k, k ≠ id → k ≠ j → Sto.get (Sto.put (Sto.put s.σ j .dead) id (.deep t (List.set xs i ys) hs')) k = Sto.get s.σ k := fun k h1 h2 => by rw [get_put_ne h1, get_put_ne h2]
  have getid : Sto.get (Sto.put (Sto.put s.σ j .dead) id (.deep t (List.set xs i ys) hs')) id = .deep t (List.set xs i ys) hs' := get_put_same (by rw [length_put]; exact hid)
  have getj : Sto.get (Sto.put (Sto.put s.σ j .dead) id (.deep t (List.set xs i ys) hs')) j = .dead := by rw [get_put_ne hne, get_put_same hjl]
  -- the cell at i, if there is one
  have hcell : ∀ blk c el, m.blk = some blk → s.w.heap[blk]? = some (.cells c el (0, 0)) → ∀ v, i < m.len → c[i]? = some v → HdrOf mj v := by
    intro blk c el e1 e2 v e3 e4
    rcases k5 with ⟨k5, _⟩ | ⟨b', c', el', j1, j2, j3, j4⟩
    · rw [e1] at k5; cases k5
    rw [e1] at j1; cases j1
    rw [e2] at j2; cases j2
    obtain ⟨v', g1, _, g3⟩ := j4 i _ (List.getElem?_eq_getElem (by rw [← k3]; exact e3))
    rw [e4] at g1; cases g1
    obtain ⟨mj', p1, p2, p3⟩ := g3 j hij
    rw [l1] at p1; cases p1
    exact p3
  have hslotB : ∀ v b1, HdrOf mj v → SlotB v b1 → mj.blk = some b1 := by
    rintro v b1 ⟨a, h1, h2, h3⟩ ⟨a', len, cap, h4, h5, h6⟩
    rw [h1] at h4
    cases h4
    rcases h3 with h3 | ⟨b, h3, h7⟩
    · exact (h6 h3).elim
    · cases h7; subst h5; exact h3
  have hfree : ∀ k, Free hs' k → k ≠ i → Free hs k := fun k h1 h2 j' hj' => h1 j' (hsup _ hj' fun e => h2 (by cases e; rfl))
  -- inner blocks: of old ones, or of j
  have hin : ∀ b1, Inner s.w m hs' b1 → (Inner s.w m hs b1 ∨ mj.blk = some b1) := by
    rintro b1 ⟨k, blk, c, el, v, e1, e2, e3, e4, e5, e6⟩
    by_cases hk : k = i
    · subst hk
      exact .inr (hslotB v b1 (hcell blk c el e1 e2 v e3 e5) e6)
    · exact .inl ⟨k, blk, c, el, v, e1, e2, e3, hfree k e4 hk, e5, e6⟩
  have key : ∀ k b1, OwnsO s.w s.ρ k (Sto.get (Sto.put (Sto.put s.σ j .dead) id (.deep t (List.set xs i ys) hs')) k) b1 → k ≠ j ∧ (s.owns k b1 ∨ (k = id ∧ s.owns j b1)) := by
    intro k b1 h
    by_cases h1 : k = j
    · subst h1; rw [getj] at h; cases h.1
    refine ⟨h1, ?_⟩
    by_cases h2 : k = id
    · subst h2
      rw [getid] at h
      obtain ⟨_, m2, h3, h4⟩ := h
      rw [hm] at h3; cases h3
      rcases h4 with h4 | ⟨hs2, h5, h6⟩
      · exact .inl (.main hlive hm h4)
      · cases h5
        rcases hin b1 h6 with h7 | h7
        · exact .inl ⟨hlive, m, hm, .inr ⟨hs, by rw [hg]; rfl, h7⟩⟩
        · exact .inr ⟨rfl, .main hlj l1 h7⟩
    · rw [get1 k h2 h1] at h
      exact .inl h
  refine hS.alter (fun _ => False) (.refl _ _) (fun _ h => h.elim) rfl (fun _ _ => rfl) (by simp [length_put]) (fun k m' hk => by simp only [length_put]; exact hS.dom k m' hk) (fun k => ?_) (fun k b1 h => ?_) (fun k k' b1 h h' => ?_) fun k m2 hs2 b1 h1 h2 h3 h4 h5 => ?_
  · by_cases h1 : k = j
    · subst h1; rw [getj]; trivial
    by_cases h2 : k = id
    · subst h2
      rw [getid]
      refine ⟨m, hm, k2, by rw [List.length_set]; exact k3, k4, k5.imp (fun h => h) ?_, fun blk c el q q' v1 v2 b1 a1 a2 a3 a4 a5 a6 a7 a8 a9 a10 => ?_⟩
      · rintro ⟨b, c, el, e1, e2, e3, e4⟩
        refine ⟨b, c, el, e1, e2, e3, fun k ys' hk' => ?_⟩
        by_cases hki : k = i
        · subst hki
          have hkl : k < xs.length := by have := (List.getElem?_eq_some_iff.1 hk').1; rwa [List.length_set] at this
          rw [List.getElem?_set, if_pos rfl, if_pos hkl] at hk'
          cases hk'
          obtain ⟨v, g1, _, g3⟩ := e4 k _ (List.getElem?_eq_getElem hkl)
          refine ⟨v, g1, fun _ => ?_, fun j' hj' => g3 j' (hsub _ hj')⟩
          obtain ⟨a, p1, p2, p3⟩ := hcell b c el e1 e2 v (by rw [k3]; exact hkl) g1
          refine ⟨a, mj.tot, by rw [← l3]; exact p1, by rw [← l3]; exact p2, mj.lt, ?_⟩
          rcases p3 with p3 | ⟨bj, p3, p4⟩
          · exact .inl p3
          · rcases l6 with ⟨l6, _⟩ | ⟨bj', cj, elj, cs, r1, r2, r3, r4, r5⟩
            · rw [p3] at l6; cases l6
            · rw [p3] at r1; cases r1
              exact .inr ⟨bj, cj, elj, cs, p4, r2, r3, r4, r5⟩
        · rw [List.getElem?_set, if_neg (fun h => hki h.symm)] at hk'
          obtain ⟨v, g1, g2, g3⟩ := e4 k ys' hk'
          exact ⟨v, g1, fun hf => g2 (hfree k hf hki), fun j' hj' => g3 j' (hsub _ hj')⟩
      · by_cases hki : q = i
        · by_cases hki' : q' = i
          · rw [hki, hki']
          · subst hki
            have h7 := hslotB v1 b1 (hcell blk c el a1 a2 v1 a3 a7) a9
            have h8 : s.owns k b1 := ⟨hlive, m, hm, .inr ⟨hs, by rw [hg]; rfl, q', blk, c, el, v2, a1, a2, a4, hfree q' a6 hki', a8, a10⟩⟩
            exact (hne (hS.sepO j k b1 (.main hlj l1 h7) h8)).elim
        · by_cases hki' : q' = i
          · subst hki'
            have h7 := hslotB v2 b1 (hcell blk c el a1 a2 v2 a4 a8) a10
            have h8 : s.owns k b1 := ⟨hlive, m, hm, .inr ⟨hs, by rw [hg]; rfl, q, blk, c, el, v1, a1, a2, a3, hfree q a5 hki, a7, a9⟩⟩
            exact (hne (hS.sepO j k b1 (.main hlj l1 h7) h8)).elim
          · exact k6 blk c el q q' v1 v2 b1 a1 a2 a3 a4 (hfree q a5 hki) (hfree q' a6 hki') a7 a8 a9 a10
    · rw [get1 k h2 h1]
      exact hS.obj k
  · rcases (key k b1 h).2 with h | ⟨_, h⟩
    · exact .inl ⟨k, h⟩
    · exact .inl ⟨j, h⟩
  · obtain ⟨a1, a2⟩ := key k b1 h
    obtain ⟨c1, c2⟩ := key k' b1 h'
    rcases a2 with a2 | ⟨a2, a3⟩ <;> rcases c2 with c2 | ⟨c2, c3⟩
    · exact hS.sepO k k' b1 a2 c2
    · exact (a1 (hS.sepO k j b1 a2 c3)).elim
    · exact (c1 (hS.sepO k' j b1 c2 a3)).elim
    · rw [a2, c2]
  · by_cases h1' : k = j
    · subst h1'; rw [getj] at h1; cases h1
    by_cases h2' : k = id
    · subst h2'
      rw [getid] at h3
      cases h3
      rw [hm] at h2; cases h2
      rcases hin b1 h5 with h6 | h6
      · exact hS.selfO k m hs b1 hlive hm (by rw [hg]; rfl) h4 h6
      · exact hne (hS.sepO j k b1 (.main hlj l1 h6) (.main hlive hm h4))
    · rw [get1 k h2' h1'] at h1 h3
      exact hS.selfO k m2 hs2 b1 h1 h2 h3 h4 h5
theorem VV_hdr {w : World} {F : Nat → Prop} {ρ : Map} {j : Nat} {m : Meta} {v : Value} (h1 : ρ j = some m) (h2 : HdrOf m v) : VV w F ρ (.vec j) v := by
  obtain ⟨a, rfl, h3, h4⟩ := h2
  exact VV_vecI h1 h3 h4
theorem borrowK_sound {P : Program} {s : St} (hS : Sim s) {id i : Nat} {tid : TypeId} {t : Ty} (ht : tyb P (.sl t) tid = true) {xs : List (List t.T)} {hs : List (Nat × Nat)} (hg : Sto.get s.σ id = .deep t xs hs) {m : Meta} (hm : s.ρ id = some m) {b : Nat} (hb : m.blk = some b) {K : AV → Sto → Prop} :
    ∀ {hs0 : List (Nat × Nat)}, (∀ p ∈ hs0, p ∈ hs) → (∀ p ∈ hs, p ∉ hs0 → p.1 ≠ i) → (i < xs.length) → borrowK (fun _ => False) s.σ id i t xs hs K hs0 → Runs P s (loadVar tid ⟨b, i, none⟩) K := by
  have ho := hS.obj id
  rw [hg] at ho
  obtain ⟨m', k1, k2, k3, k4, k5, k6⟩ := ho
  rw [hm] at k1; cases k1
  rcases k5 with ⟨k5, _⟩ | ⟨b', c, el, j1, j2, j3, j4⟩
  · rw [hb] at k5; cases k5
  rw [hb] at j1; cases j1
  have hrun : ∀ v, c[i]? = some v → (loadVar tid ⟨b, i, none⟩).run P s.w = .ok v s.w := by
    intro v hv
    have := run_loadVar_at (a := ⟨b, i, none⟩) (cs := [v]) ht rfl (w := s.w) (fun j v' hj => by
      cases j with
      | zero =>
        simp only [List.getElem?_cons_zero, Option.some.injEq] at hj
        subst hj
        have e : (⟨b, i, none⟩ : Addr).add 0 = ⟨b, i, none⟩ := by simp [Addr.add]
        rw [e]
        simp only [World.cell?, j2, Option.isSome_none, Bool.false_eq_true, if_false]
        simpa using hv
      | succ j => simp at hj)
    exact this
  intro hs0
  induction hs0 with
  | nil =>
    intro h1 h2 hi h
    obtain ⟨ys, hy, h⟩ := need_prop h
    obtain ⟨v, g1, g2, g3⟩ := j4 i ys hy
    have hf : Free hs i := fun j hj => h2 (i, j) hj (by simp) rfl
    obtain ⟨mi, e1, e2, e3, e4⟩ := hS.lendRow hg hm hb j2 hy hf g1
    refine ⟨_, v, _, ?_, e4, e3, VV_hdr upd_self e2, h⟩
    exact hrun v g1
  | cons p r ih =>
    intro h1 h2 hi h
    rcases br_prop h with ⟨hc, h⟩ | ⟨hc, h⟩
    · have e := of_decide_eq_true hc
      obtain ⟨v, g1, g2, g3⟩ := j4 i _ (List.getElem?_eq_getElem hi)
      have hmem : (i, p.2) ∈ hs := by
        have := h1 p (by simp)
        rw [e]; exact this
      obtain ⟨mj, q1, q2, q3⟩ := g3 p.2 hmem
      exact ⟨_, v, s, hrun v g1, .refl s, hS, VV_hdr q1 q3, h⟩
    · have e := of_decide_eq_false hc
      refine ih (fun q hq => h1 q (by simp [hq])) (fun q hq hn => ?_) hi h
      by_cases hqp : q = p
      · rw [hqp]; exact fun h => e h.symm
      · exact h2 q hq (by simp [hqp, hn])
theorem run_makeSlice {P : Program} {w : World} {t te : TypeId} {e : Ty} {bytes : Nat} (ht : P.underlying t = some (.slice te)) (he : tyb P e te = true) (hpos : e.csz ≠ 0) (hby : (P.info? te).map (·.bytes) = some bytes) (hb0 : bytes ≠ 0) {k k' : IntKind} {l c : Int}
    (h0 : 0 ≤ l) (h1 : l ≤ c) (h2 : c * bytes ≤ 140737488355328) : (Instr.makeSlice t (.int k l) (.int k' c)).run P w = .ok (.slice (some ⟨w.heap.size, 0, none⟩) l.toNat c.toNat) (w.alloc (.cells (List.replicate c.toNat (zcells e)).flatten.toArray te)) ∧ c ≤ 140737488355328 := by
  obtain ⟨inf, hi, hib⟩ : ∃ inf, P.info? te = some inf ∧ inf.bytes = bytes := by
    cases hi : P.info? te with
    | none => rw [hi] at hby; cases hby
    | some inf => rw [hi] at hby; exact ⟨inf, rfl, by simpa using hby⟩
  have hz : zcells e ≠ [] := fun h0 => hpos (by rw [← zcells_len, h0]; rfl)
  have hcl : c ≤ 140737488355328 := by
    have hb1 : (1 : Int) ≤ bytes := by omega
    have := Int.mul_le_mul_of_nonneg_left hb1 (Int.le_trans h0 h1)
    omega
  refine ⟨?_, hcl⟩
  have hwl : IntKind.i64.wrap l = l := wrap_i64 h0 (by omega)
  have hwc : IntKind.i64.wrap c = c := wrap_i64 (by omega) (by omega)
  have hbig : ¬ ((bytes : Int) * c > 2 ^ 48) := by rw [Int.mul_comm]; omega
  unfold Instr.makeSlice
  have hc0 : ¬ c < 0 := by omega
  have hl0 : ¬ l < 0 := by omega
  have hlc : ¬ l > c := by omega
  have hti : (typeInfo te).run P w = .ok inf w := by simp [typeInfo, hi]
  have hcond : (decide (c < 0) || decide ((inf.bytes : Int) * c > 2 ^ 48) || decide (l < 0) || decide (l > c)) = false := by
    rw [decide_eq_false hc0, decide_eq_false hl0, decide_eq_false hlc, decide_eq_false (by rw [hib]; exact hbig)]
    rfl
  simp only [Sem.run_bind, run_underlying ht w, Result.andThen_ok, asInt_int, hti, hwl, hwc]
  simp only [hcond, Bool.false_eq_true, if_false, Sem.run_bind, run_askRoom, Result.andThen_ok, run_sizeOf' he w]
  by_cases hn : c.toNat * e.csz = 0
  · have hn0 : c.toNat = 0 := by
      rcases Nat.mul_eq_zero.1 hn with h | h
      · exact h
      · exact (hpos h).elim
    have harr : ∀ zero : Array Value, Array.map (fun x => zero[x % zero.size]!) (Array.range 0) = #[] := fun zero => by simp
    simp only [hn0, Nat.zero_mul, if_true, Sem.run_bind, Sem.run_pure, Result.andThen_ok, harr]
    rfl
  · simp only [hn, if_false, Sem.run_bind, run_zeroValue' he w, Result.andThen_ok, Sem.run_pure, toV_cells (zcells_len e) (zcells_one e)]
    rw [← zcells_len, range_mod hz]
    rfl
theorem flat_nils (n : Nat) : (List.replicate n [Value.slice none 0 0]).flatten = List.replicate n (Value.slice none 0 0) := by
  induction n with
  | zero => rfl
  | succ n ih => simp only [List.replicate_succ, List.flatten_cons, ih]; rfl
theorem makeDeep_sound {P : Program} {s : St} (hS : Sim s) {t te : TypeId} {u : Ty} {bytes : Nat} (ht : P.underlying t = some (.slice te)) (he : tyb P (.sl u) te = true) (hby : (P.info? te).map (·.bytes) = some bytes) (hb0 : bytes ≠ 0) {k k' : IntKind} {l c : Int}
    (hlc : l = c) (h0 : 0 ≤ l) (h1 : l ≤ c) (h2 : c * bytes ≤ 140737488355328) {K : AV → Sto → Prop}
    (h : K (.vec s.σ.length) (s.σ ++ [.deep u (List.replicate c.toNat ([] : List u.T)) []])) : Runs P s (Instr.makeSlice t (.int k l) (.int k' c)) K := by
  obtain ⟨hrun, hcl⟩ := run_makeSlice (k := k) (k' := k') ht he (by show (1 : Nat) ≠ 0; decide) hby hb0 h0 h1 h2 (w := s.w)
  have hz : zcells (Ty.sl u) = [Value.slice none 0 0] := rfl
  rw [hz, flat_nils] at hrun
  have hlt : c.toNat ≤ 9223372036854775807 := by omega
  have hcell : ∀ (i : Nat) (v : Value), (List.replicate c.toNat (Value.slice none 0 0)).toArray[i]? = some v → v = .slice none 0 0 := by
    intro i v hv
    rw [List.getElem?_toArray, List.getElem?_replicate] at hv
    split at hv
    · cases hv; rfl
    · cases hv
  have hnoB : ∀ b, ¬ SlotB (Value.slice none 0 0) b := by rintro b ⟨a, len, cap, e, _⟩; cases e
  obtain ⟨hS2, j2⟩ := hS.new (m := ⟨some s.w.heap.size, c.toNat, c.toNat, .sl u, hlt⟩) (ob := .deep u (List.replicate c.toNat ([] : List u.T)) []) (w' := s.w.alloc (.cells (List.replicate c.toNat (Value.slice none 0 0)).toArray te)) keep_alloc (fun b hb => by cases hb; exact Nat.le_refl _)
    ⟨⟨some s.w.heap.size, c.toNat, c.toNat, .sl u, hlt⟩, upd_self, rfl, by simp, Nat.le_refl _, .inr ⟨s.w.heap.size, _, te, rfl, heap_alloc_new _ _, by simp, fun i ys hi => by
      have hil := (List.getElem?_eq_some_iff.1 hi).1
      rw [List.length_replicate] at hil
      rw [List.getElem?_replicate, if_pos hil] at hi
      cases hi
      refine ⟨Value.slice none 0 0, by rw [List.getElem?_toArray, List.getElem?_replicate, if_pos hil], fun _ => ⟨none, 0, rfl, Nat.le_refl _, by decide, .inl rfl⟩, fun j hj => (by cases hj)⟩⟩,
      fun blk c' el' i i' v v' b a1 a2 a3 a4 a5 a6 a7 a8 a9 a10 => by
        cases a1
        rw [heap_alloc_new] at a2
        cases a2
        have := hcell i v a7
        subst this
        exact (hnoB b a9).elim⟩
    (fun hs b h1 h2 => by
      obtain ⟨i, blk, c', el', v, a1, a2, a3, a4, a5, a6⟩ := h2
      cases a1
      rw [heap_alloc_new] at a2
      cases a2
      have := hcell i v a5
      subst this
      exact (hnoB b a6).elim)
  refine ⟨_, _, _, hrun, j2, hS2, ?_, h⟩
  rw [hlc]
  exact VV_vecI (m := ⟨some s.w.heap.size, c.toNat, c.toNat, .sl u, hlt⟩) upd_self (Nat.le_refl _) (.inr ⟨_, rfl, rfl⟩)
theorem close1_ok {s : St} {keep : List Nat} {id : Nat} {t : Ty} : ∀ (todo : List (Nat × Nat)) (xs : List (List t.T)) (hs : List (Nat × Nat)) (σ : Sto), Sim ⟨s.w, s.F, s.ρ, Sto.put σ id (.deep t xs (hs ++ todo))⟩ → J s ⟨s.w, s.F, s.ρ, Sto.put σ id (.deep t xs (hs ++ todo))⟩ → id < σ.length →
    Sim ⟨s.w, s.F, s.ρ, close1 keep id t todo xs hs σ⟩ ∧ J s ⟨s.w, s.F, s.ρ, close1 keep id t todo xs hs σ⟩ ∧ (close1 keep id t todo xs hs σ).length = σ.length
  | [], xs, hs, σ, hS, hJ, hid => by
    rw [List.append_nil] at hS hJ
    exact ⟨hS, hJ, length_put _ _ _⟩
  | p :: r, xs, hs, σ, hS, hJ, hid => by
    have e : hs ++ p :: r = hs ++ [p] ++ r := by simp
    have keepIt : Sim ⟨s.w, s.F, s.ρ, close1 keep id t r xs (hs ++ [p]) σ⟩ ∧ J s ⟨s.w, s.F, s.ρ, close1 keep id t r xs (hs ++ [p]) σ⟩ ∧ (close1 keep id t r xs (hs ++ [p]) σ).length = σ.length :=
      close1_ok r xs (hs ++ [p]) σ (by rw [← e]; exact hS) (by rw [← e]; exact hJ) hid
    rw [close1]
    split
    · rename_i u ys ex hg
      split
      · rename_i hu
        have hu' : u = t := by simpa using hu
        subst hu'
        cases hb : (mem p.2 keep || Nat.beq p.2 id) with
        | true => exact keepIt
        | false =>
          simp only [cond_false]
          rw [Bool.or_eq_false_iff] at hb
          have hne : p.2 ≠ id := fun h => by rw [h, Nat.beq_refl] at hb; cases hb.2
          have hg1 : Sto.get (Sto.put σ id (.deep u xs (hs ++ p :: r))) id = .deep u xs (hs ++ p :: r) := get_put_same hid
          have hg2 : Sto.get (Sto.put σ id (.deep u xs (hs ++ p :: r))) p.2 = .row u ys ex := by rw [get_put_ne hne]; exact hg
          obtain ⟨h1, h2⟩ := hS.takeBack (id := id) (i := p.1) (j := p.2) (hs' := hs ++ r) hg1 (by simp) hg2 hne (fun q hq => by
            rcases List.mem_append.1 hq with hq | hq
            · simp [hq]
            · simp [hq]) (fun q hq hn => by
            rcases List.mem_append.1 hq with hq | hq
            · simp [hq]
            · rcases List.mem_cons.1 hq with hq | hq
              · exact (hn hq).elim
              · simp [hq])
          have eσ : Sto.put (Sto.put (Sto.put σ id (.deep u xs (hs ++ p :: r))) p.2 .dead) id (.deep u (List.set xs p.1 ys) (hs ++ r)) = Sto.put (Sto.put σ p.2 .dead) id (.deep u (List.set xs p.1 ys) (hs ++ r)) := put_swap hne
          simp only [eσ] at h1 h2
          obtain ⟨g1, g2, g3⟩ := close1_ok r (List.set xs p.1 ys) hs (Sto.put σ p.2 .dead) h1 (hJ.trans h2) (by rw [length_put]; exact hid)
          exact ⟨g1, g2, g3.trans (length_put _ _ _)⟩
      · exact keepIt
    · exact keepIt
theorem put_get : ∀ {σ : Sto} {id : Nat}, id < σ.length → Sto.put σ id (Sto.get σ id) = σ
  | [], _, h => by simp at h
  | _ :: _, 0, _ => rfl
  | _ :: σ, n + 1, h => by simp only [Sto.put, Sto.get]; rw [put_get (by simpa using h)]
theorem closeL_ok {s : St} {keep : List Nat} : ∀ (L : List Nat) (σ : Sto), Sim ⟨s.w, s.F, s.ρ, σ⟩ → J s ⟨s.w, s.F, s.ρ, σ⟩ → Sim ⟨s.w, s.F, s.ρ, closeL keep L σ⟩ ∧ J s ⟨s.w, s.F, s.ρ, closeL keep L σ⟩ ∧ (closeL keep L σ).length = σ.length
  | [], σ, hS, hJ => ⟨hS, hJ, rfl⟩
  | id :: r, σ, hS, hJ => by
    rw [closeL]
    split
    · rename_i t xs p hs hg
      have hid : id < σ.length := get_lt (by rw [hg]; rfl)
      have hp : Sto.put σ id (.deep t xs ([] ++ p :: hs)) = σ := by rw [List.nil_append, ← hg]; exact put_get hid
      obtain ⟨h1, h2, h3⟩ := close1_ok (s := s) (keep := keep) (id := id) (p :: hs) xs [] σ (by rw [hp]; exact hS) (by rw [hp]; exact hJ) hid
      obtain ⟨g1, g2, g3⟩ := closeL_ok r _ h1 h2
      exact ⟨g1, g2, g3.trans h3⟩
    · exact closeL_ok r σ hS hJ
theorem closeS_ok {s : St} (hS : Sim s) {m : Nat} {roots : List Nat} : Sim ⟨s.w, s.F, s.ρ, closeS m roots s.σ⟩ ∧ J s ⟨s.w, s.F, s.ρ, closeS m roots s.σ⟩ ∧ (closeS m roots s.σ).length = s.σ.length := by
  unfold closeS
  cases hasDeep s.σ with
  | true => exact closeL_ok _ _ hS (.refl s)
  | false => exact ⟨hS, .refl s, rfl⟩
end Go.Abs
