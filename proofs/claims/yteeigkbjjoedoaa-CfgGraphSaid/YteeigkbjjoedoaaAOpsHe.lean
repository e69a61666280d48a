/- Rows of rows that are written: append, composite literals. -/
import Derived.Test.YteeigkbjjoedoaaAOpsHd
set_option linter.unusedVariables false
set_option linter.unusedSimpArgs false
namespace Go.Abs
theorem Sim.regroup {s : St} (hS : Sim s) {σd : Sto} {dead : List Nat} (hlen : σd.length = s.σ.length) (hget : ∀ k, Sto.get σd k = .dead ∨ (k ∉ dead ∧ Sto.get σd k = Sto.get s.σ k))
    {w' : World} (hk : Keep (fun b => ∃ id ∈ dead, s.owns id b ∧ ∃ m, s.ρ id = some m ∧ m.blk = some b) s.w w') {m' : Meta} {t : Ty} {xs : List (List t.T)} {hs : List (Nat × Nat)}
    (hblk : ∀ b, m'.blk = some b → (∃ id ∈ dead, s.owns id b) ∨ s.w.heap.size ≤ b) (hob : ObR w' s.F (upd s.ρ s.σ.length m') s.σ.length (.deep t xs hs)) (hin : ∀ b, Inner w' m' hs b → (∃ id ∈ dead, s.owns id b) ∧ m'.blk ≠ some b) :
    Sim ⟨w', s.F, upd s.ρ s.σ.length m', σd ++ [.deep t xs hs]⟩ ∧ J s ⟨w', s.F, upd s.ρ s.σ.length m', σd ++ [.deep t xs hs]⟩ := by
  have hO : ∀ b, (∃ id ∈ dead, s.owns id b ∧ ∃ m, s.ρ id = some m ∧ m.blk = some b) → s.own b := fun b ⟨id, _, h, _⟩ => ⟨id, h⟩
  have hsame : Same s.F s.w w' := fun b hb => hk.block b (hS.inF b hb) fun h => hS.notF b (hO b h) hb
  have hold : ∀ j b, j ∉ dead → s.owns j b → w'.heap[b]? = s.w.heap[b]? := fun j b hj h => hk.block b ((hS.obj j).ltO h) fun ⟨id, h1, h2, _⟩ => hj (by rw [hS.sepO j id b h h2]; exact h1)
  have get1 : ∀ k, k < s.σ.length → Sto.get (σd ++ [.deep t xs hs]) k = Sto.get σd k := fun k hk => get_append_lt (by rw [hlen]; exact hk)
  have getn : Sto.get (σd ++ [.deep t xs hs]) s.σ.length = .deep t xs hs := by rw [get_append_ge (by rw [hlen]; exact Nat.le_refl _), hlen, Nat.sub_self]; rfl
  have key : ∀ k b, OwnsO w' (upd s.ρ s.σ.length m') k (Sto.get (σd ++ [.deep t xs hs]) k) b → (k < s.σ.length ∧ k ∉ dead ∧ s.owns k b) ∨ (k = s.σ.length ∧ ((∃ id ∈ dead, s.owns id b) ∨ s.w.heap.size ≤ b)) := by
    intro k b h
    by_cases hk : k < s.σ.length
    · rw [get1 k hk] at h
      rcases hget k with h1 | ⟨h1, h2⟩
      · rw [h1] at h; cases h.1
      · rw [h2] at h
        exact .inl ⟨hk, h1, OwnsO.back h (fun m hm => by rwa [upd_lt hk] at hm) fun m q hm hq => hold k q h1 (.main h.1 hm hq)⟩
    · by_cases h2 : k = s.σ.length
      · subst h2
        rw [getn] at h
        obtain ⟨_, m, e1, e2⟩ := h
        rw [upd_self] at e1; cases e1
        rcases e2 with e2 | ⟨hs', e3, e4⟩
        · exact .inr ⟨rfl, hblk b e2⟩
        · cases e3; exact .inr ⟨rfl, .inl (hin b e4).1⟩
      · rw [get_ge (by simp [hlen]; omega)] at h; cases h.1
  refine hS.alter _ hk hO rfl (fun k hk => upd_lt hk) (by simp [hlen]) (fun k m hm => ?_) (fun k => ?_) (fun k b h => ?_) (fun k k' b h h' => ?_) fun k m hs' b h1 h2 h3 h4 h5 => ?_
  · simp only [upd] at hm
    simp [hlen]
    split at hm
    · omega
    · have := hS.dom k m hm; omega
  · by_cases hk : k < s.σ.length
    · rw [get1 k hk]
      rcases hget k with h1 | ⟨h1, h2⟩
      · rw [h1]; trivial
      · rw [h2]
        exact (hS.obj k).mono hsame (fun _ h => h) (upd_mono hS m') fun b hb => hold k b h1 hb
    · by_cases h2 : k = s.σ.length
      · subst h2; rw [getn]; exact hob
      · rw [get_ge (by simp [hlen]; omega)]; trivial
  · rcases key k b h with h | h
    · exact .inl ⟨k, h.2.2⟩
    · exact h.2.imp (fun ⟨id, _, h⟩ => ⟨id, h⟩) fun h => h
  · rcases key k b h with ⟨a1, a2, a3⟩ | ⟨a1, a2⟩ <;> rcases key k' b h' with ⟨c1, c2, c3⟩ | ⟨c1, c2⟩
    · exact hS.sepO k k' b a3 c3
    · rcases c2 with ⟨id, d1, d2⟩ | c2
      · exact (a2 (by rw [hS.sepO k id b a3 d2]; exact d1)).elim
      · have := (hS.obj k).ltO a3; omega
    · rcases a2 with ⟨id, d1, d2⟩ | a2
      · exact (c2 (by rw [hS.sepO k' id b c3 d2]; exact d1)).elim
      · have := (hS.obj k').ltO c3; omega
    · omega
  · by_cases hk : k < s.σ.length
    · rw [get1 k hk] at h1 h3
      rw [upd_lt hk] at h2
      rcases hget k with g1 | ⟨g1, g2⟩
      · rw [g1] at h1; cases h1
      · rw [g2] at h1 h3
        exact hS.selfO k m hs' b h1 h2 h3 h4 (h5.back fun q hq => hold k q g1 (.main h1 h2 hq))
    · by_cases h2' : k = s.σ.length
      · subst h2'
        rw [getn] at h3
        cases h3
        rw [upd_self] at h2; cases h2
        exact (hin b h5).2 h4
      · rw [get_ge (by simp [hlen]; omega)] at h1; cases h1
structure HdrRow (w : World) (F : Nat → Prop) (ρ : Map) (t : Ty) (xs : List (List t.T)) (hs : List (Nat × Nat)) (vs : List Value) : Prop where
  len : vs.length = xs.length
  one : ∀ v ∈ vs, v.oneCell' = true
  slot : ∀ (i : Nat) (ys : List t.T) (v : Value), xs[i]? = some ys → vs[i]? = some v → (Free hs i → SlotR w F t ys v) ∧ ∀ j, (i, j) ∈ hs → ∃ mj, ρ j = some mj ∧ mj.ty = t ∧ HdrOf mj v
theorem slot_one {w : World} {F : Nat → Prop} {ρ : Map} {t : Ty} {ys : List t.T} {hs : List (Nat × Nat)} {i : Nat} {v : Value} (h : (Free hs i → SlotR w F t ys v) ∧ ∀ j, (i, j) ∈ hs → ∃ mj, ρ j = some mj ∧ mj.ty = t ∧ HdrOf mj v) : v.oneCell' = true := by
  by_cases hf : Free hs i
  · obtain ⟨a, cap, rfl, _⟩ := h.1 hf; rfl
  · have : ∃ j, (i, j) ∈ hs := Classical.byContradiction fun h2 => hf fun j hj => h2 ⟨j, hj⟩
    obtain ⟨j, hj⟩ := this
    obtain ⟨mj, _, _, a, rfl, _⟩ := h.2 j hj; rfl
theorem deep_row {s : St} (hS : Sim s) {id : Nat} {t : Ty} {xs : List (List t.T)} {hs : List (Nat × Nat)} (hg : Sto.get s.σ id = .deep t xs hs) {m : Meta} (hm : s.ρ id = some m) :
    ∃ vs, HdrRow s.w s.F s.ρ t xs hs vs ∧ m.ty = .sl t ∧ m.len = xs.length ∧ m.len ≤ m.tot ∧ (m.blk = none → m.tot = 0) ∧ (∀ b, m.blk = some b → ∃ c el, s.w.heap[b]? = some (.cells c el (0, 0)) ∧ m.tot ≤ c.size ∧ vs <+: c.toList) ∧
      (∀ b, m.blk = some b → ∀ (i : Nat) v b1, vs[i]? = some v → Free hs i → SlotB v b1 → Inner s.w m hs b1) ∧ (∀ b, m.blk = some b → ∀ (i i' : Nat) v v' b1, vs[i]? = some v → vs[i']? = some v' → Free hs i → Free hs i' → SlotB v b1 → SlotB v' b1 → i = i') := by
  have ho := hS.obj id
  rw [hg] at ho
  obtain ⟨m', k1, k2, k3, k4, k5, k6⟩ := ho
  rw [hm] at k1; cases k1
  rcases k5 with ⟨k5, k7⟩ | ⟨b, c, el, j1, j2, j3, j4⟩
  · have hx : xs = [] := List.eq_nil_of_length_eq_zero (by omega)
    subst hx
    refine ⟨[], ⟨rfl, by simp, fun i ys v h => by simp at h⟩, k2, k3, k4, (fun _ => k7), (fun b hb => by rw [hb] at k5; cases k5), (fun b hb => by rw [hb] at k5; cases k5), (fun b hb => by rw [hb] at k5; cases k5)⟩
  · have hvl : (c.toList.take xs.length).length = xs.length := by have hcl : c.toList.length = c.size := Array.length_toList; rw [List.length_take, hcl]; omega
    have hvg : ∀ i v, (c.toList.take xs.length)[i]? = some v → i < xs.length ∧ c[i]? = some v := fun i v h => by
      have hi := (List.getElem?_eq_some_iff.1 h).1
      rw [hvl] at hi
      rw [List.getElem?_take, if_pos hi, Array.getElem?_toList] at h
      exact ⟨hi, h⟩
    have hslot : ∀ (i : Nat) (ys : List t.T) (v : Value), xs[i]? = some ys → (c.toList.take xs.length)[i]? = some v → (Free hs i → SlotR s.w s.F t ys v) ∧ ∀ j, (i, j) ∈ hs → ∃ mj, s.ρ j = some mj ∧ mj.ty = t ∧ HdrOf mj v := fun i ys v h1 h2 => by
      obtain ⟨v', g1, g2⟩ := j4 i ys h1
      rw [(hvg i v h2).2] at g1; cases g1
      exact g2
    refine ⟨c.toList.take xs.length, ⟨hvl, fun v hv => ?_, hslot⟩, k2, k3, k4, (fun h => by rw [j1] at h; cases h), fun b' hb' => ?_, fun b' hb' i v b1 h1 h2 h3 => ?_, fun b' hb' i i' v v' b1 h1 h2 h3 h4 h5 h6 => ?_⟩
    · obtain ⟨i, hi⟩ := List.getElem?_of_mem hv
      have hil := (hvg i v hi).1
      exact slot_one (hslot i _ v (List.getElem?_eq_getElem hil) hi)
    · rw [j1] at hb'; cases hb'
      exact ⟨c, el, j2, j3, List.take_prefix _ _⟩
    · rw [j1] at hb'; cases hb'
      obtain ⟨g1, g2⟩ := hvg i v h1
      exact ⟨i, b, c, el, v, j1, j2, by omega, h2, g2, h3⟩
    · rw [j1] at hb'; cases hb'
      obtain ⟨g1, g2⟩ := hvg i v h1
      obtain ⟨g3, g4⟩ := hvg i' v' h2
      exact k6 b c el i i' v v' b1 j1 j2 (by omega) (by omega) h3 h4 g2 g4 h5 h6
theorem deep_fresh {s : St} (hS : Sim s) {σd : Sto} {dead : List Nat} (hlen : σd.length = s.σ.length) (hget : ∀ k, Sto.get σd k = .dead ∨ (k ∉ dead ∧ Sto.get σd k = Sto.get s.σ k))
    {w' : World} (hk : Keep (fun b => ∃ id ∈ dead, s.owns id b ∧ ∃ m, s.ρ id = some m ∧ m.blk = some b) s.w w') {t : Ty} {xs : List (List t.T)} {hs : List (Nat × Nat)} {vs : List Value} (hv : HdrRow s.w s.F s.ρ t xs hs vs)
    {m' : Meta} (e1 : m'.ty = .sl t) (e2 : m'.len = xs.length) (e3 : m'.len ≤ m'.tot) {b' : Nat} (e4 : m'.blk = some b') {c' : Array Value} {el : TypeId} (e5 : w'.heap[b']? = some (.cells c' el (0, 0))) (e6 : m'.tot ≤ c'.size) (e7 : vs <+: c'.toList)
    (hb' : (∃ id ∈ dead, s.owns id b' ∧ ∃ m, s.ρ id = some m ∧ m.blk = some b') ∨ s.w.heap.size ≤ b')
    (hsrc : ∀ (i : Nat) v b, vs[i]? = some v → Free hs i → SlotB v b → ∃ id ∈ dead, ∃ m hs0, isLive (Sto.get s.σ id) = true ∧ s.ρ id = some m ∧ holesOf (Sto.get s.σ id) = some hs0 ∧ Inner s.w m hs0 b)
    (hdist : ∀ (i i' : Nat) v v' b, vs[i]? = some v → vs[i']? = some v' → Free hs i → Free hs i' → SlotB v b → SlotB v' b → i = i') :
    Sim ⟨w', s.F, upd s.ρ s.σ.length m', σd ++ [.deep t xs hs]⟩ ∧ J s ⟨w', s.F, upd s.ρ s.σ.length m', σd ++ [.deep t xs hs]⟩ := by
  have hO : ∀ b, (∃ id ∈ dead, s.owns id b ∧ ∃ m, s.ρ id = some m ∧ m.blk = some b) → s.own b := fun b ⟨id, _, h, _⟩ => ⟨id, h⟩
  have hsame : Same s.F s.w w' := fun b hb => hk.block b (hS.inF b hb) fun h => hS.notF b (hO b h) hb
  have hown : ∀ id m hs0 b, isLive (Sto.get s.σ id) = true → s.ρ id = some m → holesOf (Sto.get s.σ id) = some hs0 → Inner s.w m hs0 b → s.owns id b := fun id m hs0 b h1 h2 h3 h4 => ⟨h1, m, h2, .inr ⟨hs0, h3, h4⟩⟩
  have hnm : ∀ id m hs0 b, isLive (Sto.get s.σ id) = true → s.ρ id = some m → holesOf (Sto.get s.σ id) = some hs0 → Inner s.w m hs0 b → ∀ id' m2, s.owns id' b → s.ρ id' = some m2 → m2.blk ≠ some b := by
    intro id m hs0 b h1 h2 h3 h4 id' m2 h5 h6 h7
    have := hS.sepO id' id b h5 (hown id m hs0 b h1 h2 h3 h4)
    subst this
    rw [h2] at h6; cases h6
    exact hS.selfO id' m hs0 b h1 h2 h3 h7 h4
  have hheap : ∀ (i : Nat) v b, vs[i]? = some v → Free hs i → SlotB v b → w'.heap[b]? = s.w.heap[b]? := by
    intro i v b h1 h2 h3
    obtain ⟨id, d1, m, hs0, d2, d3, d4, d5⟩ := hsrc i v b h1 h2 h3
    exact hk.block b ((hS.obj id).ltO (hown id m hs0 b d2 d3 d4 d5)) fun ⟨id', _, g2, m2, g3, g4⟩ => hnm id m hs0 b d2 d3 d4 d5 id' m2 g2 g3 g4
  have hcg : ∀ (i : Nat) v, i < m'.len → c'[i]? = some v → vs[i]? = some v := by
    intro i v h1 h2
    obtain ⟨r, hr⟩ := e7
    rw [← Array.getElem?_toList, ← hr, List.getElem?_append_left (by rw [hv.len, ← e2]; exact h1)] at h2
    exact h2
  have hgc : ∀ (i : Nat) v, vs[i]? = some v → c'[i]? = some v := by
    intro i v h1
    obtain ⟨r, hr⟩ := e7
    rw [← Array.getElem?_toList, ← hr, List.getElem?_append_left (List.getElem?_eq_some_iff.1 h1).1]
    exact h1
  refine hS.regroup hlen hget hk (fun b hb => ?_) ⟨m', upd_self, e1, e2, e3, .inr ⟨b', c', el, e4, e5, e6, fun i ys hi => ?_⟩, fun blk c el' i i' v v' b a1 a2 a3 a4 a5 a6 a7 a8 a9 a10 => ?_⟩ fun b hb => ?_
  · rw [e4] at hb; cases hb
    exact hb'.imp (fun ⟨id, h1, h2, _⟩ => ⟨id, h1, h2⟩) fun h => h
  · have hil := (List.getElem?_eq_some_iff.1 hi).1
    have hvi : vs[i]? = some (vs[i]'(by rw [hv.len]; exact hil)) := List.getElem?_eq_getElem _
    obtain ⟨g1, g2⟩ := hv.slot i ys _ hi hvi
    refine ⟨_, hgc i _ hvi, fun hf => (g1 hf).mono hsame (fun _ h => h) fun b hb => hheap i _ b hvi hf hb, fun j hj => ?_⟩
    obtain ⟨mj, q1, q2, q3⟩ := g2 j hj
    exact ⟨mj, upd_mono hS m' _ _ q1, q2, q3⟩
  · rw [e4] at a1; cases a1
    rw [e5] at a2; cases a2
    exact hdist i i' v v' b (hcg i v a3 a7) (hcg i' v' a4 a8) a5 a6 a9 a10
  · obtain ⟨i, blk, c, el', v, a1, a2, a3, a4, a5, a6⟩ := hb
    rw [e4] at a1; cases a1
    rw [e5] at a2; cases a2
    obtain ⟨id, d1, m, hs0, d2, d3, d4, d5⟩ := hsrc i v b (hcg i v a3 a5) a4 a6
    have ho := hown id m hs0 b d2 d3 d4 d5
    refine ⟨⟨id, d1, ho⟩, fun h => ?_⟩
    rw [e4] at h; cases h
    rcases hb' with ⟨id', _, g2, m2, g3, g4⟩ | h
    · exact hnm id m hs0 b' d2 d3 d4 d5 id' m2 g2 g3 g4
    · have := (hS.obj id).ltO ho; omega
theorem mem_shift {n k j : Nat} : ∀ {hs : List (Nat × Nat)}, (k, j) ∈ shiftH n hs ↔ ∃ i, k = n + i ∧ (i, j) ∈ hs
  | [] => by simp [shiftH]
  | p :: r => by
    rw [shiftH, List.mem_cons, mem_shift]
    constructor
    · rintro (h | ⟨i, h1, h2⟩)
      · cases h; exact ⟨p.1, rfl, by simp⟩
      · exact ⟨i, h1, by simp [h2]⟩
    · rintro ⟨i, h1, h2⟩
      rcases List.mem_cons.1 h2 with h2 | h2
      · left; rw [h1, ← h2]
      · exact .inr ⟨i, h1, h2⟩
theorem HdrRow.append {w : World} {F : Nat → Prop} {ρ : Map} {t : Ty} {xs ys : List (List t.T)} {hx hy : List (Nat × Nat)} {vs us : List Value} (h1 : HdrRow w F ρ t xs hx vs) (h2 : HdrRow w F ρ t ys hy us) (hlt : ∀ p ∈ hx, p.1 < xs.length) :
    HdrRow w F ρ t (xs ++ ys) (hx ++ shiftH xs.length hy) (vs ++ us) := by
  refine ⟨by simp [h1.len, h2.len], fun v hv => by rcases List.mem_append.1 hv with hv | hv; exact h1.one v hv; exact h2.one v hv, fun i zs v hi hv => ?_⟩
  by_cases hil : i < xs.length
  · rw [List.getElem?_append_left hil] at hi
    rw [List.getElem?_append_left (by rw [h1.len]; exact hil)] at hv
    obtain ⟨g1, g2⟩ := h1.slot i zs v hi hv
    refine ⟨fun hf => g1 fun j hj => hf j (List.mem_append_left _ hj), fun j hj => ?_⟩
    rcases List.mem_append.1 hj with hj | hj
    · exact g2 j hj
    · obtain ⟨k, hk, _⟩ := mem_shift.1 hj; omega
  · rw [List.getElem?_append_right (by omega)] at hi
    rw [List.getElem?_append_right (by rw [h1.len]; omega), h1.len] at hv
    obtain ⟨g1, g2⟩ := h2.slot (i - xs.length) zs v hi hv
    refine ⟨fun hf => g1 fun j hj => hf j (List.mem_append_right _ (mem_shift.2 ⟨_, by omega, hj⟩)), fun j hj => ?_⟩
    rcases List.mem_append.1 hj with hj | hj
    · have := hlt _ hj; omega
    · obtain ⟨k, hk, hkj⟩ := mem_shift.1 hj
      rw [show i - xs.length = k by omega] at g2
      exact g2 j hkj
theorem deep_src {P : Program} {s : St} (hS : Sim s) {id : Nat} {t : Ty} {xs : List (List t.T)} {hs : List (Nat × Nat)} (hg : Sto.get s.σ id = .deep t xs hs) {c : Value} (hc : s.vv (.vec id) c) :
    ∃ m a vs, c = .slice a m.len m.tot ∧ s.ρ id = some m ∧ m.ty = .sl t ∧ m.len = xs.length ∧ m.len ≤ m.tot ∧ (m.tot = 0 ∨ ∃ b, m.blk = some b ∧ a = some ⟨b, 0, none⟩) ∧ HdrRow s.w s.F s.ρ t xs hs vs ∧
      (∀ b, m.blk = some b → ∃ c el, s.w.heap[b]? = some (.cells c el (0, 0)) ∧ m.tot ≤ c.size ∧ vs <+: c.toList) ∧
      (∀ (i : Nat) v b1, vs[i]? = some v → Free hs i → SlotB v b1 → Inner s.w m hs b1) ∧ (∀ (i i' : Nat) v v' b1, vs[i]? = some v → vs[i']? = some v' → Free hs i → Free hs i' → SlotB v b1 → SlotB v' b1 → i = i') ∧
      (∀ w, (Builtin.lenOf c).run P w = .ok xs.length w) ∧ ∀ w, (∀ a, w.cell? a = s.w.cell? a) → (Builtin.firstCells 1 xs.length c).run P w = .ok vs.toArray w := by
  obtain ⟨m, a, rfl, hm, hle, ha⟩ := VV_vec hc
  obtain ⟨vs, g1, g2, g3, g4, g5, g6, g7, g8⟩ := deep_row hS hg hm
  have hb : ∀ (i : Nat) v, vs[i]? = some v → ∃ b, m.blk = some b := by
    intro i v h
    have := (List.getElem?_eq_some_iff.1 h).1
    rw [g1.len, ← g3] at this
    rcases ha with ha | ⟨b, hb, _⟩
    · omega
    · exact ⟨b, hb⟩
  refine ⟨m, a, vs, rfl, hm, g2, g3, g4, ha, g1, g6, fun i v b1 h1 h2 h3 => ?_, fun i i' v v' b1 h1 h2 h3 h4 h5 h6 => ?_, fun w => by rw [← g3]; rfl, fun w hw => ?_⟩
  · obtain ⟨b, hb⟩ := hb i v h1
    exact g7 b hb i v b1 h1 h2 h3
  · obtain ⟨b, hb⟩ := hb i v h1
    exact g8 b hb i i' v v' b1 h1 h2 h3 h4 h5 h6
  · by_cases h0 : xs.length = 0
    · have hv0 : vs = [] := List.eq_nil_of_length_eq_zero (by rw [g1.len]; exact h0)
      rw [h0, hv0]
      cases a <;> simp [Builtin.firstCells, loadCells, loadCellsFrom]
    · rcases ha with ha | ⟨b, hb, rfl⟩
      · omega
      · obtain ⟨c, el, e1, e2, e3⟩ := g6 b hb
        have hA : At s.w ⟨b, 0, none⟩ vs := at_of_prefix e1 e3
        have := run_loadCells_list (P := P) w ⟨b, 0, none⟩ vs (fun j v hj => (hw _).trans (hA j v hj))
        rw [g1.len] at this
        simpa [Builtin.firstCells] using this
theorem ltK_prop {n : Nat} {K : Prop} : ∀ {hs : List (Nat × Nat)}, ltK (fun _ => False) n K hs → K ∧ ∀ p ∈ hs, p.1 < n
  | [], h => ⟨h, fun p hp => by cases hp⟩
  | p :: r, h => by
    rcases br_prop h with ⟨hc, h⟩ | ⟨_, h⟩
    · obtain ⟨h1, h2⟩ := ltK_prop h
      exact ⟨h1, fun q hq => by
        rcases List.mem_cons.1 hq with hq | hq
        · rw [hq]; exact of_decide_eq_true hc
        · exact h2 q hq⟩
    · exact h.elim
theorem prefix_take {α : Type} {vs l : List α} (h : vs <+: l) : l.take vs.length = vs := by
  obtain ⟨r, rfl⟩ := h
  rw [List.take_left']
  rfl
section
variable {P : Program} {t t2 ty te : TypeId} {u : Ty} {bytes : Nat}
theorem appD_sound {s : St} (hS : Sim s) (ht : P.underlying t = some (.slice te)) (he : tyb P (.sl u) te = true) (h2 : NotInt P t2) (hby : (P.info? te).map (·.bytes) = some bytes) (hb0 : bytes ≠ 0)
    {sv xv : AV} {sc xc : Value} (hs : s.vv sv sc) (hx : s.vv xv xc) {K : AV → Sto → Prop} (h : appD (fun _ => False) s.σ u bytes sv xv K) : Runs P s (Builtin.append_ #[t, t2] ty #[sc, xc]) K := by
  unfold appD at h
  split at h <;> try exact h.elim
  rename_i id2
  split at h <;> try exact h.elim
  rename_i u2 ys hy hg2
  split at h <;> try exact h.elim
  rename_i hu
  have hu' : u2 = u := by simpa using hu
  subst hu'
  dsimp only [cst] at h
  obtain ⟨m2, a2, vs2, hc2, hm2, hty2, hlen2, hle2, ha2, hr2, hblk2, hin2, hds2, hlo2, hfc2⟩ := deep_src (P := P) hS hg2 hx
  have hl2 : isLive (Sto.get s.σ id2) = true := by rw [hg2]; rfl
  have hcsz : (Ty.sl u2).csz = 1 := rfl
  have hfc : (Builtin.firstCells (Ty.sl u2).csz ys.length xc).run P s.w = .ok vs2.toArray s.w := hfc2 s.w fun _ => rfl
  have hfcd : (Builtin.firstCells (Ty.sl u2).csz ys.length xc).run P s.w.drew = .ok vs2.toArray s.w.drew := hfc2 s.w.drew fun _ => rfl
  have empty : ∀ {base : Option Addr} {sLen sCap : Nat}, sLen ≤ sCap → sc = .slice base sLen sCap → ys.isEmpty = true → K sv s.σ → Runs P s (Builtin.append_ #[t, t2] ty #[sc, xc]) K := by
    intro base sLen sCap hle e h0 hK
    have hy0 : ys = [] := by simpa using h0
    subst hy0
    have hv0 : vs2 = [] := List.eq_nil_of_length_eq_zero (by rw [hr2.len]; rfl)
    subst hv0
    subst e
    have := run_append_room' (ty := ty) (base := base) (sLen := sLen) (sCap := sCap) ht he h2 (hlo2 s.w) hfc (by simpa using hle) (w' := s.w) (fun a _ => rfl) (fun _ => rfl)
    exact ⟨sv, _, s, by simpa using this, .refl s, hS, hs, hK⟩
  split at h <;> try exact h.elim
  · rename_i w
    have hc := VV_nils hs
    cases hw : w == Ty.sl u2 with
    | false => rw [hw] at h; exact h.elim
    | true =>
    rw [hw] at h
    dsimp only [cond_true] at h
    rcases br_prop h with ⟨h0, h⟩ | ⟨h0, h⟩
    · exact empty (Nat.le_refl _) hc h0 h
    rcases br_prop h with ⟨h1, h⟩ | ⟨_, h⟩
    rotate_left
    · exact h.elim
    subst hc
    have hpos := isEmpty_false h0
    obtain ⟨c, zs, q1, q2, q3, q4⟩ := run_append_grow' (ty := ty) (base := none) (sLen := 0) (sCap := 0) ht he h2 hby hb0 (hlo2 s.w) hfcd (by omega) (by simpa using roomB_le h1) (olds := []) rfl
    obtain ⟨hS', j⟩ := deep_fresh hS (σd := Sto.put s.σ id2 .dead) (dead := [id2]) (length_put _ _ _) (fun k => by
        by_cases hk : k = id2
        · subst hk; exact .inl (get_put_same (get_lt hl2))
        · exact .inr ⟨by simpa using hk, get_put_ne hk⟩) (w' := s.w.drew.alloc (.cells ([] ++ vs2 ++ zs).toArray te)) (((keep_drew (O := fun _ => False)).trans keep_alloc).mono fun _ h => h.elim) hr2
      (m' := ⟨some s.w.heap.size, 0 + ys.length, c, .sl u2, q2⟩) rfl (Nat.zero_add _) q1 rfl (heap_alloc_new s.w.drew _) (by simp only [List.size_toArray, List.length_append, hr2.len, q3, hcsz, List.length_nil]; omega) ⟨zs, by simp⟩ (.inr (Nat.le_refl _))
      (fun i v b e1 e2 e3 => ⟨id2, by simp, m2, hy, hl2, hm2, by rw [hg2]; rfl, hin2 i v b e1 e2 e3⟩) hds2
    exact ⟨.vec s.σ.length, _, _, q4, j, hS', VV_vecI (m := ⟨some s.w.heap.size, 0 + ys.length, c, .sl u2, q2⟩) upd_self q1 (.inr ⟨s.w.heap.size, rfl, rfl⟩), h⟩
  · rename_i id
    split at h <;> try exact h.elim
    rename_i u1 xs hx1 hg1
    split at h <;> try exact h.elim
    rename_i hu1
    have hu1' : u1 = u2 := by simpa using hu1
    subst hu1'
    dsimp only [cst] at h
    obtain ⟨m1, a1, vs1, hc1, hm1, hty1, hlen1, hle1, ha1, hr1, hblk1, hin1, hds1, hlo1, hfc1⟩ := deep_src (P := P) hS hg1 hs
    have hl1 : isLive (Sto.get s.σ id) = true := by rw [hg1]; rfl
    cases hne : Nat.beq id id2 with
    | true => rw [hne] at h; exact h.elim
    | false =>
    rw [hne] at h
    dsimp only [cond_false] at h
    have hne' : id ≠ id2 := fun e => by rw [e, Nat.beq_refl] at hne; cases hne
    rcases br_prop h with ⟨h0, h⟩ | ⟨h0, h⟩
    · exact empty hle1 hc1 h0 h
    rcases br_prop h with ⟨h1, h⟩ | ⟨_, h⟩
    rotate_left
    · exact h.elim
    obtain ⟨h, hlt⟩ := ltK_prop h
    have hpos := isEmpty_false h0
    have hvl1 : vs1.length = m1.len := by rw [hr1.len, hlen1]
    have hsrc : ∀ (i : Nat) v b, (vs1 ++ vs2)[i]? = some v → Free (hx1 ++ shiftH xs.length hy) i → SlotB v b → (i < xs.length ∧ Inner s.w m1 hx1 b ∧ vs1[i]? = some v ∧ Free hx1 i) ∨ (xs.length ≤ i ∧ Inner s.w m2 hy b ∧ vs2[i - xs.length]? = some v ∧ Free hy (i - xs.length)) := by
      intro i v b e1 e2 e3
      by_cases hi : i < xs.length
      · rw [List.getElem?_append_left (by rw [hr1.len]; exact hi)] at e1
        have hf : Free hx1 i := fun j hj => e2 j (List.mem_append_left _ hj)
        exact .inl ⟨hi, hin1 i v b e1 hf e3, e1, hf⟩
      · rw [List.getElem?_append_right (by rw [hr1.len]; omega), hr1.len] at e1
        have hf : Free hy (i - xs.length) := fun j hj => e2 j (List.mem_append_right _ (mem_shift.2 ⟨_, by omega, hj⟩))
        exact .inr ⟨by omega, hin2 _ v b e1 hf e3, e1, hf⟩
    have ho1 : ∀ b, Inner s.w m1 hx1 b → s.owns id b := fun b hb => ⟨hl1, m1, hm1, .inr ⟨hx1, by rw [hg1]; rfl, hb⟩⟩
    have ho2 : ∀ b, Inner s.w m2 hy b → s.owns id2 b := fun b hb => ⟨hl2, m2, hm2, .inr ⟨hy, by rw [hg2]; rfl, hb⟩⟩
    have hsrc' : ∀ (i : Nat) v b, (vs1 ++ vs2)[i]? = some v → Free (hx1 ++ shiftH xs.length hy) i → SlotB v b → ∃ k ∈ [id, id2], ∃ m hs0, isLive (Sto.get s.σ k) = true ∧ s.ρ k = some m ∧ holesOf (Sto.get s.σ k) = some hs0 ∧ Inner s.w m hs0 b := by
      intro i v b e1 e2 e3
      rcases hsrc i v b e1 e2 e3 with ⟨_, e4, _⟩ | ⟨_, e4, _⟩
      · exact ⟨id, by simp, m1, hx1, hl1, hm1, by rw [hg1]; rfl, e4⟩
      · exact ⟨id2, by simp, m2, hy, hl2, hm2, by rw [hg2]; rfl, e4⟩
    have hdist : ∀ (i i' : Nat) v v' b, (vs1 ++ vs2)[i]? = some v → (vs1 ++ vs2)[i']? = some v' → Free (hx1 ++ shiftH xs.length hy) i → Free (hx1 ++ shiftH xs.length hy) i' → SlotB v b → SlotB v' b → i = i' := by
      intro i i' v v' b e1 e2 e3 e4 e5 e6
      rcases hsrc i v b e1 e3 e5 with ⟨p1, p2, p3, p4⟩ | ⟨p1, p2, p3, p4⟩ <;> rcases hsrc i' v' b e2 e4 e6 with ⟨q1, q2, q3, q4⟩ | ⟨q1, q2, q3, q4⟩
      · exact hds1 i i' v v' b p3 q3 p4 q4 e5 e6
      · exact (hne' (hS.sepO id id2 b (ho1 b p2) (ho2 b q2))).elim
      · exact (hne' (hS.sepO id id2 b (ho1 b q2) (ho2 b p2))).elim
      · have := hds2 _ _ v v' b p3 q3 p4 q4 e5 e6; omega
    have hlenp : (Sto.put (Sto.put s.σ id .dead) id2 .dead).length = s.σ.length := by rw [length_put, length_put]
    have hget : ∀ k, Sto.get (Sto.put (Sto.put s.σ id .dead) id2 .dead) k = .dead ∨ (k ∉ [id, id2] ∧ Sto.get (Sto.put (Sto.put s.σ id .dead) id2 .dead) k = Sto.get s.σ k) := by
      intro k
      by_cases hk : k = id2
      · subst hk; exact .inl (get_put_same (by rw [length_put]; exact get_lt hl2))
      · by_cases hk1 : k = id
        · subst hk1; left; rw [get_put_ne hk]; exact get_put_same (get_lt hl1)
        · exact .inr ⟨by simp [hk, hk1], by rw [get_put_ne hk, get_put_ne hk1]⟩
    have hr := hr1.append hr2 hlt
    by_cases hroom : m1.len + ys.length ≤ m1.tot
    · rcases ha1 with ha1 | ⟨b, hb, hab⟩
      · omega
      subst hab
      subst hc1
      obtain ⟨cc, el, j2, j3, j5⟩ := hblk1 b hb
      have hst : (storeCells ((⟨b, 0, none⟩ : Addr).add (m1.len * (Ty.sl u1).csz)) vs2).run P s.w = .ok () (s.w.setRow b (cc.toList.take m1.len ++ vs2 ++ cc.toList.drop (m1.len + vs2.length)).toArray) := by
        rw [add_eq, hcsz, Nat.zero_add, Nat.mul_one]
        have := run_storeCells_at P b m1.len el vs2 0 cc s.w j2 (by rw [hr2.len]; omega) hr2.one
        simpa using this
      have hrun := run_append_room' (ty := ty) (base := some ⟨b, 0, none⟩) (sLen := m1.len) (sCap := m1.tot) ht he h2 (hlo2 s.w) hfc hroom (fun a ha => by cases ha; exact hst) (fun h => by cases h)
      have htake : cc.toList.take m1.len = vs1 := by rw [← hvl1]; exact prefix_take j5
      rw [htake] at hrun
      obtain ⟨hS', j⟩ := deep_fresh hS (dead := [id, id2]) hlenp hget (w' := s.w.setRow b (vs1 ++ vs2 ++ cc.toList.drop (m1.len + vs2.length)).toArray) (keep_setRow ⟨id, by simp, .main hl1 hm1 hb, m1, hm1, hb⟩) hr
        (m' := ⟨some b, m1.len + ys.length, m1.tot, .sl u1, m1.lt⟩) rfl (by simp [hlen1]) hroom rfl (setRow_heap _ _ _ _ _ _ j2) (by
          simp only [List.size_toArray, List.length_append, List.length_drop, Array.length_toList, hvl1, hr2.len]
          omega) ⟨_, rfl⟩ (.inl ⟨id, by simp, .main hl1 hm1 hb, m1, hm1, hb⟩) hsrc' hdist
      exact ⟨.vec s.σ.length, _, _, hrun, j, hS', VV_vecI (m := ⟨some b, m1.len + ys.length, m1.tot, .sl u1, m1.lt⟩) upd_self hroom (.inr ⟨b, rfl, rfl⟩), h⟩
    · subst hc1
      have hfo : (Builtin.firstCells (Ty.sl u1).csz m1.len (.slice a1 m1.len m1.tot)).run P s.w.drew = .ok vs1.toArray s.w.drew := by
        have := hfc1 s.w.drew fun _ => rfl
        rw [← hlen1] at this
        exact this
      obtain ⟨c, zs, q1, q2, q3, q4⟩ := run_append_grow' (ty := ty) (base := a1) (sLen := m1.len) (sCap := m1.tot) ht he h2 hby hb0 (hlo2 s.w) hfcd (by omega) (by rw [hlen1]; exact roomB_le h1) hfo
      obtain ⟨hS', j⟩ := deep_fresh hS (dead := [id, id2]) hlenp hget (w' := s.w.drew.alloc (.cells (vs1 ++ vs2 ++ zs).toArray te)) (((keep_drew (O := fun _ => False)).trans keep_alloc).mono fun _ h => h.elim) hr
        (m' := ⟨some s.w.heap.size, m1.len + ys.length, c, .sl u1, q2⟩) rfl (by simp [hlen1]) q1 rfl (heap_alloc_new s.w.drew _) (by simp only [List.size_toArray, List.length_append, hr2.len, hvl1, q3, hcsz]; omega) ⟨zs, rfl⟩ (.inr (Nat.le_refl _)) hsrc' hdist
      exact ⟨.vec s.σ.length, _, _, q4, j, hS', VV_vecI (m := ⟨some s.w.heap.size, m1.len + ys.length, c, .sl u1, q2⟩) upd_self q1 (.inr ⟨s.w.heap.size, rfl, rfl⟩), h⟩
end
theorem mem_of_mem' {i : Nat} : ∀ {L : List Nat}, i ∈ L → mem i L = true
  | [], h => by cases h
  | x :: r, h => by
    rw [mem]
    cases hb : Nat.beq i x with
    | true => rfl
    | false =>
      rcases List.mem_cons.1 h with h | h
      · rw [h, Nat.beq_refl] at hb; cases hb
      · exact mem_of_mem' h
theorem fill_hdr {s : St} (hS : Sim s) {u : Ty} {n : Nat} : ∀ {ps : List (Nat × AV)} {qs : List (Nat × Value)} {hs : List (Nat × Nat)} {cs : List Value}, deepHs s.σ u n ps = some hs → PartsV s ps qs → nodupB (ps.map fun p => p.1) = true → cs.length = n → (∀ v ∈ cs, v.oneCell' = true) →
    ∃ cs' : List Value, Instr.fill (fun i => some (i * 1, 1)) cs.toArray qs = some cs'.toArray ∧ cs'.length = n ∧ (∀ v ∈ cs', v.oneCell' = true) ∧ (∀ p ∈ hs, p.1 ∈ ps.map fun p => p.1) ∧ (∀ k, k ∉ (ps.map fun p => p.1) → cs'[k]? = cs[k]?) ∧
      ∀ k v, k ∈ (ps.map fun p => p.1) → cs'[k]? = some v → (v = .slice none 0 0 ∧ Free hs k) ∨ ∃ j, (k, j) ∈ hs ∧ (∀ j', (k, j') ∈ hs → j' = j) ∧ ∃ m, s.ρ j = some m ∧ m.ty = u ∧ HdrOf m v := by
  intro ps
  induction ps with
  | nil =>
    intro qs hs cs h hq _ hl h1
    cases hq
    simp only [deepHs, Option.some.injEq] at h
    subst h
    exact ⟨cs, rfl, hl, h1, (fun p hp => by cases hp), (fun _ _ => rfl), fun k v hk => by cases hk⟩
  | cons p ps ih =>
    intro qs hs cs h hq hn hl h1
    obtain ⟨i, v⟩ := p
    cases hq with
    | @cons _ _ c _ qs hv hq =>
    have hn' : mem i (ps.map fun p => p.1) = false ∧ nodupB (ps.map fun p => p.1) = true := by
      have := hn
      simp only [List.map_cons, nodupB, Bool.and_eq_true, Bool.not_eq_true'] at this
      exact this
    have hni : i ∉ (ps.map fun p => p.1) := fun h => by rw [mem_of_mem' h] at hn'; cases hn'.1
    have key : ∀ {hr : List (Nat × Nat)}, deepHs s.σ u n ps = some hr → i < n → c.cells = #[c] → c.oneCell' = true → (hs = hr ∧ c = .slice none 0 0 ∨ ∃ j m, hs = (i, j) :: hr ∧ s.ρ j = some m ∧ m.ty = u ∧ HdrOf m c) →
        ∃ cs' : List Value, Instr.fill (fun i => some (i * 1, 1)) cs.toArray ((i, c) :: qs) = some cs'.toArray ∧ cs'.length = n ∧ (∀ v ∈ cs', v.oneCell' = true) ∧ (∀ p ∈ hs, p.1 ∈ ((i, v) :: ps).map fun p => p.1) ∧ (∀ k, k ∉ (((i, v) :: ps).map fun p => p.1) → cs'[k]? = cs[k]?) ∧
      ∀ k v', k ∈ (((i, v) :: ps).map fun p => p.1) → cs'[k]? = some v' → (v' = .slice none 0 0 ∧ Free hs k) ∨ ∃ j, (k, j) ∈ hs ∧ (∀ j', (k, j') ∈ hs → j' = j) ∧ ∃ m, s.ρ j = some m ∧ m.ty = u ∧ HdrOf m v' := by
      intro hr hr1 hi hcc hc1 hcase
      obtain ⟨cs', g1, g2, g3, g4, g5, g6⟩ := ih (cs := cs.set i c) hr1 hq hn'.2 (by rw [List.length_set]; exact hl) (fun w hw => by
        rcases List.mem_or_eq_of_mem_set hw with hw | hw
        · exact h1 w hw
        · rw [hw]; exact hc1)
      have hset : cs.take (i * 1) ++ [c] ++ cs.drop (i * 1 + [c].length) = cs.set i c := by
        rw [Nat.mul_one, List.set_eq_take_append_cons_drop, if_pos (by omega)]
        simp
      refine ⟨cs', ?_, g2, g3, fun q hq => ?_, fun k hk => ?_, fun k v' hk hv' => ?_⟩
      · rw [fill_step (off := i * 1) (size := 1) (cv := [c]) rfl (by rw [hcc]) rfl (by simp; omega), hset]
        exact g1
      · rcases hcase with ⟨e, _⟩ | ⟨j, m, e, _⟩
        · rw [e] at hq; exact List.mem_cons_of_mem _ (g4 q hq)
        · rw [e] at hq
          rcases List.mem_cons.1 hq with hq | hq
          · rw [hq]; simp
          · exact List.mem_cons_of_mem _ (g4 q hq)
      · simp only [List.map_cons, List.mem_cons, not_or] at hk
        rw [g5 k hk.2, List.getElem?_set, if_neg (fun h => hk.1 h.symm)]
      · by_cases hki : k = i
        · subst hki
          rw [g5 k hni, List.getElem?_set, if_pos rfl, if_pos (by omega)] at hv'
          cases hv'
          have hfr : Free hr k := fun j hj => hni (g4 _ hj)
          rcases hcase with ⟨e, e2⟩ | ⟨j, m, e, e2, e3, e4⟩
          · rw [e]; exact .inl ⟨e2, hfr⟩
          · rw [e]
            refine .inr ⟨j, by simp, fun j' hj' => ?_, m, e2, e3, e4⟩
            rcases List.mem_cons.1 hj' with hj' | hj'
            · cases hj'; rfl
            · exact (hfr j' hj').elim
        · have hk2 : k ∈ (ps.map fun p => p.1) := by
            rcases List.mem_cons.1 hk with h | h
            · exact (hki h).elim
            · exact h
          have hmem : ∀ j, (k, j) ∈ hs ↔ (k, j) ∈ hr := by
            intro j
            rcases hcase with ⟨e, _⟩ | ⟨j0, m, e, _⟩
            · rw [e]
            · rw [e, List.mem_cons]
              exact ⟨fun h => h.elim (fun h => by cases h; exact (hki rfl).elim) id, .inr⟩
          rcases g6 k v' hk2 hv' with ⟨q1, q2⟩ | ⟨j, q1, q2, q3⟩
          · exact .inl ⟨q1, fun j hj => q2 j ((hmem j).1 hj)⟩
          · exact .inr ⟨j, (hmem j).2 q1, fun j' hj' => q2 j' ((hmem j').1 hj'), q3⟩
    simp only [deepHs] at h
    split at h <;> try cases h
    · rename_i j
      split at h <;> try cases h
      rename_i w zs ex hr hg hr1
      cases hc : (w == u && Nat.blt i n) with
      | false => rw [hc] at h; cases h
      | true =>
      rw [hc] at h
      simp only [cond_true, Option.some.injEq] at h
      simp only [Bool.and_eq_true, beq_iff_eq] at hc
      obtain ⟨m, a, rfl, hm, hle, ha⟩ := VV_vec hv
      have ho := hS.obj j
      rw [hg] at ho
      obtain ⟨m', k1, k2, _⟩ := ho
      rw [hm] at k1; cases k1
      exact key hr1 (by have := hc.2; simpa [Nat.blt_eq] using this) rfl rfl (.inr ⟨j, m, h.symm, hm, k2.trans hc.1, a, rfl, hle, ha⟩)
    · rename_i w
      cases hc : (w == u && Nat.blt i n) with
      | false => rw [hc] at h; cases h
      | true =>
      rw [hc] at h
      simp only [cond_true] at h
      simp only [Bool.and_eq_true, beq_iff_eq] at hc
      have hc0 := VV_nils hv
      subst hc0
      exact key h (by have := hc.2; simpa [Nat.blt_eq] using this) rfl rfl (.inl ⟨rfl, rfl⟩)
theorem buildDeep_sound {P : Program} {s : St} (hS : Sim s) {t te : TypeId} {u : Ty} (ht : P.underlying t = some (.slice te)) (he : tyb P (.sl u) te = true) {n : Nat} (hn : n ≤ 16777216) {ps : List (Nat × AV)} {qs : List (Nat × Value)} (hq : PartsV s ps qs) (hnd : nodupB (ps.map fun p => p.1) = true) {hs : List (Nat × Nat)}
    (hl : deepHs s.σ u n ps = some hs) {K : AV → Sto → Prop} (h : K (.vec s.σ.length) (s.σ ++ [.deep u (List.replicate n ([] : List u.T)) hs])) : Runs P s (Instr.buildSlice t n qs.toArray) K := by
  have hz : zcells (Ty.sl u) = [Value.slice none 0 0] := rfl
  have hcsz : (Ty.sl u).csz = 1 := rfl
  obtain ⟨cs', r1, r2, r3, r4, r5, r6⟩ := fill_hdr hS (cs := List.replicate n (Value.slice none 0 0)) hl hq hnd (by simp) (fun v hv => by rw [(List.mem_replicate.1 hv).2]; rfl)
  have hnoB : ∀ b, ¬ SlotB (Value.slice none 0 0) b := by rintro b ⟨a, len, cap, e, _⟩; cases e
  have hnil : ∀ i v, cs'[i]? = some v → Free hs i → v = .slice none 0 0 := by
    intro i v hv hf
    by_cases hi : i ∈ (ps.map fun p => p.1)
    · rcases r6 i v hi hv with ⟨e, _⟩ | ⟨j, e, _⟩
      · exact e
      · exact (hf j e).elim
    · rw [r5 i hi, List.getElem?_replicate] at hv
      split at hv
      · cases hv; rfl
      · cases hv
  have hr : HdrRow s.w s.F s.ρ u (List.replicate n ([] : List u.T)) hs cs' := by
    refine ⟨by rw [r2, List.length_replicate], r3, fun i ys v hi hv => ?_⟩
    rw [List.getElem?_replicate] at hi
    split at hi
    · cases hi
      refine ⟨fun hf => ?_, fun j hj => ?_⟩
      · rw [hnil i v hv hf]
        exact ⟨none, 0, rfl, Nat.le_refl _, by decide, .inl rfl⟩
      · rcases r6 i v (r4 _ hj) hv with ⟨_, e⟩ | ⟨j', _, e, e2⟩
        · exact (e j hj).elim
        · rw [e j hj]; exact e2
    · cases hi
  have hlt : n ≤ 9223372036854775807 := by omega
  have hrun : (Instr.buildSlice t n qs.toArray).run P s.w = .ok (.slice (some ⟨s.w.heap.size, 0, none⟩) n n) (s.w.alloc (.cells cs'.toArray te)) := by
    have hbig : ¬ n * (Ty.sl u).csz > 2 ^ 24 := by rw [hcsz]; omega
    unfold Instr.buildSlice
    simp only [Sem.run_bind, run_underlying ht s.w, Result.andThen_ok, run_sizeOf' he s.w, hbig, if_false]
    by_cases hn0 : n * (Ty.sl u).csz = 0
    · have hn1 : n = 0 := by rw [hcsz] at hn0; omega
      have harr : ∀ zero : Array Value, Array.map (fun x => zero[x % zero.size]!) (Array.range 0) = #[] := fun zero => by simp
      subst hn1
      have r2' : Instr.fill (fun i => some (i * (Ty.sl u).csz, (Ty.sl u).csz)) #[] qs = some cs'.toArray := by rw [hcsz]; exact r1
      simp only [Nat.zero_mul, if_true, Sem.run_bind, Sem.run_pure, Result.andThen_ok, harr, r2']
      simp only [Go.newRow, Sem.run_bind, run_newObj, World.alloc_eq, Result.andThen_ok, Sem.run_pure]
    · simp only [hn0, if_false, Sem.run_bind, run_zeroValue' he s.w, Result.andThen_ok, Sem.run_pure, toV_cells (zcells_len (Ty.sl u)) (zcells_one (Ty.sl u))]
      have r2' := r1
      rw [← flat_nils, ← hz, ← range_mod (by rw [hz]; simp), zcells_len] at r2'
      have r3' : Instr.fill (fun i => some (i * (Ty.sl u).csz, (Ty.sl u).csz)) (Array.map (fun i => (zcells (Ty.sl u)).toArray[i % (zcells (Ty.sl u)).toArray.size]!) (Array.range (n * (Ty.sl u).csz))) qs = some cs'.toArray := r2'
      simp only [r3', Sem.run_bind, Result.andThen_ok]
      simp only [Go.newRow, Sem.run_bind, run_newObj, World.alloc_eq, Result.andThen_ok, Sem.run_pure]
  obtain ⟨hS', j⟩ := deep_fresh hS (σd := s.σ) (dead := []) rfl (fun k => .inr ⟨by simp, rfl⟩) (w' := s.w.alloc (.cells cs'.toArray te)) keep_alloc hr (m' := ⟨some s.w.heap.size, n, n, .sl u, hlt⟩) rfl (by simp) (Nat.le_refl _) rfl (heap_alloc_new _ _) (by simp [r2]) (List.prefix_refl _) (.inr (Nat.le_refl _))
    (fun i v b e1 e2 e3 => by rw [hnil i v e1 e2] at e3; exact (hnoB b e3).elim) (fun i i' v v' b e1 e2 e3 e4 e5 e6 => by rw [hnil i v e1 e3] at e5; exact (hnoB b e5).elim)
  exact ⟨.vec s.σ.length, _, _, hrun, j, hS', VV_vecI (m := ⟨some s.w.heap.size, n, n, .sl u, hlt⟩) upd_self (Nat.le_refl _) (.inr ⟨s.w.heap.size, rfl, rfl⟩), h⟩
end Go.Abs
