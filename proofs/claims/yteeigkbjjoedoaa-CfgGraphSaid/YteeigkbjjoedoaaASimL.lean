/- How the relation between store and world is kept. -/
import Derived.Test.YteeigkbjjoedoaaATys
set_option linter.unusedVariables false
namespace Go.Abs
theorem get_nil (id : Nat) : Sto.get [] id = .dead := by cases id <;> rfl
theorem get_lt : ∀ {σ : Sto} {id : Nat}, isLive (Sto.get σ id) = true → id < σ.length
  | [], id, h => by rw [get_nil] at h; cases h
  | _ :: σ, 0, _ => by simp
  | _ :: σ, n + 1, h => by have := get_lt (σ := σ) (id := n) h; simp; omega
theorem get_ge : ∀ {σ : Sto} {id : Nat}, σ.length ≤ id → Sto.get σ id = .dead
  | [], id, _ => get_nil id
  | _ :: σ, 0, h => by simp at h
  | _ :: σ, n + 1, h => get_ge (σ := σ) (id := n) (by simpa using h)
theorem get_append_lt : ∀ {σ τ : Sto} {id : Nat}, id < σ.length → Sto.get (σ ++ τ) id = Sto.get σ id
  | [], _, _, h => by simp at h
  | _ :: σ, τ, 0, _ => rfl
  | _ :: σ, τ, n + 1, h => get_append_lt (σ := σ) (τ := τ) (id := n) (by simpa using h)
theorem get_append_ge : ∀ {σ τ : Sto} {id : Nat}, σ.length ≤ id → Sto.get (σ ++ τ) id = Sto.get τ (id - σ.length)
  | [], _, _, _ => by simp
  | _ :: σ, τ, 0, h => by simp at h
  | _ :: σ, τ, n + 1, h => by
    have := get_append_ge (σ := σ) (τ := τ) (id := n) (by simpa using h)
    simpa [Sto.get] using this
theorem length_put : ∀ (σ : Sto) (id : Nat) (x : Ob), (Sto.put σ id x).length = σ.length
  | [], _, _ => rfl
  | _ :: σ, 0, _ => rfl
  | _ :: σ, n + 1, x => by simp [Sto.put, length_put σ n x]
theorem get_put_same : ∀ {σ : Sto} {id : Nat} {x : Ob}, id < σ.length → Sto.get (Sto.put σ id x) id = x
  | [], _, _, h => by simp at h
  | _ :: σ, 0, _, _ => rfl
  | _ :: σ, n + 1, x, h => get_put_same (σ := σ) (id := n) (by simpa using h)
theorem get_put_ne : ∀ {σ : Sto} {id j : Nat} {x : Ob}, j ≠ id → Sto.get (Sto.put σ id x) j = Sto.get σ j
  | [], _, _, _, _ => rfl
  | _ :: σ, 0, 0, _, h => (h rfl).elim
  | _ :: σ, 0, n + 1, _, _ => rfl
  | _ :: σ, n + 1, 0, _, _ => rfl
  | _ :: σ, n + 1, k + 1, x, h => get_put_ne (σ := σ) (id := n) (j := k) (by omega)
theorem Keep.mono {O O' : Nat → Prop} {w w' : World} (h : Keep O w w') (hO : ∀ b, O b → O' b) : Keep O' w w' :=
  ⟨h.os, h.tape, h.output, h.size, fun k hk ho => h.block k hk fun x => ho (hO k x), h.frz⟩
theorem Keep.trans {O : Nat → Prop} {a b c : World} (h : Keep O a b) (k : Keep O b c) : Keep O a c :=
  ⟨k.os.trans h.os, k.tape.trans h.tape, k.output.trans h.output, Nat.le_trans h.size k.size, fun i hi ho => (k.block i (Nat.lt_of_lt_of_le hi h.size) ho).trans (h.block i hi ho), fun a ha => (k.frz a (Nat.lt_of_lt_of_le ha h.size)).trans (h.frz a ha)⟩
theorem Inner.back {w w' : World} {m : Meta} {hs : List (Nat × Nat)} {b : Nat} (h : Inner w' m hs b) (hb : ∀ k, m.blk = some k → w'.heap[k]? = w.heap[k]?) : Inner w m hs b := by
  obtain ⟨i, blk, c, el, v, h1, h2, h3⟩ := h
  exact ⟨i, blk, c, el, v, h1, (hb blk h1).symm.trans h2, h3⟩
theorem OwnsO.back {w w' : World} {ρ ρ' : Map} {id : Nat} {o : Ob} {b : Nat} (h : OwnsO w' ρ' id o b) (hρ : ∀ m, ρ' id = some m → ρ id = some m) (hb : ∀ m k, ρ id = some m → m.blk = some k → w'.heap[k]? = w.heap[k]?) : OwnsO w ρ id o b := by
  obtain ⟨h1, m, h2, h3⟩ := h
  exact ⟨h1, m, hρ m h2, h3.imp (fun h => h) fun ⟨hs, h4, h5⟩ => ⟨hs, h4, h5.back fun k hk => hb m k (hρ m h2) hk⟩⟩
theorem OwnsO.main {w : World} {ρ : Map} {id : Nat} {o : Ob} {b : Nat} {m : Meta} (h1 : isLive o = true) (h2 : ρ id = some m) (h3 : m.blk = some b) : OwnsO w ρ id o b := ⟨h1, m, h2, .inl h3⟩
theorem OwnsO.plain {w : World} {ρ : Map} {id : Nat} {o : Ob} {b : Nat} (h : OwnsO w ρ id o b) (hd : holesOf o = none) {m : Meta} (hm : ρ id = some m) : m.blk = some b := by
  obtain ⟨_, m', h2, h3⟩ := h
  rw [hm] at h2; cases h2
  rcases h3 with h3 | ⟨hs, h4, _⟩
  · exact h3
  · rw [hd] at h4; cases h4
theorem SlotR.mono {w w' : World} {F F' : Nat → Prop} {t : Ty} {ys : List t.T} {v : Value} (hs : Same F w w') (hF : ∀ b, F b → F' b) (hb : ∀ b, SlotB v b → w'.heap[b]? = w.heap[b]?) (h : SlotR w F t ys v) : SlotR w' F' t ys v := by
  obtain ⟨a, cap, h1, h2, h3, h4⟩ := h
  refine ⟨a, cap, h1, h2, h3, ?_⟩
  by_cases hc : cap = 0
  · exact .inl hc
  · rcases h4 with h4 | ⟨b, c, el, cs, k1, k2, k3, k4, k5⟩
    · exact .inl h4
    · exact .inr ⟨b, c, el, cs, k1, (hb b ⟨_, _, _, by rw [h1, k1], rfl, hc⟩).trans k2, k3, ImmL.mono (fun _ _ _ h => Imm.mono hs hF h) k4, k5⟩
theorem ObR.mono {w w' : World} {F F' : Nat → Prop} {ρ ρ' : Map} {id : Nat} {ob : Ob} (hs : Same F w w') (hF : ∀ b, F b → F' b) (hρ : ∀ id m, ρ id = some m → ρ' id = some m)
    (hb : ∀ b, OwnsO w ρ id ob b → w'.heap[b]? = w.heap[b]?) (h : ObR w F ρ id ob) : ObR w' F' ρ' id ob := by
  cases ob with
  | dead => trivial
  | row t xs ex =>
    obtain ⟨m, h1, h2, h3, h4, h5, h6⟩ := h
    refine ⟨m, hρ _ _ h1, h2, h3, h4, h5, h6.imp (fun h => h) ?_⟩
    rintro ⟨b, c, el, cs, k1, k2, k3, k4, k5⟩
    exact ⟨b, c, el, cs, k1, (hb b (.main rfl h1 k1)).trans k2, k3, ImmL.mono (fun _ _ _ h => Imm.mono hs hF h) k4, k5⟩
  | one t v =>
    obtain ⟨m, b, c, el, h1, h2, h3, h4, h5, h6, h7⟩ := h
    exact ⟨m, b, c, el, hρ _ _ h1, h2, h3, h4, h5, (hb b (.main rfl h1 h3)).trans h6, h7.mono hs hF hρ⟩
  | kv t l =>
    obtain ⟨m, b, es, clock, h1, h2, h3, h4⟩ := h
    exact ⟨m, b, es, clock, hρ _ _ h1, h2, (hb b (.main rfl h1 h2)).trans h3, h4.mono hs hF⟩
  | deep t xs hls =>
    obtain ⟨m, h1, h2, h3, h4, h5, h6⟩ := h
    refine ⟨m, hρ _ _ h1, h2, h3, h4, h5.imp (fun h => h) ?_, ?_⟩
    · rintro ⟨b, c, el, k1, k2, k3, k4⟩
      refine ⟨b, c, el, k1, (hb b (.main rfl h1 k1)).trans k2, k3, fun i ys hi => ?_⟩
      obtain ⟨v, g1, g2, g3⟩ := k4 i ys hi
      have hlt : i < m.len := by rw [h3]; exact (List.getElem?_eq_some_iff.1 hi).1
      exact ⟨v, g1, fun hf => (g2 hf).mono hs hF fun b' hb' => hb b' ⟨rfl, m, h1, .inr ⟨hls, rfl, i, b, c, el, v, k1, k2, hlt, hf, g1, hb'⟩⟩, fun j hj => let ⟨mj, e1, e2, e3⟩ := g3 j hj; ⟨mj, hρ _ _ e1, e2, e3⟩⟩
    · intro blk c el i i' v v' b e1 e2 e3 e4 e5 e6 e7 e8 e9 e10
      exact h6 blk c el i i' v v' b e1 ((hb blk (.main rfl h1 e1)).symm.trans e2) e3 e4 e5 e6 e7 e8 e9 e10
theorem ObR.map {w : World} {F : Nat → Prop} {ρ : Map} {id : Nat} {ob : Ob} (h : ObR w F ρ id ob) (hl : isLive ob = true) : ∃ m, ρ id = some m := by
  cases ob with
  | dead => cases hl
  | row t xs ex => obtain ⟨m, h, _⟩ := h; exact ⟨m, h⟩
  | one t v => obtain ⟨m, _, _, _, h, _⟩ := h; exact ⟨m, h⟩
  | kv t l => obtain ⟨m, _, _, _, h, _⟩ := h; exact ⟨m, h⟩
  | deep t xs hs => obtain ⟨m, h, _⟩ := h; exact ⟨m, h⟩
theorem ObR.ltO {w : World} {F : Nat → Prop} {ρ : Map} {id : Nat} {ob : Ob} (h : ObR w F ρ id ob) {b} (ho : OwnsO w ρ id ob b) : b < w.heap.size := by
  obtain ⟨hl, m, hm, hb⟩ := ho
  cases ob with
  | dead => cases hl
  | row t xs ex =>
    have hb : m.blk = some b := by rcases hb with hb | ⟨_, h, _⟩; exact hb; cases h
    obtain ⟨m', h, _, _, _, _, h6⟩ := h
    rw [hm] at h; cases h
    rcases h6 with h6 | ⟨b', c, el, cs, k1, k2, _⟩
    · rw [hb] at h6; cases h6.1
    · rw [hb] at k1; cases k1
      exact (Array.getElem?_eq_some_iff.1 k2).1
  | one t v =>
    have hb : m.blk = some b := by rcases hb with hb | ⟨_, h, _⟩; exact hb; cases h
    obtain ⟨m', b', c, el, h, _, h3, _, _, h6, _⟩ := h
    rw [hm] at h; cases h
    rw [hb] at h3; cases h3
    exact (Array.getElem?_eq_some_iff.1 h6).1
  | kv t l =>
    have hb : m.blk = some b := by rcases hb with hb | ⟨_, h, _⟩; exact hb; cases h
    obtain ⟨m', b', es, clock, h, h3, h6, _⟩ := h
    rw [hm] at h; cases h
    rw [hb] at h3; cases h3
    exact (Array.getElem?_eq_some_iff.1 h6).1
  | deep t xs hs =>
    obtain ⟨m', h, _, h3, _, h5, _⟩ := h
    rw [hm] at h; cases h
    rcases h5 with h5 | ⟨b', c, el, k1, k2, _, k4⟩
    · rcases hb with hb | ⟨_, _, i, blk, _, _, _, e1, _⟩
      · rw [hb] at h5; cases h5.1
      · rw [e1] at h5; cases h5.1
    · rcases hb with hb | ⟨hs', eh, i, blk, c', el', v, e1, e2, e3, e4, e5, e6⟩
      · rw [hb] at k1; cases k1
        exact (Array.getElem?_eq_some_iff.1 k2).1
      · cases eh
        rw [e1] at k1; cases k1
        rw [e2] at k2; cases k2
        obtain ⟨v', g1, g2, _⟩ := k4 i _ (List.getElem?_eq_getElem (by rw [← h3]; exact e3))
        rw [e5] at g1; cases g1
        obtain ⟨a, cap, q1, _, _, q4⟩ := g2 e4
        obtain ⟨a', len', cap', q5, q6, q7⟩ := e6
        rw [q5] at q1
        cases q1
        rcases q4 with q4 | ⟨b2, c2, el2, cs2, q8, q9, _⟩
        · exact (q7 q4).elim
        · cases q8
          subst q6
          exact (Array.getElem?_eq_some_iff.1 q9).1
theorem ObR.lt {w : World} {F : Nat → Prop} {ρ : Map} {id : Nat} {ob : Ob} (h : ObR w F ρ id ob) (hl : isLive ob = true) {m b} (hm : ρ id = some m) (hb : m.blk = some b) : b < w.heap.size := h.ltO (.main hl hm hb)
theorem Sim.own_lt {s : St} (hS : Sim s) {b : Nat} (h : s.own b) : b < s.w.heap.size := by
  obtain ⟨id, h⟩ := h
  exact (hS.obj id).ltO h
def upd (ρ : Map) (i : Nat) (m : Meta) : Map := fun j => if j = i then some m else ρ j
theorem upd_mono {s : St} (hS : Sim s) (m : Meta) : ∀ id m', s.ρ id = some m' → upd s.ρ s.σ.length m id = some m' := by
  intro id m' h
  have := hS.dom id m' h
  simp [upd, Nat.ne_of_lt this, h]
theorem ObR.of_dead {w : World} {F : Nat → Prop} {ρ : Map} {id : Nat} {ob : Ob} (h : isLive ob = false) : ObR w F ρ id ob := by
  cases ob <;> first | trivial | cases h
theorem owns_dead {w : World} {ρ : Map} {id b : Nat} {ob : Ob} (h : OwnsO w ρ id ob b) (hd : isLive ob = false) : False := by
  have h1 := h.1
  rw [hd] at h1; cases h1
theorem Sim.quietF {s : St} (hS : Sim s) {w' : World} (hk : Keep (fun _ => False) s.w w') {F' : Nat → Prop} (hF : ∀ b, s.F b → F' b) (hn : ∀ b, F' b → s.F b ∨ (s.w.heap.size ≤ b ∧ b < w'.heap.size)) : Sim ⟨w', F', s.ρ, s.σ⟩ ∧ J s ⟨w', F', s.ρ, s.σ⟩ := by
  have hsame : Same s.F s.w w' := fun b hb => hk.block b (hS.inF b hb) id
  have hblk : ∀ id b, s.owns id b → w'.heap[b]? = s.w.heap[b]? := fun id b h => hk.block b ((hS.obj id).ltO h) fun h => h
  have hob : ∀ id b, (⟨w', F', s.ρ, s.σ⟩ : St).owns id b → s.owns id b := fun id b h => OwnsO.back h (fun _ h => h) fun m k hm hkb => hblk id k (.main h.1 hm hkb)
  refine ⟨⟨fun id => ?_, fun id id' b h1 h2 => hS.sepO id id' b (hob id b h1) (hob id' b h2), fun id m hs b h1 h2 h3 h4 h5 => hS.selfO id m hs b h1 h2 h3 h4 (h5.back fun k hkb => hblk id k (.main h1 h2 hkb)), fun b ⟨id, ho⟩ hb => ?_, fun b hb => ?_, hS.dom⟩,
    ⟨hk.mono (fun _ h => h.elim), hF, fun b hb => ?_, fun b ⟨id, h⟩ => .inl ⟨id, hob id b h⟩, fun _ _ => rfl, Nat.le_refl _⟩⟩
  · exact (hS.obj id).mono hsame hF (fun _ _ h => h) (hblk id)
  · have ho := hob id b ho
    rcases hn b hb with h | h
    · exact hS.notF b ⟨id, ho⟩ h
    · have := (hS.obj id).ltO ho
      omega
  · rcases hn b hb with h | h
    · exact Nat.lt_of_lt_of_le (hS.inF b h) hk.size
    · exact h.2
  · rcases hn b hb with h | h
    · exact .inl h
    · exact .inr (.inr h.1)
theorem Sim.quiet {s : St} (hS : Sim s) {w' : World} (hk : Keep (fun _ => False) s.w w') : Sim ⟨w', s.F, s.ρ, s.σ⟩ ∧ J s ⟨w', s.F, s.ρ, s.σ⟩ :=
  hS.quietF hk (fun _ h => h) fun _ h => .inl h
theorem get_weak : ∀ (σ : Sto) (id : Nat), Sto.get (σ.map Ob.weak) id = (Sto.get σ id).weak
  | [], id => by rw [List.map_nil, get_nil]; rfl
  | o :: σ, 0 => rfl
  | o :: σ, n + 1 => get_weak σ n
theorem live_weak (o : Ob) : isLive o.weak = isLive o := by cases o <;> rfl
theorem holes_weak (o : Ob) : holesOf o.weak = holesOf o := by cases o <;> rfl
theorem ObR.weak {w : World} {F : Nat → Prop} {ρ : Map} {id : Nat} {o : Ob} (h : ObR w F ρ id o) : ObR w F ρ id o.weak := by
  cases o with
  | row t xs ex =>
    obtain ⟨m, h1, h2, h3, h4, h5, h6⟩ := h
    exact ⟨m, h1, h2, h3, h4, (fun e => by cases e), h6⟩
  | _ => exact h
theorem Sim.weak {s : St} (hS : Sim s) : Sim ⟨s.w, s.F, s.ρ, s.σ.map Ob.weak⟩ ∧ J s ⟨s.w, s.F, s.ρ, s.σ.map Ob.weak⟩ := by
  have hl : ∀ id, isLive (Sto.get (s.σ.map Ob.weak) id) = isLive (Sto.get s.σ id) := fun id => by rw [get_weak, live_weak]
  have hh : ∀ id, holesOf (Sto.get (s.σ.map Ob.weak) id) = holesOf (Sto.get s.σ id) := fun id => by rw [get_weak, holes_weak]
  have ho : ∀ id b, (⟨s.w, s.F, s.ρ, s.σ.map Ob.weak⟩ : St).owns id b → s.owns id b := fun id b ⟨h1, m, h2, h3⟩ => ⟨(hl id).symm.trans h1, m, h2, h3.imp (fun h => h) fun ⟨hs, h4, h5⟩ => ⟨hs, (hh id).symm.trans h4, h5⟩⟩
  refine ⟨⟨fun id => ?_, fun id id' b h1 h2 => hS.sepO id id' b (ho id b h1) (ho id' b h2), fun id m hs b h1 h2 h3 => hS.selfO id m hs b ((hl id).symm.trans h1) h2 ((hh id).symm.trans h3), fun b ⟨id, h⟩ => hS.notF b ⟨id, ho id b h⟩, hS.inF, fun id m h => ?_⟩,
    ⟨.refl _ _, fun _ h => h, fun _ h => .inl h, fun b ⟨id, h⟩ => .inl ⟨id, ho id b h⟩, fun _ _ => rfl, by simp⟩⟩
  · show ObR s.w s.F s.ρ id (Sto.get (s.σ.map Ob.weak) id)
    rw [get_weak]
    exact (hS.obj id).weak
  · show id < (s.σ.map Ob.weak).length
    rw [List.length_map]
    exact hS.dom id m h
theorem upd_lt {ρ : Map} {n : Nat} {m : Meta} {id : Nat} (h : id < n) : upd ρ n m id = ρ id := by simp [upd, Nat.ne_of_lt h]
theorem upd_self {ρ : Map} {n : Nat} {m : Meta} : upd ρ n m n = some m := by simp [upd]
theorem Sim.alter {s : St} (hS : Sim s) {w' : World} {F' : Nat → Prop} {ρ' : Map} {σ' : Sto} (O : Nat → Prop)
    (hk : Keep O s.w w') (hO : ∀ b, O b → s.own b) (hF : F' = s.F)
    (hρ : ∀ id, id < s.σ.length → ρ' id = s.ρ id) (hlen : s.σ.length ≤ σ'.length) (hdom : ∀ id m, ρ' id = some m → id < σ'.length)
    (hob : ∀ id, ObR w' s.F ρ' id (Sto.get σ' id))
    (hown : ∀ id b, OwnsO w' ρ' id (Sto.get σ' id) b → s.own b ∨ s.w.heap.size ≤ b)
    (hsep : ∀ id id' b, OwnsO w' ρ' id (Sto.get σ' id) b → OwnsO w' ρ' id' (Sto.get σ' id') b → id = id')
    (hself : ∀ id m hs b, isLive (Sto.get σ' id) = true → ρ' id = some m → holesOf (Sto.get σ' id) = some hs → m.blk = some b → ¬ Inner w' m hs b) :
    Sim ⟨w', F', ρ', σ'⟩ ∧ J s ⟨w', F', ρ', σ'⟩ := by
  subst hF
  refine ⟨⟨hob, hsep, hself, fun b ⟨id, h⟩ hF => ?_, fun b hb => Nat.lt_of_lt_of_le (hS.inF b hb) hk.size, hdom⟩, ⟨hk.mono hO, fun _ h => h, fun _ h => .inl h, fun b ⟨id, h⟩ => hown id b h, hρ, hlen⟩⟩
  rcases hown id b h with h | h
  · exact hS.notF b h hF
  · have := hS.inF b hF; omega
theorem Sim.new {s : St} (hS : Sim s) {w' : World} {m : Meta} {ob : Ob} (hk : Keep (fun _ => False) s.w w') (hb : ∀ b, m.blk = some b → s.w.heap.size ≤ b)
    (hob : ObR w' s.F (upd s.ρ s.σ.length m) s.σ.length ob) (hd : ∀ hs b, holesOf ob = some hs → ¬ Inner w' m hs b := by intro hs b h; cases h) :
    Sim ⟨w', s.F, upd s.ρ s.σ.length m, s.σ ++ [ob]⟩ ∧ J s ⟨w', s.F, upd s.ρ s.σ.length m, s.σ ++ [ob]⟩ := by
  have hsame : Same s.F s.w w' := fun b hb => hk.block b (hS.inF b hb) id
  have hblk : ∀ id b, s.owns id b → w'.heap[b]? = s.w.heap[b]? := fun id b h => hk.block b ((hS.obj id).ltO h) fun h => h
  have key : ∀ id b, OwnsO w' (upd s.ρ s.σ.length m) id (Sto.get (s.σ ++ [ob]) id) b → (id < s.σ.length ∧ s.owns id b ∧ b < s.w.heap.size) ∨ (id = s.σ.length ∧ s.w.heap.size ≤ b) := by
    intro id b h
    by_cases hi : id < s.σ.length
    · rw [get_append_lt hi] at h
      have ho : s.owns id b := OwnsO.back h (fun m' h' => by rwa [upd_lt hi] at h') fun m' k hm' hk' => hblk id k (.main h.1 hm' hk')
      exact .inl ⟨hi, ho, (hS.obj id).ltO ho⟩
    · by_cases h2 : id = s.σ.length
      · subst h2
        rw [get_append_ge (Nat.le_refl _), Nat.sub_self] at h
        obtain ⟨_, m', e1, e2⟩ := h
        rw [upd_self] at e1; cases e1
        rcases e2 with e2 | ⟨hs, e3, e4⟩
        · exact .inr ⟨rfl, hb b e2⟩
        · exact (hd hs b e3 e4).elim
      · rw [get_ge (by simp; omega)] at h; cases h.1
  refine hS.alter (fun _ => False) hk (fun _ h => h.elim) rfl (fun id hi => upd_lt hi) (by simp) (fun id m' hm => ?_) (fun id => ?_) (fun id b h => ?_) (fun id id' b h h' => ?_) fun id m' hs b h1 h2 h3 h4 h5 => ?_
  · simp only [upd] at hm
    simp
    split at hm
    · omega
    · have := hS.dom id m' hm; omega
  · by_cases h : id < s.σ.length
    · rw [get_append_lt h]
      exact (hS.obj id).mono hsame (fun _ h => h) (upd_mono hS m) (hblk id)
    · by_cases h2 : id = s.σ.length
      · subst h2
        rw [get_append_ge (Nat.le_refl _), Nat.sub_self]
        exact hob
      · rw [get_ge (by simp; omega)]; trivial
  · exact (key id b h).imp (fun h => ⟨id, h.2.1⟩) fun h => h.2
  · rcases key id b h with ⟨h1, h2, h3⟩ | ⟨h1, h2⟩ <;> rcases key id' b h' with ⟨k1, k2, k3⟩ | ⟨k1, k2⟩
    · exact hS.sepO id id' b h2 k2
    · omega
    · omega
    · omega
  · by_cases hi : id < s.σ.length
    · rw [get_append_lt hi] at h1 h3
      rw [upd_lt hi] at h2
      exact hS.selfO id m' hs b h1 h2 h3 h4 (h5.back fun k hk' => hblk id k (.main h1 h2 hk'))
    · by_cases h2' : id = s.σ.length
      · subst h2'
        rw [get_append_ge (Nat.le_refl _), Nat.sub_self] at h3
        rw [upd_self] at h2; cases h2
        exact hd hs b h3 h5
      · rw [get_ge (by simp; omega)] at h1; cases h1
theorem Sim.put {s : St} (hS : Sim s) {id : Nat} {m : Meta} (hl : isLive (Sto.get s.σ id) = true) (hm : s.ρ id = some m) {w' : World} {ob : Ob}
    (hk : Keep (fun b => m.blk = some b) s.w w') (hob : ObR w' s.F s.ρ id ob) (hd : ∀ hs b, holesOf ob = some hs → Inner w' m hs b → s.owns id b ∧ m.blk ≠ some b := by intro hs b h; cases h) :
    Sim ⟨w', s.F, s.ρ, Sto.put s.σ id ob⟩ ∧ J s ⟨w', s.F, s.ρ, Sto.put s.σ id ob⟩ := by
  have hid := get_lt hl
  have hme : ∀ b, m.blk = some b → s.owns id b := fun b hb => .main hl hm hb
  have hsame : Same s.F s.w w' := fun b hb => hk.block b (hS.inF b hb) fun h => hS.notF b ⟨id, hme b h⟩ hb
  have hblk : ∀ j b, j ≠ id → s.owns j b → w'.heap[b]? = s.w.heap[b]? := fun j b hj h => hk.block b ((hS.obj j).ltO h) fun hb => hj (hS.sepO j id b h (hme b hb))
  have key : ∀ j b, OwnsO w' s.ρ j (Sto.get (Sto.put s.σ id ob) j) b → s.owns j b := by
    intro j b h
    by_cases hj : j = id
    · subst hj
      rw [get_put_same hid] at h
      obtain ⟨_, m', e1, e2⟩ := h
      rw [hm] at e1; cases e1
      rcases e2 with e2 | ⟨hs, e3, e4⟩
      · exact hme b e2
      · exact (hd hs b e3 e4).1
    · rw [get_put_ne hj] at h
      exact OwnsO.back h (fun _ h => h) fun m' k hm' hk' => hblk j k hj (.main h.1 hm' hk')
  refine hS.alter (fun b => m.blk = some b) hk (fun b hb => ⟨id, hme b hb⟩) rfl (fun _ _ => rfl) (by simp [length_put]) (fun j m' h => by simp only [length_put]; exact hS.dom j m' h) (fun j => ?_) (fun j b h => .inl ⟨j, key j b h⟩) (fun j j' b h h' => hS.sepO j j' b (key j b h) (key j' b h')) fun j m' hs b h1 h2 h3 h4 h5 => ?_
  · by_cases h : j = id
    · subst h
      rw [get_put_same hid]
      exact hob
    · rw [get_put_ne h]
      exact (hS.obj j).mono hsame (fun _ h => h) (fun _ _ h => h) fun b hb => hblk j b h hb
  · by_cases h : j = id
    · subst h
      rw [get_put_same hid] at h3
      rw [hm] at h2; cases h2
      exact (hd hs b h3 h5).2 h4
    · rw [get_put_ne h] at h1 h3
      exact hS.selfO j m' hs b h1 h2 h3 h4 (h5.back fun k hk' => hblk j k h (.main h1 h2 hk'))
theorem Sim.kill1 {s : St} (hS : Sim s) (id : Nat) :
    Sim ⟨s.w, fun b => s.F b ∨ (isLive (Sto.get s.σ id) = true ∧ ∃ m, s.ρ id = some m ∧ m.blk = some b), s.ρ, Sto.put s.σ id .dead⟩ ∧
    J s ⟨s.w, fun b => s.F b ∨ (isLive (Sto.get s.σ id) = true ∧ ∃ m, s.ρ id = some m ∧ m.blk = some b), s.ρ, Sto.put s.σ id .dead⟩ := by
  have hsame : Same s.F s.w s.w := fun _ _ => rfl
  have hlive : ∀ j, isLive (Sto.get (Sto.put s.σ id .dead) j) = true → j ≠ id ∧ Sto.get (Sto.put s.σ id .dead) j = Sto.get s.σ j := by
    intro j hj
    by_cases h : j = id
    · subst h
      by_cases h2 : j < s.σ.length
      · rw [get_put_same h2] at hj; cases hj
      · rw [get_ge (by rw [length_put]; omega)] at hj; cases hj
    · exact ⟨h, get_put_ne h⟩
  have key : ∀ j b, OwnsO s.w s.ρ j (Sto.get (Sto.put s.σ id .dead) j) b → j ≠ id ∧ s.owns j b := by
    intro j b h
    obtain ⟨h1, h2⟩ := hlive j h.1
    rw [h2] at h
    exact ⟨h1, h⟩
  refine ⟨⟨fun j => ?_, fun i j b h1 h2 => hS.sepO i j b (key i b h1).2 (key j b h2).2, fun j m hs b h1 h2 h3 => ?_, ?_, ?_, fun j m' h => by simp only [length_put]; exact hS.dom j m' h⟩,
    ⟨.refl _ _, fun _ h => .inl h, ?_, fun b ⟨j, h⟩ => .inl ⟨j, (key j b h).2⟩, fun _ _ => rfl, by simp [length_put]⟩⟩
  · cases hlj : isLive (Sto.get (Sto.put s.σ id .dead) j) with
    | false => exact .of_dead hlj
    | true =>
      have h := hlive j hlj
      show ObR s.w _ s.ρ j (Sto.get (Sto.put s.σ id .dead) j)
      rw [h.2]
      exact (hS.obj j).mono hsame (fun _ h => .inl h) (fun _ _ h => h) fun _ _ => rfl
  · have h := hlive j h1
    show m.blk = some b → ¬ Inner s.w m hs b
    rw [h.2] at h1 h3
    exact hS.selfO j m hs b h1 h2 h3
  · rintro b ⟨j, h⟩ hF
    have hj := key j b h
    rcases hF with hF | ⟨hl, m, hm, hb⟩
    · exact hS.notF b ⟨j, hj.2⟩ hF
    · exact hj.1 (hS.sepO j id b hj.2 (.main hl hm hb))
  · rintro b (hb | ⟨hl, m, hm, hb⟩)
    · exact hS.inF b hb
    · exact (hS.obj id).lt hl hm hb
  · rintro b (hb | ⟨hl, m, hm, hb⟩)
    · exact .inl hb
    · exact .inr (.inl (St.own_of hl hm hb))
theorem Sim.repl {s : St} (hS : Sim s) {id : Nat} {m0 m : Meta} (hl : isLive (Sto.get s.σ id) = true) (hm0 : s.ρ id = some m0) {w' : World} {ob : Ob}
    (hk : Keep (fun b => m0.blk = some b) s.w w') (hb : ∀ b, m.blk = some b → m0.blk = some b ∨ s.w.heap.size ≤ b)
    (hob : ObR w' s.F (upd s.ρ s.σ.length m) s.σ.length ob) (hd : ∀ hs b, holesOf ob = some hs → Inner w' m hs b → s.owns id b ∧ m0.blk ≠ some b ∧ m.blk ≠ some b := by intro hs b h; cases h) :
    Sim ⟨w', s.F, upd s.ρ s.σ.length m, Sto.put s.σ id .dead ++ [ob]⟩ ∧ J s ⟨w', s.F, upd s.ρ s.σ.length m, Sto.put s.σ id .dead ++ [ob]⟩ := by
  have hid := get_lt hl
  have hme : ∀ b, m0.blk = some b → s.owns id b := fun b hb => .main hl hm0 hb
  have hsame : Same s.F s.w w' := fun b hb => hk.block b (hS.inF b hb) fun h => hS.notF b ⟨id, hme b h⟩ hb
  have hblk : ∀ j b, j ≠ id → s.owns j b → w'.heap[b]? = s.w.heap[b]? := fun j b hj h => hk.block b ((hS.obj j).ltO h) fun hb => hj (hS.sepO j id b h (hme b hb))
  have get : ∀ j, j < s.σ.length → Sto.get (Sto.put s.σ id .dead ++ [ob]) j = Sto.get (Sto.put s.σ id .dead) j := fun j h => get_append_lt (by rw [length_put]; exact h)
  have gnew : Sto.get (Sto.put s.σ id .dead ++ [ob]) s.σ.length = ob := by rw [get_append_ge (by rw [length_put]; exact Nat.le_refl _), length_put, Nat.sub_self]; rfl
  have key : ∀ j b, OwnsO w' (upd s.ρ s.σ.length m) j (Sto.get (Sto.put s.σ id .dead ++ [ob]) j) b →
      (j < s.σ.length ∧ j ≠ id ∧ s.owns j b ∧ b < s.w.heap.size) ∨ (j = s.σ.length ∧ (s.owns id b ∨ s.w.heap.size ≤ b)) := by
    intro j b h
    by_cases hj : j < s.σ.length
    · rw [get j hj] at h
      by_cases h2 : j = id
      · subst h2; rw [get_put_same hj] at h; cases h.1
      · rw [get_put_ne h2] at h
        have ho : s.owns j b := OwnsO.back h (fun m' h' => by rwa [upd_lt hj] at h') fun m' k hm' hk' => hblk j k h2 (.main h.1 hm' hk')
        exact .inl ⟨hj, h2, ho, (hS.obj j).ltO ho⟩
    · by_cases h2 : j = s.σ.length
      · subst h2
        rw [gnew] at h
        obtain ⟨_, m', e1, e2⟩ := h
        rw [upd_self] at e1; cases e1
        rcases e2 with e2 | ⟨hs, e3, e4⟩
        · exact .inr ⟨rfl, (hb b e2).imp (hme b) fun h => h⟩
        · exact .inr ⟨rfl, .inl (hd hs b e3 e4).1⟩
      · rw [get_ge (by simp [length_put]; omega)] at h; cases h.1
  refine hS.alter (fun b => m0.blk = some b) hk (fun b hb => ⟨id, hme b hb⟩) rfl (fun j hj => upd_lt hj) (by simp [length_put]) (fun j m' hm => ?_) (fun j => ?_) (fun j b h => ?_) (fun i j b h1 h2 => ?_) fun j m' hs b h1 h2 h3 h4 h5 => ?_
  · simp only [upd] at hm
    simp [length_put]
    split at hm
    · omega
    · have := hS.dom j m' hm; omega
  · by_cases h : j < s.σ.length
    · rw [get j h]
      by_cases h2 : j = id
      · subst h2; rw [get_put_same h]; trivial
      · rw [get_put_ne h2]
        exact (hS.obj j).mono hsame (fun _ h => h) (upd_mono hS m) fun b hb => hblk j b h2 hb
    · by_cases h2 : j = s.σ.length
      · subst h2
        rw [gnew]
        exact hob
      · rw [get_ge (by simp [length_put]; omega)]; trivial
  · rcases key j b h with h | h
    · exact .inl ⟨j, h.2.2.1⟩
    · exact h.2.imp (fun h => ⟨id, h⟩) fun h => h
  · rcases key i b h1 with ⟨a1, a2, a3, a4⟩ | ⟨a1, a2⟩ <;> rcases key j b h2 with ⟨c1, c2, c3, c4⟩ | ⟨c1, c2⟩
    · exact hS.sepO i j b a3 c3
    · rcases c2 with c2 | c2
      · exact (a2 (hS.sepO i id b a3 c2)).elim
      · omega
    · rcases a2 with a2 | a2
      · exact (c2 (hS.sepO j id b c3 a2)).elim
      · omega
    · omega
  · by_cases h : j < s.σ.length
    · rw [get j h] at h1 h3
      rw [upd_lt h] at h2
      by_cases h2' : j = id
      · subst h2'; rw [get_put_same h] at h1; cases h1
      · rw [get_put_ne h2'] at h1 h3
        exact hS.selfO j m' hs b h1 h2 h3 h4 (h5.back fun k hk' => hblk j k h2' (.main h1 h2 hk'))
    · by_cases h2' : j = s.σ.length
      · subst h2'
        rw [gnew] at h3
        rw [upd_self] at h2; cases h2
        exact (hd hs b h3 h5).2.2 h4
      · rw [get_ge (by simp [length_put]; omega)] at h1; cases h1
end Go.Abs
