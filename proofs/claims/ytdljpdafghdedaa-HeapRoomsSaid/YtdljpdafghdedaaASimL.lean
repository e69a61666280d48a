/- How the relation between store and world is kept. -/
import Derived.Test.YtdljpdafghdedaaATys
set_option linter.unusedVariables false
namespace Go.Abs

theorem get_nil (id : Nat) : Sto.get [] id = .dead := by cases id <;> rfl
theorem get_lt : ∀ {σ : Sto} {id : Nat}, isLive (Sto.get σ id) = true → id < σ.length
  | [], id, h => by rw [get_nil] at h; cases h
  | _ :: σ, 0, _ => by simp
  | _ :: σ, n + 1, h => by have := get_lt (σ := σ) (id := n) h; simp; omega
theorem get_ge : ∀ {σ : Sto} {id : Nat}, σ.length ≤ id → Sto.get σ id = .dead
  | [], id, _ => get_nil id
  | _ :: σ, 0, h => by simp at h
  | _ :: σ, n + 1, h => get_ge (σ := σ) (id := n) (by simpa using h)
theorem get_append_lt : ∀ {σ τ : Sto} {id : Nat}, id < σ.length → Sto.get (σ ++ τ) id = Sto.get σ id
  | [], _, _, h => by simp at h
  | _ :: σ, τ, 0, _ => rfl
  | _ :: σ, τ, n + 1, h => get_append_lt (σ := σ) (τ := τ) (id := n) (by simpa using h)
theorem get_append_ge : ∀ {σ τ : Sto} {id : Nat}, σ.length ≤ id → Sto.get (σ ++ τ) id = Sto.get τ (id - σ.length)
  | [], _, _, _ => by simp
  | _ :: σ, τ, 0, h => by simp at h
  | _ :: σ, τ, n + 1, h => by
    have := get_append_ge (σ := σ) (τ := τ) (id := n) (by simpa using h)
    simpa [Sto.get] using this
theorem length_put : ∀ (σ : Sto) (id : Nat) (x : Ob), (Sto.put σ id x).length = σ.length
  | [], _, _ => rfl
  | _ :: σ, 0, _ => rfl
  | _ :: σ, n + 1, x => by simp [Sto.put, length_put σ n x]
theorem get_put_same : ∀ {σ : Sto} {id : Nat} {x : Ob}, id < σ.length → Sto.get (Sto.put σ id x) id = x
  | [], _, _, h => by simp at h
  | _ :: σ, 0, _, _ => rfl
  | _ :: σ, n + 1, x, h => get_put_same (σ := σ) (id := n) (by simpa using h)
theorem get_put_ne : ∀ {σ : Sto} {id j : Nat} {x : Ob}, j ≠ id → Sto.get (Sto.put σ id x) j = Sto.get σ j
  | [], _, _, _, _ => rfl
  | _ :: σ, 0, 0, _, h => (h rfl).elim
  | _ :: σ, 0, n + 1, _, _ => rfl
  | _ :: σ, n + 1, 0, _, _ => rfl
  | _ :: σ, n + 1, k + 1, x, h => get_put_ne (σ := σ) (id := n) (j := k) (by omega)

theorem Keep.mono {O O' : Nat → Prop} {w w' : World} (h : Keep O w w') (hO : ∀ b, O b → O' b) : Keep O' w w' :=
  ⟨h.os, h.tape, h.output, h.size, fun k hk ho => h.block k hk fun x => ho (hO k x), h.frz⟩
theorem Keep.trans {O : Nat → Prop} {a b c : World} (h : Keep O a b) (k : Keep O b c) : Keep O a c :=
  ⟨k.os.trans h.os, k.tape.trans h.tape, k.output.trans h.output, Nat.le_trans h.size k.size, fun i hi ho => (k.block i (Nat.lt_of_lt_of_le hi h.size) ho).trans (h.block i hi ho), fun a ha => (k.frz a (Nat.lt_of_lt_of_le ha h.size)).trans (h.frz a ha)⟩

theorem ObR.mono {w w' : World} {F F' : Nat → Prop} {ρ ρ' : Map} {id : Nat} {ob : Ob} (hs : Same F w w') (hF : ∀ b, F b → F' b) (hρ : ∀ id m, ρ id = some m → ρ' id = some m)
    (hb : ∀ m b, ρ id = some m → m.blk = some b → w'.heap[b]? = w.heap[b]?) (h : ObR w F ρ id ob) : ObR w' F' ρ' id ob := by
  cases ob with
  | dead => trivial
  | row t xs ex =>
    obtain ⟨m, h1, h2, h3, h4, h5, h6⟩ := h
    refine ⟨m, hρ _ _ h1, h2, h3, h4, h5, h6.imp (fun h => h) ?_⟩
    rintro ⟨b, c, el, cs, k1, k2, k3, k4, k5⟩
    exact ⟨b, c, el, cs, k1, (hb m b h1 k1).trans k2, k3, ImmL.mono (fun _ _ _ h => Imm.mono hs hF h) k4, k5⟩
  | one t v =>
    obtain ⟨m, b, c, el, h1, h2, h3, h4, h5, h6, h7⟩ := h
    exact ⟨m, b, c, el, hρ _ _ h1, h2, h3, h4, h5, (hb m b h1 h3).trans h6, h7.mono hs hF hρ⟩
  | kv t l =>
    obtain ⟨m, b, es, clock, h1, h2, h3, h4⟩ := h
    exact ⟨m, b, es, clock, hρ _ _ h1, h2, (hb m b h1 h2).trans h3, h4.mono hs hF⟩

theorem ObR.map {w : World} {F : Nat → Prop} {ρ : Map} {id : Nat} {ob : Ob} (h : ObR w F ρ id ob) (hl : isLive ob = true) : ∃ m, ρ id = some m := by
  cases ob with
  | dead => cases hl
  | row t xs ex => obtain ⟨m, h, _⟩ := h; exact ⟨m, h⟩
  | one t v => obtain ⟨m, _, _, _, h, _⟩ := h; exact ⟨m, h⟩
  | kv t l => obtain ⟨m, _, _, _, h, _⟩ := h; exact ⟨m, h⟩

theorem ObR.lt {w : World} {F : Nat → Prop} {ρ : Map} {id : Nat} {ob : Ob} (h : ObR w F ρ id ob) (hl : isLive ob = true) {m b} (hm : ρ id = some m) (hb : m.blk = some b) : b < w.heap.size := by
  cases ob with
  | dead => cases hl
  | row t xs ex =>
    obtain ⟨m', h, _, _, _, _, h6⟩ := h
    rw [hm] at h; cases h
    rcases h6 with h6 | ⟨b', c, el, cs, k1, k2, _⟩
    · rw [hb] at h6; cases h6.1
    · rw [hb] at k1; cases k1
      exact (Array.getElem?_eq_some_iff.1 k2).1
  | one t v =>
    obtain ⟨m', b', c, el, h, _, h3, _, _, h6, _⟩ := h
    rw [hm] at h; cases h
    rw [hb] at h3; cases h3
    exact (Array.getElem?_eq_some_iff.1 h6).1
  | kv t l =>
    obtain ⟨m', b', es, clock, h, h3, h6, _⟩ := h
    rw [hm] at h; cases h
    rw [hb] at h3; cases h3
    exact (Array.getElem?_eq_some_iff.1 h6).1

theorem Sim.own_lt {s : St} (hS : Sim s) {b : Nat} (h : s.own b) : b < s.w.heap.size := by
  obtain ⟨id, m, hl, hm, hb⟩ := h
  exact (hS.obj id).lt hl hm hb

def upd (ρ : Map) (i : Nat) (m : Meta) : Map := fun j => if j = i then some m else ρ j

theorem upd_mono {s : St} (hS : Sim s) (m : Meta) : ∀ id m', s.ρ id = some m' → upd s.ρ s.σ.length m id = some m' := by
  intro id m' h
  have := hS.dom id m' h
  simp [upd, Nat.ne_of_lt this, h]

/-- only new blocks: no object turns -/
theorem Sim.quiet {s : St} (hS : Sim s) {w' : World} (hk : Keep (fun _ => False) s.w w') : Sim ⟨w', s.F, s.ρ, s.σ⟩ ∧ J s ⟨w', s.F, s.ρ, s.σ⟩ := by
  have hsame : Same s.F s.w w' := fun b hb => hk.block b (hS.inF b hb) id
  refine ⟨⟨fun id => ?_, hS.sep, hS.notF, fun b hb => Nat.lt_of_lt_of_le (hS.inF b hb) hk.size, hS.dom⟩, ⟨hk.mono (fun _ h => h.elim), fun _ h => h, fun _ h => .inl h, fun _ h => .inl h, fun _ _ => rfl, Nat.le_refl _⟩⟩
  cases hl : isLive (Sto.get s.σ id) with
  | false =>
    show ObR w' s.F s.ρ id (Sto.get s.σ id)
    cases ho : Sto.get s.σ id <;> rw [ho] at hl <;> first | trivial | cases hl
  | true => exact (hS.obj id).mono hsame (fun _ h => h) (fun _ _ h => h) fun m b hm hb => hk.block b ((hS.obj id).lt hl hm hb) (fun h => h)

/-- only new blocks, some of them never written -/
theorem Sim.quietF {s : St} (hS : Sim s) {w' : World} (hk : Keep (fun _ => False) s.w w') {F' : Nat → Prop} (hF : ∀ b, s.F b → F' b) (hn : ∀ b, F' b → s.F b ∨ (s.w.heap.size ≤ b ∧ b < w'.heap.size)) : Sim ⟨w', F', s.ρ, s.σ⟩ ∧ J s ⟨w', F', s.ρ, s.σ⟩ := by
  have hsame : Same s.F s.w w' := fun b hb => hk.block b (hS.inF b hb) id
  refine ⟨⟨fun id => ?_, hS.sep, fun b ho hb => ?_, fun b hb => ?_, hS.dom⟩, ⟨hk.mono (fun _ h => h.elim), hF, fun b hb => ?_, fun _ h => .inl h, fun _ _ => rfl, Nat.le_refl _⟩⟩
  · cases hl : isLive (Sto.get s.σ id) with
    | false =>
      show ObR w' F' s.ρ id (Sto.get s.σ id)
      cases ho : Sto.get s.σ id <;> rw [ho] at hl <;> first | trivial | cases hl
    | true => exact (hS.obj id).mono hsame hF (fun _ _ h => h) fun m b hm hb => hk.block b ((hS.obj id).lt hl hm hb) (fun h => h)
  · rcases hn b hb with h | h
    · exact hS.notF b ho h
    · obtain ⟨id, m, hl, hm, hbk⟩ := ho
      have := (hS.obj id).lt hl hm hbk
      omega
  · rcases hn b hb with h | h
    · exact Nat.lt_of_lt_of_le (hS.inF b h) hk.size
    · exact h.2
  · rcases hn b hb with h | h
    · exact .inl h
    · exact .inr (.inr h.1)

theorem ObR.of_dead {w : World} {F : Nat → Prop} {ρ : Map} {id : Nat} {ob : Ob} (h : isLive ob = false) : ObR w F ρ id ob := by
  cases ob <;> first | trivial | cases h

theorem get_weak : ∀ (σ : Sto) (id : Nat), Sto.get (σ.map Ob.weak) id = (Sto.get σ id).weak
  | [], id => by rw [List.map_nil, get_nil]; rfl
  | o :: σ, 0 => rfl
  | o :: σ, n + 1 => get_weak σ n
theorem live_weak (o : Ob) : isLive o.weak = isLive o := by cases o <;> rfl
theorem ObR.weak {w : World} {F : Nat → Prop} {ρ : Map} {id : Nat} {o : Ob} (h : ObR w F ρ id o) : ObR w F ρ id o.weak := by
  cases o with
  | row t xs ex =>
    obtain ⟨m, h1, h2, h3, h4, h5, h6⟩ := h
    exact ⟨m, h1, h2, h3, h4, (fun e => by cases e), h6⟩
  | _ => exact h
theorem Sim.weak {s : St} (hS : Sim s) : Sim ⟨s.w, s.F, s.ρ, s.σ.map Ob.weak⟩ ∧ J s ⟨s.w, s.F, s.ρ, s.σ.map Ob.weak⟩ := by
  have hl : ∀ id, isLive (Sto.get (s.σ.map Ob.weak) id) = isLive (Sto.get s.σ id) := fun id => by rw [get_weak, live_weak]
  have ho : ∀ b, (⟨s.w, s.F, s.ρ, s.σ.map Ob.weak⟩ : St).own b → s.own b := fun b ⟨id, m, h1, h2, h3⟩ => ⟨id, m, (hl id).symm.trans h1, h2, h3⟩
  refine ⟨⟨fun id => ?_, fun id id' m m' b h1 h2 => hS.sep id id' m m' b ((hl id).symm.trans h1) ((hl id').symm.trans h2), fun b h => hS.notF b (ho b h), hS.inF, fun id m h => ?_⟩,
    ⟨.refl _ _, fun _ h => h, fun _ h => .inl h, fun b h => .inl (ho b h), fun _ _ => rfl, by simp⟩⟩
  · show ObR s.w s.F s.ρ id (Sto.get (s.σ.map Ob.weak) id)
    rw [get_weak]
    exact (hS.obj id).weak
  · show id < (s.σ.map Ob.weak).length
    rw [List.length_map]
    exact hS.dom id m h

/-- a new object -/
theorem Sim.new {s : St} (hS : Sim s) {w' : World} {m : Meta} {ob : Ob} (hk : Keep (fun _ => False) s.w w') (hb : ∀ b, m.blk = some b → s.w.heap.size ≤ b)
    (hob : ObR w' s.F (upd s.ρ s.σ.length m) s.σ.length ob) :
    Sim ⟨w', s.F, upd s.ρ s.σ.length m, s.σ ++ [ob]⟩ ∧ J s ⟨w', s.F, upd s.ρ s.σ.length m, s.σ ++ [ob]⟩ := by
  have hsame : Same s.F s.w w' := fun b hb => hk.block b (hS.inF b hb) id
  have hown : ∀ b, (⟨w', s.F, upd s.ρ s.σ.length m, s.σ ++ [ob]⟩ : St).own b → s.own b ∨ s.w.heap.size ≤ b := by
    rintro b ⟨id, m', hl, hm, hbk⟩
    simp only at hl hm
    by_cases h : id < s.σ.length
    · rw [get_append_lt h] at hl
      simp only [upd, Nat.ne_of_lt h, if_false] at hm
      exact .inl ⟨id, m', hl, hm, hbk⟩
    · by_cases h2 : id = s.σ.length
      · subst h2
        simp only [upd, if_true] at hm
        cases hm
        exact .inr (hb b hbk)
      · rw [get_ge (by simp; omega)] at hl; cases hl
  refine ⟨⟨fun id => ?_, ?_, ?_, fun b hb => Nat.lt_of_lt_of_le (hS.inF b hb) hk.size, ?_⟩, ⟨hk.mono (fun _ h => h.elim), fun _ h => h, fun _ h => .inl h, hown, ?_, by simp⟩⟩
  · show ObR w' s.F (upd s.ρ s.σ.length m) id (Sto.get (s.σ ++ [ob]) id)
    by_cases h : id < s.σ.length
    · rw [get_append_lt h]
      cases hl : isLive (Sto.get s.σ id) with
      | false => exact .of_dead hl
      | true => exact (hS.obj id).mono hsame (fun _ h => h) (upd_mono hS m) fun m b hm hb => hk.block b ((hS.obj id).lt hl hm hb) (fun h => h)
    · by_cases h2 : id = s.σ.length
      · subst h2
        rw [get_append_ge (Nat.le_refl _), Nat.sub_self]
        exact hob
      · rw [get_ge (by simp; omega)]; trivial
  · intro id id' m1 m2 b hl hl' hm hm' hb1 hb2
    simp only at hl hl' hm hm'
    have key : ∀ id m1, isLive (Sto.get (s.σ ++ [ob]) id) = true → upd s.ρ s.σ.length m id = some m1 → m1.blk = some b →
        (id < s.σ.length ∧ isLive (Sto.get s.σ id) = true ∧ s.ρ id = some m1 ∧ b < s.w.heap.size) ∨ (id = s.σ.length ∧ s.w.heap.size ≤ b) := by
      intro id m1 hl hm hb1
      by_cases h : id < s.σ.length
      · rw [get_append_lt h] at hl
        simp only [upd, Nat.ne_of_lt h, if_false] at hm
        exact .inl ⟨h, hl, hm, (hS.obj id).lt hl hm hb1⟩
      · by_cases h2 : id = s.σ.length
        · subst h2
          simp only [upd, if_true] at hm
          cases hm
          exact .inr ⟨rfl, hb b hb1⟩
        · rw [get_ge (by simp; omega)] at hl; cases hl
    rcases key id m1 hl hm hb1 with ⟨h1, h2, h3, h4⟩ | ⟨h1, h2⟩ <;> rcases key id' m2 hl' hm' hb2 with ⟨k1, k2, k3, k4⟩ | ⟨k1, k2⟩
    · exact hS.sep id id' m1 m2 b h2 k2 h3 k3 hb1 hb2
    · omega
    · omega
    · omega
  · intro b ho hF
    rcases hown b ho with h | h
    · exact hS.notF b h hF
    · have := hS.inF b hF; omega
  · intro id m' hm
    simp only [upd] at hm
    simp
    split at hm
    · omega
    · have := hS.dom id m' hm; omega
  · intro id hid
    simp [upd, Nat.ne_of_lt hid]

/-- an object's content turns -/
theorem Sim.put {s : St} (hS : Sim s) {id : Nat} {m : Meta} (hl : isLive (Sto.get s.σ id) = true) (hm : s.ρ id = some m) {w' : World} {ob : Ob}
    (hk : Keep (fun b => m.blk = some b) s.w w') (hob : ObR w' s.F s.ρ id ob) :
    Sim ⟨w', s.F, s.ρ, Sto.put s.σ id ob⟩ ∧ J s ⟨w', s.F, s.ρ, Sto.put s.σ id ob⟩ := by
  have hid := get_lt hl
  have hsame : Same s.F s.w w' := fun b hb => hk.block b (hS.inF b hb) fun h => hS.notF b ⟨id, m, hl, hm, h⟩ hb
  have hlive : ∀ j, isLive (Sto.get (Sto.put s.σ id ob) j) = true → isLive (Sto.get s.σ j) = true := by
    intro j hj
    by_cases h : j = id
    · subst h; exact hl
    · rwa [get_put_ne h] at hj
  have hown : ∀ b, (⟨w', s.F, s.ρ, Sto.put s.σ id ob⟩ : St).own b → s.own b := fun b ⟨j, m', h1, h2, h3⟩ => ⟨j, m', hlive j h1, h2, h3⟩
  refine ⟨⟨fun j => ?_, fun i j m1 m2 b h1 h2 => hS.sep i j m1 m2 b (hlive i h1) (hlive j h2), fun b ho => hS.notF b (hown b ho), fun b hb => Nat.lt_of_lt_of_le (hS.inF b hb) hk.size, fun j m' h => by simp only [length_put]; exact hS.dom j m' h⟩,
    ⟨hk.mono fun b hb => ⟨id, m, hl, hm, hb⟩, fun _ h => h, fun _ h => .inl h, fun b h => .inl (hown b h), fun _ _ => rfl, by simp [length_put]⟩⟩
  show ObR w' s.F s.ρ j (Sto.get (Sto.put s.σ id ob) j)
  by_cases h : j = id
  · subst h
    rw [get_put_same hid]
    exact hob
  · rw [get_put_ne h]
    cases hlj : isLive (Sto.get s.σ j) with
    | false => exact .of_dead hlj
    | true => exact (hS.obj j).mono hsame (fun _ h => h) (fun _ _ h => h) fun m' b hm' hb =>
        hk.block b ((hS.obj j).lt hlj hm' hb) fun hmb => h (hS.sep j id m' m b hlj hl hm' hm hb hmb)

/-- an object is given up: its block is never written from here on -/
theorem Sim.kill1 {s : St} (hS : Sim s) (id : Nat) :
    Sim ⟨s.w, fun b => s.F b ∨ (isLive (Sto.get s.σ id) = true ∧ ∃ m, s.ρ id = some m ∧ m.blk = some b), s.ρ, Sto.put s.σ id .dead⟩ ∧
    J s ⟨s.w, fun b => s.F b ∨ (isLive (Sto.get s.σ id) = true ∧ ∃ m, s.ρ id = some m ∧ m.blk = some b), s.ρ, Sto.put s.σ id .dead⟩ := by
  have hsame : Same s.F s.w s.w := fun _ _ => rfl
  have hlive : ∀ j, isLive (Sto.get (Sto.put s.σ id .dead) j) = true → j ≠ id ∧ isLive (Sto.get s.σ j) = true := by
    intro j hj
    by_cases h : j = id
    · subst h
      by_cases h2 : j < s.σ.length
      · rw [get_put_same h2] at hj; cases hj
      · rw [get_ge (by rw [length_put]; omega)] at hj; cases hj
    · rw [get_put_ne h] at hj; exact ⟨h, hj⟩
  refine ⟨⟨fun j => ?_, fun i j m1 m2 b h1 h2 => hS.sep i j m1 m2 b (hlive i h1).2 (hlive j h2).2, ?_, ?_, fun j m' h => by simp only [length_put]; exact hS.dom j m' h⟩,
    ⟨.refl _ _, fun _ h => .inl h, ?_, fun b ⟨j, m', h1, h2, h3⟩ => .inl ⟨j, m', (hlive j h1).2, h2, h3⟩, fun _ _ => rfl, by simp [length_put]⟩⟩
  · cases hlj : isLive (Sto.get (Sto.put s.σ id .dead) j) with
    | false => exact .of_dead hlj
    | true =>
      have h := hlive j hlj
      show ObR s.w _ s.ρ j (Sto.get (Sto.put s.σ id .dead) j)
      rw [get_put_ne h.1]
      exact (hS.obj j).mono hsame (fun _ h => .inl h) (fun _ _ h => h) fun _ _ _ _ => rfl
  · rintro b ⟨j, m', h1, h2, h3⟩ hF
    have hj := hlive j h1
    rcases hF with hF | ⟨hl, m, hm, hb⟩
    · exact hS.notF b ⟨j, m', hj.2, h2, h3⟩ hF
    · exact hj.1 (hS.sep j id m' m b hj.2 hl h2 hm h3 hb)
  · rintro b (hb | ⟨hl, m, hm, hb⟩)
    · exact hS.inF b hb
    · exact (hS.obj id).lt hl hm hb
  · rintro b (hb | ⟨hl, m, hm, hb⟩)
    · exact .inl hb
    · exact .inr (.inl ⟨id, m, hl, hm, hb⟩)

/-- an object is given up, and a new one takes its block over, or one that is new -/
theorem Sim.repl {s : St} (hS : Sim s) {id : Nat} {m0 m : Meta} (hl : isLive (Sto.get s.σ id) = true) (hm0 : s.ρ id = some m0) {w' : World} {ob : Ob}
    (hk : Keep (fun b => m0.blk = some b) s.w w') (hb : ∀ b, m.blk = some b → m0.blk = some b ∨ s.w.heap.size ≤ b)
    (hob : ObR w' s.F (upd s.ρ s.σ.length m) s.σ.length ob) :
    Sim ⟨w', s.F, upd s.ρ s.σ.length m, Sto.put s.σ id .dead ++ [ob]⟩ ∧ J s ⟨w', s.F, upd s.ρ s.σ.length m, Sto.put s.σ id .dead ++ [ob]⟩ := by
  have hid := get_lt hl
  have hsame : Same s.F s.w w' := fun b hb => hk.block b (hS.inF b hb) fun h => hS.notF b ⟨id, m0, hl, hm0, h⟩ hb
  have key : ∀ j m1, isLive (Sto.get (Sto.put s.σ id .dead ++ [ob]) j) = true → upd s.ρ s.σ.length m j = some m1 →
      (j < s.σ.length ∧ j ≠ id ∧ isLive (Sto.get s.σ j) = true ∧ s.ρ j = some m1) ∨ (j = s.σ.length ∧ m1 = m) := by
    intro j m1 hlj hm
    by_cases h : j < s.σ.length
    · rw [get_append_lt (by rw [length_put]; exact h)] at hlj
      simp only [upd, Nat.ne_of_lt h, if_false] at hm
      by_cases h2 : j = id
      · subst h2; rw [get_put_same h] at hlj; cases hlj
      · rw [get_put_ne h2] at hlj; exact .inl ⟨h, h2, hlj, hm⟩
    · by_cases h2 : j = s.σ.length
      · subst h2
        simp only [upd, if_true] at hm
        cases hm
        exact .inr ⟨rfl, rfl⟩
      · rw [get_ge (by simp [length_put]; omega)] at hlj; cases hlj
  have hown : ∀ b, (⟨w', s.F, upd s.ρ s.σ.length m, Sto.put s.σ id .dead ++ [ob]⟩ : St).own b → s.own b ∨ s.w.heap.size ≤ b := by
    rintro b ⟨j, m', h1, h2, h3⟩
    rcases key j m' h1 h2 with ⟨_, _, k2, k3⟩ | ⟨_, k2⟩
    · exact .inl ⟨j, m', k2, k3, h3⟩
    · subst k2
      rcases hb b h3 with h | h
      · exact .inl ⟨id, m0, hl, hm0, h⟩
      · exact .inr h
  refine ⟨⟨fun j => ?_, ?_, ?_, fun b hb => Nat.lt_of_lt_of_le (hS.inF b hb) hk.size, ?_⟩, ⟨hk.mono (fun b h => ⟨id, m0, hl, hm0, h⟩), fun _ h => h, fun _ h => .inl h, hown, fun j hj => by simp [upd, Nat.ne_of_lt hj], by simp [length_put]⟩⟩
  · show ObR w' s.F (upd s.ρ s.σ.length m) j (Sto.get (Sto.put s.σ id .dead ++ [ob]) j)
    by_cases h : j < s.σ.length
    · rw [get_append_lt (by rw [length_put]; exact h)]
      by_cases h2 : j = id
      · subst h2; rw [get_put_same h]; trivial
      · rw [get_put_ne h2]
        cases hlj : isLive (Sto.get s.σ j) with
        | false => exact .of_dead hlj
        | true => exact (hS.obj j).mono hsame (fun _ h => h) (upd_mono hS m) fun m' b hm' hb' =>
            hk.block b ((hS.obj j).lt hlj hm' hb') fun hmb => h2 (hS.sep j id m' m0 b hlj hl hm' hm0 hb' hmb)
    · by_cases h2 : j = s.σ.length
      · subst h2
        rw [get_append_ge (by rw [length_put]; exact Nat.le_refl _), length_put, Nat.sub_self]
        exact hob
      · rw [get_ge (by simp [length_put]; omega)]; trivial
  · intro i j m1 m2 b hl1 hl2 hm1 hm2 hb1 hb2
    rcases key i m1 hl1 hm1 with ⟨a1, a2, a3, a4⟩ | ⟨a1, a2⟩ <;> rcases key j m2 hl2 hm2 with ⟨c1, c2, c3, c4⟩ | ⟨c1, c2⟩
    · exact hS.sep i j m1 m2 b a3 c3 a4 c4 hb1 hb2
    · subst c2
      rcases hb b hb2 with h | h
      · exact (a2 (hS.sep i id m1 m0 b a3 hl a4 hm0 hb1 h)).elim
      · have := (hS.obj i).lt a3 a4 hb1; omega
    · subst a2
      rcases hb b hb1 with h | h
      · exact (c2 (hS.sep j id m2 m0 b c3 hl c4 hm0 hb2 h)).elim
      · have := (hS.obj j).lt c3 c4 hb2; omega
    · omega
  · rintro b ⟨j, m', h1, h2, h3⟩ hF
    rcases key j m' h1 h2 with ⟨_, _, k2, k3⟩ | ⟨_, k2⟩
    · exact hS.notF b ⟨j, m', k2, k3, h3⟩ hF
    · subst k2
      rcases hb b h3 with h | h
      · exact hS.notF b ⟨id, m0, hl, hm0, h⟩ hF
      · have := hS.inF b hF; omega
  · intro j m' hm
    simp only [upd] at hm
    simp [length_put]
    split at hm
    · omega
    · have := hS.dom j m' hm; omega

end Go.Abs
