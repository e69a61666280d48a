/- Calls: other names for objects, what a callee sees, what it hands back. -/
import Derived.Test.YteeigkbjjoedoaaAOpsH
set_option linter.unusedVariables false
set_option linter.unusedSimpArgs false
namespace Go.Abs
section
variable {w : World} {F : Nat → Prop} {ρ ρ' : Map} {g : Nat → Option Nat}
theorem VR.ren (hg : ∀ i j m, g i = some j → ρ i = some m → ρ' j = some m) {t : Ty} {v : AV} {cs : List Value} (h : VR w F ρ t v cs) : ∀ {n : Nat} {v' : AV}, AV.ren g n v = some v' → VR w F ρ' t v' cs := by
  induction h with
  | d h =>
    intro n v' hr
    cases n with
    | zero => cases hr
    | succ n => simp only [AV.ren, Option.some.injEq] at hr; subst hr; exact .d h
  | dp h1 h2 h3 h4 =>
    intro n v' hr
    cases n with
    | zero => cases hr
    | succ n => simp only [AV.ren, Option.some.injEq] at hr; subst hr; exact .dp h1 h2 h3 h4
  | dx h =>
    intro n v' hr
    cases n with
    | zero => cases hr
    | succ n => simp only [AV.ren, Option.some.injEq] at hr; subst hr; exact .dx h
  | nils =>
    intro n v' hr
    cases n with
    | zero => cases hr
    | succ n => simp only [AV.ren, Option.some.injEq] at hr; subst hr; exact .nils
  | mp h1 h2 =>
    intro n v' hr
    cases n with
    | zero => cases hr
    | succ n =>
      simp only [AV.ren, Option.map_eq_some_iff] at hr
      obtain ⟨j, hj, rfl⟩ := hr
      exact .mp (hg _ _ _ hj h1) h2
  | vec h1 h2 h3 =>
    intro n v' hr
    cases n with
    | zero => cases hr
    | succ n =>
      simp only [AV.ren, Option.map_eq_some_iff] at hr
      obtain ⟨j, hj, rfl⟩ := hr
      exact .vec (hg _ _ _ hj h1) h2 h3
  | sl h1 h2 h3 h4 h5 h6 h7 h8 =>
    intro n v' hr
    cases n with
    | zero => cases hr
    | succ n =>
      simp only [AV.ren, Option.map_eq_some_iff] at hr
      obtain ⟨j, hj, rfl⟩ := hr
      exact .sl (hg _ _ _ hj h1) h2 h3 h4 h5 h6 h7 h8
  | ptr h1 h2 =>
    intro n v' hr
    cases n with
    | zero => cases hr
    | succ n =>
      simp only [AV.ren, Option.map_eq_some_iff] at hr
      obtain ⟨j, hj, rfl⟩ := hr
      exact .ptr (hg _ _ _ hj h1) h2
  | asl h1 h2 =>
    intro n v' hr
    cases n with
    | zero => cases hr
    | succ n =>
      simp only [AV.ren, Option.map_eq_some_iff] at hr
      obtain ⟨j, hj, rfl⟩ := hr
      exact .asl (hg _ _ _ hj h1) h2
  | @fn f first cap tf tc fs cs h1 h2 _ _ i1 i2 =>
    intro n v' hr
    cases n with
    | zero => cases hr
    | succ n =>
      simp only [AV.ren] at hr
      split at hr
      · rename_i a b ha hb
        simp only [Option.some.injEq] at hr
        subst hr
        exact .fn h1 h2 (i1 (n := n + 1) (by simp only [AV.ren, ha]; rfl)) (i2 (n := n + 1) (by simp only [AV.ren, hb]; rfl))
      · cases hr
  | unit =>
    intro n v' hr
    cases n with
    | zero => cases hr
    | succ n =>
      simp only [AV.ren] at hr
      cases n <;> (simp only [AV.ren.rens, Option.map_some, Option.some.injEq] at hr; subst hr; exact .unit)
  | pair _ _ i1 i2 =>
    intro n v' hr
    cases n with
    | zero => cases hr
    | succ n =>
      simp only [AV.ren] at hr
      cases n with
      | zero => simp [AV.ren.rens] at hr
      | succ n =>
        simp only [AV.ren.rens] at hr
        split at hr
        · rename_i a b ha hb
          simp only [Option.map_some, Option.some.injEq] at hr
          subst hr
          exact .pair (i1 ha) (i2 (n := n + 1) (by simp only [AV.ren, hb]; rfl))
        · cases hr
theorem VV1.ren (hg : ∀ i j m, g i = some j → ρ i = some m → ρ' j = some m) {v : AV} {c : Value} (h : VV1 w F ρ v c) {n : Nat} {v' : AV} (hr : AV.ren g n v = some v') : VV1 w F ρ' v' c := by
  have hvr : (∃ t cs, VR w F ρ t v cs ∧ c = toV t cs) → VV1 w F ρ' v' c := by
    rintro ⟨t, cs, h1, h2⟩
    have h3 := h1.ren hg hr
    rw [h2]
    have h4 := VV_of_VR h3
    cases v' with
    | tup l => cases h3
    | _ => exact h4
  cases n with
  | zero => cases hr
  | succ n =>
    cases v with
    | undef => simp only [AV.ren, Option.some.injEq] at hr; subst hr; trivial
    | skip => simp only [AV.ren, Option.some.injEq] at hr; subst hr; exact h
    | _ => exact hvr h
theorem VVs.ren (hg : ∀ i j m, g i = some j → ρ i = some m → ρ' j = some m) : ∀ {n : Nat} {l l' : List AV} {cs : List Value}, VVs w F ρ l cs → AV.ren.rens g n l = some l' → VVs w F ρ' l' cs
  | n, [], l', cs, h, hr => by
    cases cs with
    | cons _ _ => exact h.elim
    | nil => cases n <;> (simp only [AV.ren.rens, Option.some.injEq] at hr; subst hr; trivial)
  | 0, v :: l, l', cs, h, hr => by simp [AV.ren.rens] at hr
  | n + 1, v :: l, l', [], h, hr => h.elim
  | n + 1, v :: l, l', c :: cs, h, hr => by
    simp only [AV.ren.rens] at hr
    split at hr
    · rename_i a b ha hb
      simp only [Option.some.injEq] at hr
      subst hr
      exact ⟨h.1.ren hg ha, VVs.ren hg h.2 hb⟩
    · cases hr
theorem VV.ren (hg : ∀ i j m, g i = some j → ρ i = some m → ρ' j = some m) {v : AV} {c : Value} (h : VV w F ρ v c) {n : Nat} {v' : AV} (hr : AV.ren g n v = some v') : VV w F ρ' v' c := by
  cases n with
  | zero => cases hr
  | succ n =>
    have key : ∀ v, VV1 w F ρ v c → AV.ren g (n + 1) v = some v' → VV w F ρ' v' c := fun v h hr => VV_of_VV1 (h.ren hg hr)
    cases v with
    | tup l =>
      obtain ⟨cs, h1, h2⟩ := h
      simp only [AV.ren, Option.map_eq_some_iff] at hr
      obtain ⟨l', hl, rfl⟩ := hr
      exact ⟨cs, h1, h2.ren hg hl⟩
    | _ => exact key _ (by exact h) hr
theorem hsRen_mem : ∀ {hs hs' : List (Nat × Nat)}, hsRen g hs = some hs' → (∀ k j', (k, j') ∈ hs' → ∃ j, (k, j) ∈ hs ∧ g j = some j') ∧ (∀ k j, (k, j) ∈ hs → ∃ j', (k, j') ∈ hs')
  | [], hs', h => by cases h; exact ⟨fun _ _ h => (by cases h), fun _ _ h => (by cases h)⟩
  | p :: r, hs', h => by
    simp only [hsRen] at h
    split at h
    · rename_i a b ha hb
      cases h
      obtain ⟨h1, h2⟩ := hsRen_mem hb
      refine ⟨fun k j' hk => ?_, fun k j hk => ?_⟩
      · rcases List.mem_cons.1 hk with e | hk
        · cases e; exact ⟨p.2, by simp, ha⟩
        · obtain ⟨j, h3, h4⟩ := h1 k j' hk
          exact ⟨j, by simp [h3], h4⟩
      · rcases List.mem_cons.1 hk with e | hk
        · cases e; exact ⟨a, by simp⟩
        · obtain ⟨j', h3⟩ := h2 k j hk
          exact ⟨j', by simp [h3]⟩
    · cases h
theorem hsRen_free {hs hs' : List (Nat × Nat)} (h : hsRen g hs = some hs') (k : Nat) : Free hs' k ↔ Free hs k := by
  obtain ⟨h1, h2⟩ := hsRen_mem h
  exact ⟨fun h3 j hj => (h2 k j hj).elim fun j' hj' => h3 j' hj', fun h3 j' hj' => (h1 k j' hj').elim fun j hj => h3 j hj.1⟩
theorem Inner.free {m : Meta} {hs hs' : List (Nat × Nat)} (h : ∀ k, Free hs' k ↔ Free hs k) {b : Nat} : Inner w m hs' b ↔ Inner w m hs b :=
  ⟨fun ⟨i, blk, c, el, v, h1, h2, h3, h4, h5⟩ => ⟨i, blk, c, el, v, h1, h2, h3, (h i).1 h4, h5⟩, fun ⟨i, blk, c, el, v, h1, h2, h3, h4, h5⟩ => ⟨i, blk, c, el, v, h1, h2, h3, (h i).2 h4, h5⟩⟩
theorem ObR.ren (hg : ∀ i j m, g i = some j → ρ i = some m → ρ' j = some m) {i j : Nat} (hij : ∀ m, ρ i = some m → ρ' j = some m) {o o' : Ob} (h : ObR w F ρ i o) (hr : o.ren g = some o') : ObR w F ρ' j o' := by
  cases o with
  | dead => simp only [Ob.ren, Option.some.injEq] at hr; subst hr; trivial
  | row t xs ex =>
    simp only [Ob.ren, Option.some.injEq] at hr
    subst hr
    obtain ⟨m, h1, h2⟩ := h
    exact ⟨m, hij m h1, h2⟩
  | one t v =>
    simp only [Ob.ren, Option.map_eq_some_iff] at hr
    obtain ⟨v', hv, rfl⟩ := hr
    obtain ⟨m, b, c, el, h1, h2, h3, h4, h5, h6, h7⟩ := h
    exact ⟨m, b, c, el, hij m h1, h2, h3, h4, h5, h6, h7.ren hg hv⟩
  | kv t l =>
    simp only [Ob.ren, Option.some.injEq] at hr
    subst hr
    obtain ⟨m, b, es, clock, h1, h2⟩ := h
    exact ⟨m, b, es, clock, hij m h1, h2⟩
  | deep t xs hs =>
    simp only [Ob.ren, Option.map_eq_some_iff] at hr
    obtain ⟨hs', hh, rfl⟩ := hr
    obtain ⟨m, h1, h2, h3, h4, h5, h6⟩ := h
    refine ⟨m, hij m h1, h2, h3, h4, h5.imp (fun h => h) ?_, fun blk c el i i' v v' b a1 a2 a3 a4 a5 a6 => h6 blk c el i i' v v' b a1 a2 a3 a4 ((hsRen_free hh i).1 a5) ((hsRen_free hh i').1 a6)⟩
    rintro ⟨b, c, el, e1, e2, e3, e4⟩
    refine ⟨b, c, el, e1, e2, e3, fun i ys hi => ?_⟩
    obtain ⟨v, g1, g2, g3⟩ := e4 i ys hi
    refine ⟨v, g1, fun hf => g2 ((hsRen_free hh i).1 hf), fun j hj => ?_⟩
    obtain ⟨j0, q1, q2⟩ := (hsRen_mem hh).1 i j hj
    obtain ⟨mj, p1, p2, p3⟩ := g3 j0 q1
    exact ⟨mj, hg _ _ _ q2 p1, p2, p3⟩
end
theorem live_ren {g : Nat → Option Nat} {o o' : Ob} (hr : o.ren g = some o') : isLive o' = isLive o := by
  cases o with
  | dead => simp only [Ob.ren, Option.some.injEq] at hr; subst hr; rfl
  | row t xs ex => simp only [Ob.ren, Option.some.injEq] at hr; subst hr; rfl
  | kv t l => simp only [Ob.ren, Option.some.injEq] at hr; subst hr; rfl
  | deep t xs hs =>
    simp only [Ob.ren, Option.map_eq_some_iff] at hr
    obtain ⟨hs', hh, rfl⟩ := hr
    rfl
  | one t v =>
    simp only [Ob.ren, Option.map_eq_some_iff] at hr
    obtain ⟨v', hv, rfl⟩ := hr
    rfl
theorem holes_ren {g : Nat → Option Nat} {o o' : Ob} (hr : o.ren g = some o') : (holesOf o = none ∧ holesOf o' = none) ∨ ∃ hs hs', holesOf o = some hs ∧ holesOf o' = some hs' ∧ ∀ k, Free hs' k ↔ Free hs k := by
  cases o with
  | dead => simp only [Ob.ren, Option.some.injEq] at hr; subst hr; exact .inl ⟨rfl, rfl⟩
  | row t xs ex => simp only [Ob.ren, Option.some.injEq] at hr; subst hr; exact .inl ⟨rfl, rfl⟩
  | kv t l => simp only [Ob.ren, Option.some.injEq] at hr; subst hr; exact .inl ⟨rfl, rfl⟩
  | one t v =>
    simp only [Ob.ren, Option.map_eq_some_iff] at hr
    obtain ⟨v', hv, rfl⟩ := hr
    exact .inl ⟨rfl, rfl⟩
  | deep t xs hs =>
    simp only [Ob.ren, Option.map_eq_some_iff] at hr
    obtain ⟨hs', hh, rfl⟩ := hr
    exact .inr ⟨hs, hs', rfl, rfl, hsRen_free hh⟩
theorem OwnsO.ren {w : World} {ρ ρ' : Map} {g : Nat → Option Nat} {o o' : Ob} {i j b : Nat} (hr : o.ren g = some o') (h : OwnsO w ρ' j o' b) (hρ : ∀ m, ρ' j = some m → ρ i = some m) : OwnsO w ρ i o b := by
  obtain ⟨h1, m, h2, h3⟩ := h
  refine ⟨(live_ren hr).symm.trans h1, m, hρ m h2, h3.imp (fun h => h) ?_⟩
  rintro ⟨hs', h4, h5⟩
  rcases holes_ren hr with ⟨_, h6⟩ | ⟨hs, hs2, h6, h7, h8⟩
  · rw [h6] at h4; cases h4
  · rw [h7] at h4; cases h4
    exact ⟨hs, h6, (Inner.free h8).1 h5⟩
theorem self_ren {w : World} {g : Nat → Option Nat} {o o' : Ob} {m : Meta} {b : Nat} (hr : o.ren g = some o') {hs' : List (Nat × Nat)} (h : holesOf o' = some hs') (hi : Inner w m hs' b) : ∃ hs, holesOf o = some hs ∧ Inner w m hs b := by
  rcases holes_ren hr with ⟨_, h6⟩ | ⟨hs, hs2, h6, h7, h8⟩
  · rw [h6] at h; cases h
  · rw [h7] at h; cases h
    exact ⟨hs, h6, (Inner.free h8).1 hi⟩
theorem obsRen_get {g : Nat → Option Nat} : ∀ {l l' : List Ob}, obsRen g l = some l' → l'.length = l.length ∧ ∀ j, (Sto.get l j).ren g = some (Sto.get l' j)
  | [], l', h => by
    simp only [obsRen, Option.some.injEq] at h
    subst h
    exact ⟨rfl, fun j => by rw [get_nil]; rfl⟩
  | o :: r, l', h => by
    simp only [obsRen] at h
    split at h
    · rename_i a b ha hb
      simp only [Option.some.injEq] at h
      subst h
      obtain ⟨h1, h2⟩ := obsRen_get hb
      refine ⟨by simp [h1], fun j => ?_⟩
      cases j with
      | zero => exact ha
      | succ j => exact h2 j
    · cases h
theorem get_map {f : Nat → Ob} : ∀ {L : List Nat} {j : Nat}, Sto.get (L.map f) j = (match L[j]? with | some i => f i | none => .dead)
  | [], j => by rw [List.map_nil, get_nil]; rfl
  | x :: L, 0 => rfl
  | x :: L, j + 1 => by
    show Sto.get (L.map f) j = _
    rw [get_map, List.getElem?_cons_succ]
theorem place_get : ∀ {L : List Nat} {i j : Nat}, place L i = some j → L[j]? = some i
  | [], i, j, h => by simp [place] at h
  | x :: L, i, j, h => by
    simp only [place] at h
    cases hb : Nat.beq x i with
    | true => rw [hb] at h; cases h; rw [beq_eq.1 hb]; rfl
    | false =>
      rw [hb] at h
      simp only [cond_false, Option.map_eq_some_iff] at h
      obtain ⟨k, hk, rfl⟩ := h
      simpa using place_get hk
theorem mem_iff : ∀ {L : List Nat} {i : Nat}, mem i L = true ↔ i ∈ L
  | [], i => by simp [mem]
  | x :: L, i => by
    simp only [mem]
    cases hb : Nat.beq i x with
    | true => simp [beq_eq.1 hb]
    | false =>
      have : i ≠ x := fun h => by rw [beq_eq.2 h] at hb; cases hb
      simp [mem_iff, this]
theorem nodup_inj : ∀ {L : List Nat} {i j x : Nat}, nodupB L = true → L[i]? = some x → L[j]? = some x → i = j
  | [], i, j, x, _, h, _ => by simp at h
  | y :: L, i, j, x, hn, h1, h2 => by
    simp only [nodupB, Bool.and_eq_true, Bool.not_eq_true'] at hn
    have hy : y ∉ L := fun h => by rw [mem_iff.2 h] at hn; cases hn.1
    cases i with
    | zero =>
      cases j with
      | zero => rfl
      | succ j =>
        simp at h1 h2
        exact (hy (h1 ▸ List.mem_of_getElem? h2)).elim
    | succ i =>
      cases j with
      | zero =>
        simp at h1 h2
        exact (hy (h2 ▸ List.mem_of_getElem? h1)).elim
      | succ j => exact congrArg (· + 1) (nodup_inj (x := x) hn.2 (by simpa using h1) (by simpa using h2))
theorem range0_get : ∀ {s n k : Nat}, (range0 s n)[k]? = if k < n then some (s + k) else none
  | s, 0, k => by simp [range0]
  | s, n + 1, 0 => by simp [range0]
  | s, n + 1, k + 1 => by
    rw [range0, List.getElem?_cons_succ, range0_get]
    by_cases h : k < n
    · rw [if_pos h, if_pos (by omega)]; congr 1; omega
    · rw [if_neg h, if_neg (by omega)]
theorem range0_len : ∀ {s n : Nat}, (range0 s n).length = n
  | s, 0 => rfl
  | s, n + 1 => by rw [range0, List.length_cons, range0_len]
theorem putBack_len : ∀ {L : List Nat} {σ : Sto} {τ : List Ob}, L.length ≤ τ.length → (putBack σ L τ).length = σ.length + (τ.length - L.length)
  | [], σ, τ, _ => by simp [putBack]
  | i :: L, σ, [], h => by simp at h
  | i :: L, σ, o :: τ, h => by
    rw [putBack, putBack_len (by simpa using h), length_put]
    simp
theorem putBack_get : ∀ {L : List Nat} {σ : Sto} {τ : List Ob}, L.length ≤ τ.length → nodupB L = true → (∀ i ∈ L, i < σ.length) →
    (∀ j i, L[j]? = some i → Sto.get (putBack σ L τ) i = Sto.get τ j) ∧ (∀ i, i < σ.length → i ∉ L → Sto.get (putBack σ L τ) i = Sto.get σ i) ∧ (∀ k, Sto.get (putBack σ L τ) (σ.length + k) = Sto.get τ (L.length + k))
  | [], σ, τ, _, _, _ => by
    refine ⟨fun j i h => by simp at h, fun i hi _ => (by rw [putBack]; exact get_append_lt hi), fun k => ?_⟩
    simp only [putBack, List.length_nil, Nat.zero_add]
    rw [get_append_ge (by omega)]
    congr 1
    omega
  | x :: L, σ, [], h, _, _ => by simp at h
  | x :: L, σ, o :: τ, h, hn, hlt => by
    simp only [nodupB, Bool.and_eq_true, Bool.not_eq_true'] at hn
    have hx : x ∉ L := fun h => by rw [mem_iff.2 h] at hn; cases hn.1
    obtain ⟨h1, h2, h3⟩ := putBack_get (L := L) (σ := Sto.put σ x o) (τ := τ) (by simpa using h) hn.2 (fun i hi => by rw [length_put]; exact hlt i (by simp [hi]))
    rw [putBack]
    refine ⟨fun j i hj => ?_, fun i hi hm => ?_, fun k => ?_⟩
    · cases j with
      | zero =>
        simp at hj
        subst hj
        rw [h2 x (by rw [length_put]; exact hlt x (by simp)) hx]
        exact get_put_same (hlt x (by simp))
      | succ j => exact h1 j i (by simpa using hj)
    · rw [h2 i (by rw [length_put]; exact hi) (fun h => hm (by simp [h]))]
      exact get_put_ne (fun h => hm (by simp [h]))
    · have := h3 k
      rw [length_put] at this
      rw [this]
      rw [List.length_cons, show L.length + 1 + k = (L.length + k) + 1 by omega]
      rfl
end Go.Abs
