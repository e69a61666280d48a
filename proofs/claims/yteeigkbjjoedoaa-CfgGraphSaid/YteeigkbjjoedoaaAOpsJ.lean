/- Calls: a callee over the objects that its arguments reach. -/
import Derived.Test.YteeigkbjjoedoaaAOpsI
set_option linter.unusedVariables false
set_option linter.unusedSimpArgs false
namespace Go.Abs
section
variable {P : Program}
theorem toD_VR {w : World} {F : Nat → Prop} {ρ : Map} {σ : Sto} {n : Nat} {t : Ty} {v : AV} {x : t.T} {c : Value} (h : toD σ n t v = some x) (hv : VV1 w F ρ v c) : ∃ u cs, VR w F ρ u v cs ∧ c = toV u cs := by
  cases v <;> first
    | exact hv
    | (cases n <;> simp [toD] at h; done)
theorem handArg_ok {E : Env} {s : St} (hS : Sim s) {F1 : Nat → Prop} (hF : ∀ b, s.F b → F1 b) {mode : Nat} {t : Option TypeId} {v : AV} {c : Value} (hv : VV1 s.w s.F s.ρ v c)
    (hl : ∀ id ∈ (handArg E s.σ mode t v).2.2, isLive (Sto.get s.σ id) = true → ∀ m b, s.ρ id = some m → m.blk = some b → F1 b) : VV1 s.w F1 s.ρ (handArg E s.σ mode t v).1 c := by
  have hsame : VV1 s.w F1 s.ρ v c := hv.mono (fun _ _ => rfl) hF (fun _ _ h => h)
  have hd : ∀ {ty : Ty} {x : ty.T}, toD s.σ depth ty v = some x → (∀ id ∈ AV.ids depth v, isLive (Sto.get s.σ id) = true → ∀ m b, s.ρ id = some m → m.blk = some b → F1 b) → VV1 s.w F1 s.ρ (.d ty x) c := by
    intro ty x hx hids
    obtain ⟨u, cs, h1, h2⟩ := toD_VR hx hv
    obtain ⟨h3, h4⟩ := toD_imm hS hF depth depth (Nat.le_refl _) hx h1 hids
    subst h3
    exact ⟨u, cs, .d h4, h2⟩
  have hfl : ∀ {ty : Ty} {x : ty.T}, toD s.σ depth ty v = some x → ty.flat = true → VV1 s.w F1 s.ρ (.d ty x) c := by
    intro ty x hx hf
    obtain ⟨u, cs, h1, h2⟩ := toD_VR hx hv
    obtain ⟨h3, h4⟩ := toD_imm hS (F' := fun b => s.F b ∨ ∃ id m, s.ρ id = some m ∧ m.blk = some b) (fun b h => .inl h) depth depth (Nat.le_refl _) hx h1 (fun id _ _ m b hm hb => .inr ⟨id, m, hm, hb⟩)
    subst h3
    exact ⟨u, cs, .d (h4.flat hf), h2⟩
  unfold handArg at hl ⊢
  split
  · rename_i ty hty
    simp only [hty] at hl
    cases hx : toD s.σ depth ty v with
    | none => exact hsame
    | some x =>
      rw [hx] at hl
      dsimp only at hl ⊢
      split
      · exact hd hx (fun id hid => by simp [AV.ids, depth] at hid)
      · exact hd hx (fun id hid => by simp [AV.ids, depth] at hid)
      · exact hd hx (fun id hid => by simp [AV.ids, depth] at hid)
      · rename_i h1 h2 h3
        have hl' : ∀ id ∈ (bif ty.flat then ((AV.d ty x, false, []) : AV × Bool × List Nat) else (.d ty x, true, v.ids depth)).2.2, isLive (Sto.get s.σ id) = true → ∀ m b, s.ρ id = some m → m.blk = some b → F1 b := by
          split at hl
          · exact (h1 _ _ rfl).elim
          · exact (h2 _ rfl).elim
          · exact (h3 _ _ rfl).elim
          · exact hl
        cases hf : ty.flat with
        | true => exact hfl hx hf
        | false => rw [hf] at hl'; exact hd hx hl'
  · exact hsame
theorem handArgs_ok {E : Env} {s : St} (hS : Sim s) {F1 : Nat → Prop} (hF : ∀ b, s.F b → F1 b) : ∀ {ms : List Nat} {ts : List TypeId} {args : List AV} {cs : List Value}, VVs s.w s.F s.ρ args cs →
    (∀ id ∈ (handArgs E s.σ ms ts args).flatMap (·.2.2), isLive (Sto.get s.σ id) = true → ∀ m b, s.ρ id = some m → m.blk = some b → F1 b) → VVs s.w F1 s.ρ ((handArgs E s.σ ms ts args).map (·.1)) cs
  | ms, ts, [], [], _, _ => trivial
  | ms, ts, [], _ :: _, h, _ => h.elim
  | ms, ts, _ :: _, [], h, _ => h.elim
  | ms, ts, v :: args, c :: cs, h, hl => by
    simp only [handArgs, List.flatMap_cons, List.mem_append] at hl
    exact ⟨handArg_ok hS hF h.1 (fun id hid => hl id (.inl hid)), handArgs_ok hS hF h.2 (fun id hid => hl id (.inr hid))⟩
theorem KvR.flat {w : World} {F F' : Nat → Prop} {t : Ty} (hf : t.flat = true) : ∀ {l : List (Int × t.T)} {es}, KvR w F t l es → KvR w F' t l es
  | [], [], _ => trivial
  | [], _ :: _, h => h.elim
  | _ :: _, [], h => h.elim
  | _ :: _, _ :: _, ⟨h1, ⟨cs, h2, h3⟩, h4⟩ => ⟨h1, ⟨cs, h2.flat hf, h3⟩, KvR.flat hf h4⟩
theorem VR.weaken {w : World} {F F' : Nat → Prop} {ρ : Map} {t : Ty} {v : AV} {cs : List Value} (h : VR w F ρ t v cs) : ∀ {n : Nat}, AV.flat n v = true → VR w F' ρ t v cs := by
  induction h with
  | d h => intro n hf; cases n with
    | zero => cases hf
    | succ n => exact .d (h.flat hf)
  | dp => intro n hf; cases n <;> cases hf
  | dx => intro n hf; cases n <;> cases hf
  | nils => intro n hf; exact .nils
  | vec h1 h2 h3 => intro n hf; exact .vec h1 h2 h3
  | sl h1 h2 h3 h4 h5 h6 h7 h8 => intro n hf; exact .sl h1 h2 h3 h4 h5 h6 h7 h8
  | ptr h1 h2 => intro n hf; exact .ptr h1 h2
  | asl h1 h2 => intro n hf; exact .asl h1 h2
  | mp h1 h2 => intro n hf; exact .mp h1 h2
  | fn h1 h2 _ _ i1 i2 =>
    intro n hf
    cases n with
    | zero => cases hf
    | succ n =>
      simp only [AV.flat, Bool.and_eq_true] at hf
      exact .fn h1 h2 (i1 (n := n + 1) hf.1) (i2 (n := n + 1) hf.2)
  | unit => intro n hf; exact .unit
  | pair _ _ i1 i2 =>
    intro n hf
    cases n with
    | zero => cases hf
    | succ n =>
      simp only [AV.flat, List.all_cons, Bool.and_eq_true] at hf
      exact .pair (i1 hf.1) (i2 (n := n + 1) hf.2)
theorem VV1.weaken {w : World} {F F' : Nat → Prop} {ρ : Map} {v : AV} {c : Value} (h : VV1 w F ρ v c) {n : Nat} (hf : AV.flat n v = true) : VV1 w F' ρ v c := by
  cases v <;> first
    | exact h
    | (obtain ⟨t, cs, h1, h2⟩ := h; exact ⟨t, cs, h1.weaken hf, h2⟩)
theorem VVs.weaken {w : World} {F F' : Nat → Prop} {ρ : Map} : ∀ {l : List AV} {cs : List Value} {n : Nat}, VVs w F ρ l cs → l.all (AV.flat n) = true → VVs w F' ρ l cs
  | [], [], _, _, _ => trivial
  | [], _ :: _, _, h, _ => h.elim
  | _ :: _, [], _, h, _ => h.elim
  | v :: l, c :: cs, n, h, hf => by
    simp only [List.all_cons, Bool.and_eq_true] at hf
    exact ⟨h.1.weaken hf.1, h.2.weaken hf.2⟩
theorem VV.weaken {w : World} {F F' : Nat → Prop} {ρ : Map} {v : AV} {c : Value} (h : VV w F ρ v c) {n : Nat} (hf : AV.flat n v = true) : VV w F' ρ v c := by
  have key : ∀ v, VV1 w F ρ v c → AV.flat n v = true → VV w F' ρ v c := fun v h hf => VV_of_VV1 (h.weaken hf)
  cases v with
  | tup l =>
    obtain ⟨cs, h1, h2⟩ := h
    cases n with
    | zero => cases hf
    | succ n => exact ⟨cs, h1, h2.weaken hf⟩
  | _ => exact key _ (by exact h) hf
theorem ObR.weaken {w : World} {F F' : Nat → Prop} {ρ : Map} {id : Nat} {o : Ob} (h : ObR w F ρ id o) (hf : o.flat = true) : ObR w F' ρ id o := by
  cases o with
  | dead => trivial
  | row t xs ex =>
    obtain ⟨m, h1, h2, h3, h4, h5, h6⟩ := h
    refine ⟨m, h1, h2, h3, h4, h5, h6.imp (fun h => h) ?_⟩
    rintro ⟨b, c, el, cs, j1, j2, j3, j4, j5⟩
    exact ⟨b, c, el, cs, j1, j2, j3, ImmL.mono (fun _ _ _ h => h.flat hf) j4, j5⟩
  | one t v =>
    obtain ⟨m, b, c, el, h1, h2, h3, h4, h5, h6, h7⟩ := h
    exact ⟨m, b, c, el, h1, h2, h3, h4, h5, h6, h7.weaken hf⟩
  | kv t l =>
    obtain ⟨m, b, es, clock, h1, h2, h3, h4⟩ := h
    exact ⟨m, b, es, clock, h1, h2, h3, h4.flat hf⟩
  | deep t xs hs =>
    obtain ⟨m, h1, h2, h3, h4, h5, h6⟩ := h
    refine ⟨m, h1, h2, h3, h4, h5.imp (fun h => h) ?_, h6⟩
    rintro ⟨b, c, el, e1, e2, e3, e4⟩
    refine ⟨b, c, el, e1, e2, e3, fun i ys hi => ?_⟩
    obtain ⟨v, g1, g2, g3⟩ := e4 i ys hi
    refine ⟨v, g1, fun hfr => ?_, g3⟩
    obtain ⟨a, cap, q1, q2, q3, q4⟩ := g2 hfr
    refine ⟨a, cap, q1, q2, q3, q4.imp (fun h => h) ?_⟩
    rintro ⟨b2, c2, el2, cs2, p1, p2, p3, p4, p5⟩
    exact ⟨b2, c2, el2, cs2, p1, p2, p3, ImmL.mono (fun _ _ _ h => h.flat hf) p4, p5⟩
theorem all_get {σ : Sto} (h : σ.all Ob.flat = true) (id : Nat) : (Sto.get σ id).flat = true := by
  induction σ generalizing id with
  | nil => rw [get_nil]; rfl
  | cons o σ ih =>
    simp only [List.all_cons, Bool.and_eq_true] at h
    cases id with
    | zero => exact h.1
    | succ id => exact ih h.2 id
theorem lend_owns {s : St} {L : List Nat} {τ : List Ob} (hτ : obsRen (place L) (L.map (Sto.get s.σ)) = some τ) {F' : Nat → Prop} {j b : Nat} (h : (⟨s.w, F', fun j => (L[j]?).bind s.ρ, τ⟩ : St).owns j b) : ∃ i, L[j]? = some i ∧ s.owns i b := by
  obtain ⟨hlen, hget⟩ := obsRen_get hτ
  have hg := hget j
  rw [get_map] at hg
  cases hL : L[j]? with
  | none =>
    rw [hL] at hg
    have h2 : Sto.get τ j = .dead := by simpa [Ob.ren] using hg.symm
    have h' : OwnsO s.w (fun j => (L[j]?).bind s.ρ) j (Sto.get τ j) b := h
    rw [h2] at h'
    cases h'.1
  | some i =>
    rw [hL] at hg
    exact ⟨i, rfl, OwnsO.ren hg h fun m hm => by simp only [hL] at hm; exact hm⟩
theorem lend_sim {s : St} (hS : Sim s) {L : List Nat} {τ : List Ob} (hn : nodupB L = true) (hτ : obsRen (place L) (L.map (Sto.get s.σ)) = some τ) {X : Nat → Prop}
    (hX : ∀ b, X b → ∃ id m, isLive (Sto.get s.σ id) = true ∧ id ∉ L ∧ s.ρ id = some m ∧ m.blk = some b) : Sim ⟨s.w, fun b => s.F b ∨ X b, fun j => (L[j]?).bind s.ρ, τ⟩ := by
  obtain ⟨hlen, hget⟩ := obsRen_get hτ
  have hbind : ∀ {j i : Nat}, L[j]? = some i → ((L[j]?).bind s.ρ) = s.ρ i := fun h => by rw [h]; rfl
  have hown : ∀ j b, (⟨s.w, fun b => s.F b ∨ X b, fun j => (L[j]?).bind s.ρ, τ⟩ : St).owns j b → ∃ i, L[j]? = some i ∧ s.owns i b := fun j b h => lend_owns hτ h
  refine ⟨fun j => ?_, fun j j' b h1 h2 => ?_, fun j m hs b h1 h2 h3 h4 h5 => ?_, fun b ⟨j, h⟩ hF => ?_, fun b hF => ?_, fun j m h => ?_⟩
  · show ObR s.w _ _ j (Sto.get τ j)
    have hg := hget j
    rw [get_map] at hg
    cases hL : L[j]? with
    | none =>
      rw [hL] at hg
      have h2 : Sto.get τ j = .dead := by simpa [Ob.ren] using hg.symm
      rw [h2]; trivial
    | some i =>
      rw [hL] at hg
      have ho := hS.obj i
      have hl := live_ren hg
      cases hli : isLive (Sto.get s.σ i) with
      | false => exact .of_dead (by rw [hl]; exact hli)
      | true =>
        have ho' : ObR s.w (fun b => s.F b ∨ X b) s.ρ i (Sto.get s.σ i) := ho.mono (fun _ _ => rfl) (fun b h => .inl h) (fun _ _ h => h) (fun _ _ => rfl)
        refine ho'.ren (g := place L) ?_ ?_ hg
        · intro i' j' m h1 h2
          exact (hbind (place_get h1)).trans h2
        · intro m hm
          exact (hbind hL).trans hm
  · obtain ⟨i, hi, ho⟩ := hown j b h1
    obtain ⟨i', hi', ho'⟩ := hown j' b h2
    have := hS.sepO i i' b ho ho'
    subst this
    exact nodup_inj hn hi hi'
  · have hg := hget j
    rw [get_map] at hg
    cases hL : L[j]? with
    | none =>
      rw [hL] at hg
      have h2' : Sto.get τ j = .dead := by simpa [Ob.ren] using hg.symm
      have h1' : isLive (Sto.get τ j) = true := h1
      rw [h2'] at h1'; cases h1'
    | some i =>
      rw [hL] at hg
      obtain ⟨hs0, q1, q2⟩ := self_ren hg h3 h5
      have h2' : (L[j]?).bind s.ρ = some m := h2
      rw [hL] at h2'
      exact hS.selfO i m hs0 b ((live_ren hg).symm.trans h1) h2' q1 h4 q2
  · obtain ⟨i, hi, ho⟩ := hown j b h
    rcases hF with hF | hF
    · exact hS.notF b ⟨i, ho⟩ hF
    · obtain ⟨id, m', k1, k2, k3, k4⟩ := hX b hF
      have := hS.sepO i id b ho (.main k1 k3 k4)
      exact k2 (this ▸ List.mem_of_getElem? hi)
  · rcases hF with hF | hF
    · exact hS.inF b hF
    · obtain ⟨id, m', k1, k2, k3, k4⟩ := hX b hF
      exact (hS.obj id).lt k1 k3 k4
  · simp only at h ⊢
    cases hL : L[j]? with
    | none => rw [hL] at h; cases h
    | some i =>
      have := (List.getElem?_eq_some_iff.1 hL).1
      rw [hlen, List.length_map]
      exact this
theorem back_sim {s s1 : St} (hS : Sim s) {L : List Nat} {τ τ'' : List Ob} {X : Nat → Prop} {lent : Bool} (hn : nodupB L = true) (hlt : ∀ i ∈ L, i < s.σ.length)
    (hS0 : Sim ⟨s.w, fun b => s.F b ∨ X b, fun j => (L[j]?).bind s.ρ, τ⟩) (hτl : τ.length = L.length) (hOw : ∀ j b, (⟨s.w, fun b => s.F b ∨ X b, fun j => (L[j]?).bind s.ρ, τ⟩ : St).owns j b → ∃ i, L[j]? = some i ∧ s.owns i b)
    (hX0 : lent = false → ∀ b, ¬ X b) (hS1 : Sim s1) (hJ : J ⟨s.w, fun b => s.F b ∨ X b, fun j => (L[j]?).bind s.ρ, τ⟩ s1) (hfl : lent = true → s1.σ.all Ob.flat = true)
    (hτ : obsRen ((L ++ range0 s.σ.length (s1.σ.length - L.length))[·]?) s1.σ = some τ'') :
    let s' : St := ⟨s1.w, fun b => if lent = true then s.F b else s1.F b, fun id => if id < s.σ.length then s.ρ id else s1.ρ (L.length + (id - s.σ.length)), putBack s.σ L τ''⟩
    Sim s' ∧ J s s' ∧ (∀ i j m, (L ++ range0 s.σ.length (s1.σ.length - L.length))[i]? = some j → s1.ρ i = some m → s'.ρ j = some m) ∧ (lent = false → s'.F = s1.F) := by
  intro s'
  obtain ⟨hlen, hget⟩ := obsRen_get hτ
  have hge : L.length ≤ s1.σ.length := by have := hJ.len; rw [← hτl]; exact this
  obtain ⟨g1, g2, g3⟩ := putBack_get (L := L) (σ := s.σ) (τ := τ'') (by rw [hlen]; exact hge) hn hlt
  have hplen : s'.σ.length = s.σ.length + (s1.σ.length - L.length) := by
    show (putBack s.σ L τ'').length = _
    rw [putBack_len (by rw [hlen]; exact hge), hlen]
  have hρL : ∀ j i, L[j]? = some i → s1.ρ j = s.ρ i := by
    intro j i h
    have hj : j < τ.length := by rw [hτl]; exact (List.getElem?_eq_some_iff.1 h).1
    rw [hJ.ρ j hj]
    show (L[j]?).bind s.ρ = s.ρ i
    rw [h]; rfl
  have hg : ∀ i j m, (L ++ range0 s.σ.length (s1.σ.length - L.length))[i]? = some j → s1.ρ i = some m → s'.ρ j = some m := by
    intro i j m h1 h2
    show (if j < s.σ.length then s.ρ j else s1.ρ (L.length + (j - s.σ.length))) = some m
    by_cases hi : i < L.length
    · rw [List.getElem?_append_left hi] at h1
      rw [if_pos (hlt j (List.mem_of_getElem? h1)), ← hρL i j h1]
      exact h2
    · rw [List.getElem?_append_right (by omega), range0_get] at h1
      split at h1
      · simp only [Option.some.injEq] at h1
        rw [if_neg (by omega), show L.length + (j - s.σ.length) = i by omega]
        exact h2
      · cases h1
  -- where an object comes from
  have horig : ∀ id, isLive (Sto.get s'.σ id) = true → (id < s.σ.length ∧ id ∉ L ∧ Sto.get s'.σ id = Sto.get s.σ id ∧ s'.ρ id = s.ρ id) ∨
      ∃ j, (L ++ range0 s.σ.length (s1.σ.length - L.length))[j]? = some id ∧ isLive (Sto.get s1.σ j) = true ∧ (Sto.get s1.σ j).ren ((L ++ range0 s.σ.length (s1.σ.length - L.length))[·]?) = some (Sto.get s'.σ id) ∧ s'.ρ id = s1.ρ j := by
    intro id hl
    by_cases hid : id < s.σ.length
    · by_cases hm : id ∈ L
      · obtain ⟨j, hj⟩ := List.getElem?_of_mem hm
        have e1 : Sto.get s'.σ id = Sto.get τ'' j := g1 j id hj
        refine .inr ⟨j, by rw [List.getElem?_append_left (List.getElem?_eq_some_iff.1 hj).1]; exact hj, ?_, by rw [e1]; exact hget j, ?_⟩
        · rw [← live_ren (hget j), ← e1]; exact hl
        · show (if id < s.σ.length then s.ρ id else _) = _
          rw [if_pos hid, hρL j id hj]
      · exact .inl ⟨hid, hm, g2 id hid hm, by show (if id < s.σ.length then s.ρ id else _) = _; rw [if_pos hid]⟩
    · have hid2 : id < s'.σ.length := get_lt hl
      rw [hplen] at hid2
      have e1 : Sto.get s'.σ id = Sto.get τ'' (L.length + (id - s.σ.length)) := by
        have := g3 (id - s.σ.length)
        rw [show s.σ.length + (id - s.σ.length) = id by omega] at this
        exact this
      refine .inr ⟨L.length + (id - s.σ.length), ?_, ?_, by rw [e1]; exact hget _, ?_⟩
      · rw [List.getElem?_append_right (by omega), range0_get, if_pos (by omega)]
        congr 1; omega
      · rw [← live_ren (hget (L.length + (id - s.σ.length))), ← e1]; exact hl
      · show (if id < s.σ.length then _ else s1.ρ _) = _
        rw [if_neg hid]
  have hFF : ∀ b, s.F b → s'.F b := by
    intro b hb
    show (if lent = true then s.F b else s1.F b)
    by_cases h : lent = true
    · rw [if_pos h]; exact hb
    · rw [if_neg h]; exact hJ.F b (.inl hb)
  have hsame : Same s.F s.w s1.w := fun b hb => hJ.same hS0 b (.inl hb)
  have hOld : ∀ id b, s.owns id b → id ∉ L → ¬ (⟨s.w, fun b => s.F b ∨ X b, fun j => (L[j]?).bind s.ρ, τ⟩ : St).own b := by
    rintro id b h1 h2 ⟨j, h3⟩
    obtain ⟨i, hi, ho⟩ := hOw j b h3
    have := hS.sepO id i b h1 ho
    exact h2 (this ▸ List.mem_of_getElem? hi)
  have hown0 : ∀ b, (⟨s.w, fun b => s.F b ∨ X b, fun j => (L[j]?).bind s.ρ, τ⟩ : St).own b → s.own b := by
    rintro b ⟨j, h⟩
    obtain ⟨i, _, ho⟩ := hOw j b h
    exact ⟨i, ho⟩
  have hblk : ∀ id b, s.owns id b → id ∉ L → s1.w.heap[b]? = s.w.heap[b]? := fun id b h h2 => hJ.keep.block b ((hS.obj id).ltO h) (hOld id b h h2)
  have hcase : ∀ id b, s'.owns id b → (id ∉ L ∧ s.owns id b) ∨ ∃ j, (L ++ range0 s.σ.length (s1.σ.length - L.length))[j]? = some id ∧ s1.owns j b := by
    intro id b h
    rcases horig id h.1 with ⟨h1, h2, h3, h4⟩ | ⟨j, h1, h2, h3, h4⟩
    · refine .inl ⟨h2, ?_⟩
      have h' : OwnsO s1.w s'.ρ id (Sto.get s'.σ id) b := h
      rw [h3] at h'
      exact OwnsO.back h' (fun m hm => by rw [h4] at hm; exact hm) fun m k hm hk => hblk id k (.main h'.1 hm hk) h2
    · exact .inr ⟨j, h1, OwnsO.ren h3 h fun m hm => by rw [h4] at hm; exact hm⟩
  have hFnew : lent = false → ∀ b, s1.F b → s.F b ∨ (⟨s.w, fun b => s.F b ∨ X b, fun j => (L[j]?).bind s.ρ, τ⟩ : St).own b ∨ s.w.heap.size ≤ b := by
    intro hl b hb
    rcases hJ.Fnew b hb with (h | h) | h | h
    · exact .inl h
    · exact (hX0 hl b h).elim
    · exact .inr (.inl h)
    · exact .inr (.inr h)
  refine ⟨⟨fun id => ?_, ?_, ?_, ?_, ?_, ?_⟩, ⟨hJ.keep.mono hown0, hFF, ?_, ?_, ?_, ?_⟩, hg, ?_⟩
  · -- objects
    cases hl : isLive (Sto.get s'.σ id) with
    | false => exact .of_dead hl
    | true =>
      rcases horig id hl with ⟨h1, h2, h3, h4⟩ | ⟨j, h1, h2, h3, h4⟩
      · rw [h3] at hl ⊢
        refine (hS.obj id).mono hsame hFF ?_ ?_
        · intro id' m hm
          show (if id' < s.σ.length then s.ρ id' else _) = _
          rw [if_pos (hS.dom id' m hm)]; exact hm
        · intro b hb
          exact hblk id b hb h2
      · have ho : ObR s1.w s'.F s1.ρ j (Sto.get s1.σ j) := by
          have ho := hS1.obj j
          cases hlt2 : lent with
          | true => exact ho.weaken (all_get (hfl hlt2) j)
          | false =>
            have : s'.F = s1.F := by funext b; show (if lent = true then s.F b else s1.F b) = _; rw [hlt2]; rfl
            rw [this]; exact ho
        exact ho.ren hg (fun m hm => by rw [h4]; exact hm) h3
  · -- apart
    intro id id' b h h'
    rcases hcase id b h with ⟨h2, h3⟩ | ⟨j, h1, h2⟩ <;> rcases hcase id' b h' with ⟨k2, k3⟩ | ⟨j', k1, k2⟩
    · exact hS.sepO id id' b h3 k3
    · rcases hJ.own b ⟨j', k2⟩ with h | h
      · exact (hOld id b h3 h2 h).elim
      · exact absurd (Nat.lt_of_lt_of_le ((hS.obj id).ltO h3) h) (Nat.lt_irrefl _)
    · rcases hJ.own b ⟨j, h2⟩ with h | h
      · exact (hOld id' b k3 k2 h).elim
      · exact absurd (Nat.lt_of_lt_of_le ((hS.obj id').ltO k3) h) (Nat.lt_irrefl _)
    · have := hS1.sepO j j' b h2 k2
      subst this
      rw [h1] at k1
      exact Option.some.inj k1
  · intro id m hs b hl hm hh hb hi
    rcases horig id hl with ⟨h1, h2, h3, h4⟩ | ⟨j, h1, h2, h3, h4⟩
    · rw [h3] at hl hh; rw [h4] at hm
      exact hS.selfO id m hs b hl hm hh hb (hi.back fun k hk => hblk id k (.main hl hm hk) h2)
    · obtain ⟨hs0, q1, q2⟩ := self_ren h3 hh hi
      rw [h4] at hm
      exact hS1.selfO j m hs0 b h2 hm q1 hb q2
  · -- frozen blocks are nobody's
    rintro b ⟨id, h⟩ hF
    have hF' : (lent = true ∧ s.F b) ∨ (lent = false ∧ s1.F b) := by
      have hF2 : (if lent = true then s.F b else s1.F b) := hF
      cases hlt2 : lent with
      | true => rw [hlt2] at hF2; exact .inl ⟨rfl, hF2⟩
      | false => rw [hlt2] at hF2; exact .inr ⟨rfl, hF2⟩
    rcases hcase id b h with ⟨h2, h3⟩ | ⟨j, h1, h2⟩
    · rcases hF' with ⟨_, hF⟩ | ⟨hl2, hF⟩
      · exact hS.notF b ⟨id, h3⟩ hF
      · rcases hFnew hl2 b hF with h | h | h
        · exact hS.notF b ⟨id, h3⟩ h
        · exact hOld id b h3 h2 h
        · exact absurd (Nat.lt_of_lt_of_le ((hS.obj id).ltO h3) h) (Nat.lt_irrefl _)
    · rcases hF' with ⟨_, hF⟩ | ⟨hl2, hF⟩
      · rcases hJ.own b ⟨j, h2⟩ with h | h
        · exact hS0.notF b h (.inl hF)
        · exact absurd (Nat.lt_of_lt_of_le (hS.inF b hF) h) (Nat.lt_irrefl _)
      · exact hS1.notF b ⟨j, h2⟩ hF
  · intro b hF
    have hF2 : (if lent = true then s.F b else s1.F b) := hF
    cases hlt2 : lent with
    | true => rw [hlt2] at hF2; exact Nat.lt_of_lt_of_le (hS.inF b hF2) hJ.keep.size
    | false => rw [hlt2] at hF2; exact hS1.inF b hF2
  · intro id m hm
    have hm2 : (if id < s.σ.length then s.ρ id else s1.ρ (L.length + (id - s.σ.length))) = some m := hm
    rw [hplen]
    by_cases hid : id < s.σ.length
    · omega
    · rw [if_neg hid] at hm2
      have := hS1.dom _ m hm2
      omega
  · intro b hF
    have hF2 : (if lent = true then s.F b else s1.F b) := hF
    cases hlt2 : lent with
    | true => rw [hlt2] at hF2; exact .inl hF2
    | false =>
      rw [hlt2] at hF2
      rcases hFnew hlt2 b hF2 with h | h | h
      · exact .inl h
      · exact .inr (.inl (hown0 b h))
      · exact .inr (.inr h)
  · rintro b ⟨id, h⟩
    rcases hcase id b h with ⟨h2, h3⟩ | ⟨j, h1, h2⟩
    · exact .inl ⟨id, h3⟩
    · rcases hJ.own b ⟨j, h2⟩ with h | h
      · exact .inl (hown0 b h)
      · exact .inr h
  · intro id hid
    show (if id < s.σ.length then s.ρ id else _) = _
    rw [if_pos hid]
  · rw [hplen]; omega
  · intro hl
    funext b
    show (if lent = true then s.F b else s1.F b) = _
    rw [hl]; rfl
theorem handArg_lent {E : Env} {σ : Sto} {mode : Nat} {t : Option TypeId} {v : AV} {id : Nat} (h : id ∈ (handArg E σ mode t v).2.2) : (handArg E σ mode t v).2.1 = true := by
  cases mode with
  | succ n => simp [handArg] at h
  | zero =>
    cases hty : t.bind E.tyOf with
    | none => simp [handArg, hty] at h
    | some ty =>
      simp only [handArg, hty] at h ⊢
      cases hx : toD σ depth ty v with
      | none => rw [hx] at h; simp at h
      | some x =>
        rw [hx] at h
        dsimp only at h ⊢
        split at h
        · simp at h
        · simp at h
        · simp at h
        · rename_i h1 h2 h3
          cases hf : ty.flat with
          | true => rw [hf] at h; simp at h
          | false => rfl
theorem handArgs_lent {E : Env} {σ : Sto} : ∀ {ms : List Nat} {ts : List TypeId} {args : List AV} {id : Nat}, id ∈ (handArgs E σ ms ts args).flatMap (·.2.2) → (handArgs E σ ms ts args).any (·.2.1) = true
  | ms, ts, [], id, h => by simp [handArgs] at h
  | ms, ts, v :: args, id, h => by
    simp only [handArgs, List.flatMap_cons, List.mem_append] at h
    simp only [handArgs, List.any_cons, Bool.or_eq_true]
    exact h.imp handArg_lent handArgs_lent
theorem callM_sound {E : Env} {call} (hcall : ∀ f args τ Q, call f args τ Q → SC P f args τ Q) {f : FuncId} {fn : Func} {ms : List Nat} {args : List AV} {σ : Sto} {K : AV → Sto → Prop} (h : callM (PA call) E f fn ms args σ K) : SC P f args σ K := by
  intro s cs hσ hS hv
  subst hσ
  unfold callM at h
  dsimp only at h
  generalize hhs : handArgs E s.σ ms fn.params.toList args = hs at h
  generalize hLd : reach s.σ 1000 ((hs.map (·.1)).flatMap (AV.ids depth)) [] = L at h
  obtain ⟨hnd, h1⟩ := not_match h
  clear h
  simp only [Bool.and_eq_true] at hnd
  obtain ⟨⟨hn, hlt⟩, hdis⟩ := hnd
  have hlt' : ∀ i ∈ L, i < s.σ.length := fun i hi => by
    have := List.all_eq_true.1 hlt i hi
    simpa [Nat.blt_eq] using this
  split at h1
  · rename_i τ vs' hτ hren
    have hX : ∀ b, (fun b => hs.any (·.2.1) = true ∧ ∃ id m, isLive (Sto.get s.σ id) = true ∧ id ∉ L ∧ s.ρ id = some m ∧ m.blk = some b) b → ∃ id m, isLive (Sto.get s.σ id) = true ∧ id ∉ L ∧ s.ρ id = some m ∧ m.blk = some b := fun b hb => hb.2
    have hS0 := lend_sim hS hn hτ hX
    obtain ⟨hτlen, hτget⟩ := obsRen_get hτ
    have hvs : VVs s.w (fun b => s.F b ∨ (hs.any (·.2.1) = true ∧ ∃ id m, isLive (Sto.get s.σ id) = true ∧ id ∉ L ∧ s.ρ id = some m ∧ m.blk = some b)) s.ρ (hs.map (·.1)) cs := by
      rw [← hhs]
      refine handArgs_ok hS (fun b hb => .inl hb) hv ?_
      intro id hid hl m b hm hb
      rw [hhs] at hid
      have h2 := List.all_eq_true.1 hdis id hid
      refine .inr ⟨handArgs_lent (by rw [hhs]; exact hid), id, m, hl, ?_, hm, hb⟩
      intro hmem
      rw [mem_iff.2 hmem] at h2
      cases h2
    have hren' : AV.ren.rens (place L) 39 (hs.map (·.1)) = some vs' := by
      have hr2 : (AV.ren.rens (place L) 39 (hs.map (·.1))).map AV.tup = some (.tup vs') := hren
      rw [Option.map_eq_some_iff] at hr2
      obtain ⟨x, hx, he⟩ := hr2
      cases he
      exact hx
    have hvs' := VVs.ren (ρ' := fun j => (L[j]?).bind s.ρ) (fun i j m h1 h2 => by rw [place_get h1]; exact h2) hvs hren'
    refine Calls.mono (hcall _ _ _ _ h1 ⟨s.w, _, _, τ⟩ cs rfl hS0 hvs') ?_
    rintro e w' ⟨v, c, s1, rfl, rfl, hJ, hS1, hvv, hQ⟩
    obtain ⟨hfl, hQ1⟩ := bif_prop hQ
    split at hQ1
    · rename_i τ'' v'' hτ'' hv''
      have hlv : ∀ j i, L[j]? = some i → isLive (Sto.get τ j) = isLive (Sto.get s.σ i) := by
        intro j i hj
        have := hτget j
        rw [get_map, hj] at this
        exact live_ren this
      obtain ⟨hS', hJ', hg, hF'⟩ := back_sim (lent := hs.any (·.2.1)) hS hn hlt' hS0 (by rw [hτlen, List.length_map]) (fun j b h => lend_owns hτ h) (fun h0 b hb => by rw [h0] at hb; cases hb.1) hS1 hJ (fun h0 => by
        rw [h0] at hfl
        simp only [Bool.not_true, Bool.false_or, Bool.and_eq_true] at hfl
        exact hfl.2) hτ''
      refine ⟨v'', c, ⟨s1.w, fun b => if hs.any (·.2.1) = true then s.F b else s1.F b, fun id => if id < s.σ.length then s.ρ id else s1.ρ (L.length + (id - s.σ.length)), putBack s.σ L τ''⟩, rfl, rfl, hJ', hS', ?_, hQ1⟩
      have hvv2 : VV s1.w (if hs.any (·.2.1) = true then s.F else s1.F) s1.ρ v c := by
        cases hl : hs.any (·.2.1) with
        | true =>
          rw [hl] at hfl
          simp only [Bool.not_true, Bool.false_or, Bool.and_eq_true] at hfl
          exact hvv.weaken hfl.1
        | false => exact hvv
      have hFe : (fun b => if hs.any (·.2.1) = true then s.F b else s1.F b) = (if hs.any (·.2.1) = true then s.F else s1.F) := by
        split <;> rfl
      have := hvv2.ren (ρ' := fun id => if id < s.σ.length then s.ρ id else s1.ρ (L.length + (id - s.σ.length))) hg hv''
      show VV s1.w (fun b => if hs.any (·.2.1) = true then s.F b else s1.F b) _ v'' c
      rw [hFe]
      exact this
    · exact hQ1.elim
  · exact h1.elim
theorem settle1_live {σ0 : Sto} {ids : List Nat} {o : Ob} : isLive (settle1 σ0 ids o) = isLive o := by
  unfold settle1
  split
  · cases !(AV.ids depth _).isEmpty && (AV.ids depth _).all (fun i => mem i ids) with
    | false => rfl
    | true =>
      dsimp only [cond_true]
      split <;> rfl
  · rfl
theorem settle1_holes {σ0 : Sto} {ids : List Nat} {o : Ob} : holesOf (settle1 σ0 ids o) = holesOf o := by
  unfold settle1
  split
  · cases !(AV.ids depth _).isEmpty && (AV.ids depth _).all (fun i => mem i ids) with
    | false => rfl
    | true =>
      dsimp only [cond_true]
      split <;> rfl
  · rfl
theorem settle_get {σ0 : Sto} {ids : List Nat} : ∀ {σ : Sto} {j : Nat}, Sto.get (settle σ0 ids σ) j = settle1 σ0 ids (Sto.get σ j)
  | [], _ => rfl
  | _ :: _, 0 => rfl
  | _ :: σ, n + 1 => settle_get (σ := σ) (j := n)
theorem settle_len {σ0 : Sto} {ids : List Nat} {σ : Sto} : (settle σ0 ids σ).length = σ.length := by simp [settle]
theorem kill_get : ∀ {ids : List Nat} {σ : Sto} {j : Nat}, Sto.get (kill σ ids) j = Sto.get σ j ∨ Sto.get (kill σ ids) j = .dead
  | [], _, _ => .inl rfl
  | i :: r, σ, j => by
    show Sto.get (kill (Sto.put σ i .dead) r) j = Sto.get σ j ∨ Sto.get (kill (Sto.put σ i .dead) r) j = .dead
    rcases kill_get (ids := r) (σ := Sto.put σ i .dead) (j := j) with h | h
    · rw [h]
      by_cases e : j = i
      · subst e
        by_cases hj : j < σ.length
        · exact .inr (get_put_same hj)
        · exact .inr (get_ge (by rw [length_put]; omega))
      · exact .inl (get_put_ne e)
    · exact .inr h
theorem settle1_R {s : St} (hS : Sim s) {ids : List Nat} {F' : Nat → Prop} (hF : ∀ b, s.F b → F' b) (hk : ∀ id ∈ ids, isLive (Sto.get s.σ id) = true → ∀ m b, s.ρ id = some m → m.blk = some b → F' b) {j : Nat} : ObR s.w F' s.ρ j (settle1 s.σ ids (Sto.get s.σ j)) := by
  have h0 : ObR s.w F' s.ρ j (Sto.get s.σ j) := (hS.obj j).mono (fun _ _ => rfl) hF (fun _ _ h => h) fun _ _ => rfl
  unfold settle1
  split
  · rename_i t v he
    have h1 := hS.obj j
    rw [he] at h1 h0
    cases hb : !(AV.ids depth v).isEmpty && (AV.ids depth v).all (fun i => mem i ids) with
    | false => exact h0
    | true =>
      dsimp only [cond_true]
      split
      · rename_i y hy
        obtain ⟨m, b, c, el, k1, k2, k3, k4, k5, k6, k7⟩ := h1
        have hall := (Bool.and_eq_true _ _ ▸ hb).2
        obtain ⟨e1, hI⟩ := toD_imm hS hF depth depth (Nat.le_refl _) hy k7 fun id hid => hk id (mem_iff.1 (List.all_eq_true.1 hall id hid))
        exact ⟨m, b, c, el, k1, k2, k3, k4, k5, k6, .d hI⟩
      · exact h0
  · exact h0
theorem settle_sim {s : St} (hS : Sim s) (ids : List Nat) : Sim ⟨s.w, (s.kill ids).F, s.ρ, settle s.σ ids (kill s.σ ids)⟩ ∧ J s ⟨s.w, (s.kill ids).F, s.ρ, settle s.σ ids (kill s.σ ids)⟩ := by
  obtain ⟨hS1, j1⟩ := St.kill_sim ids hS
  have eo : ∀ j b, OwnsO s.w s.ρ j (Sto.get (settle s.σ ids (kill s.σ ids)) j) b ↔ (s.kill ids).owns j b := fun j b => by
    unfold St.owns OwnsO
    rw [settle_get, settle1_live, settle1_holes, St.kill_w, St.kill_ρ, St.kill_σ]
  have ek : (s.kill ids) = ⟨s.w, (s.kill ids).F, s.ρ, kill s.σ ids⟩ := by
    rw [← St.kill_w ids s, ← St.kill_ρ ids s, ← St.kill_σ ids s]
  refine ⟨⟨fun j => ?_, fun i j b h1 h2 => hS1.sepO i j b ((eo i b).1 h1) ((eo j b).1 h2), fun j m hs b h1 h2 h3 => ?_, ?_, ?_, ?_⟩, ?_⟩
  · show ObR s.w (s.kill ids).F s.ρ j (Sto.get (settle s.σ ids (kill s.σ ids)) j)
    rw [settle_get]
    rcases kill_get (ids := ids) (σ := s.σ) (j := j) with h | h
    · rw [h]
      exact settle1_R hS (fun b hb => St.kill_F _ hb) fun id hid hl m b => St.kill_blk _ hid hl m b
    · rw [h]
      exact trivial
  · show m.blk = some b → ¬ Inner s.w m hs b
    have h1 : isLive (Sto.get (settle s.σ ids (kill s.σ ids)) j) = true := h1
    have h3 : holesOf (Sto.get (settle s.σ ids (kill s.σ ids)) j) = some hs := h3
    rw [settle_get, settle1_live] at h1
    rw [settle_get, settle1_holes] at h3
    have := hS1.selfO j m hs b (by rw [St.kill_σ]; exact h1) (by rw [St.kill_ρ]; exact h2) (by rw [St.kill_σ]; exact h3)
    rwa [St.kill_w] at this
  · rintro b ⟨j, h⟩
    exact hS1.notF b ⟨j, (eo j b).1 h⟩
  · intro b hb
    have := hS1.inF b hb
    rwa [St.kill_w] at this
  · intro j m h
    have := hS1.dom j m (by rw [St.kill_ρ]; exact h)
    rw [St.kill_σ] at this
    show j < (settle s.σ ids (kill s.σ ids)).length
    rw [settle_len]
    exact this
  · refine ⟨?_, j1.F, j1.Fnew, fun b ⟨j, h⟩ => j1.own b ⟨j, (eo j b).1 h⟩, fun _ _ => rfl, ?_⟩
    · exact .refl _ _
    · show s.σ.length ≤ (settle s.σ ids (kill s.σ ids)).length
      rw [settle_len]
      have := j1.len
      rwa [St.kill_σ] at this
theorem callK_sound {E : Env} {call} (hcall : ∀ f args τ Q, call f args τ Q → SC P f args τ Q) {f : FuncId} {args : List AV} {σ : Sto} {K : AV → Sto → Prop} (h : callK (PA call) E f args σ K) : SC P f args σ K := by
  unfold callK at h
  split at h
  · exact h.elim
  · rename_i fn hfn
    dsimp only at h
    revert h
    generalize msOf E σ (E.info f).modes fn.params.toList args = ms
    cases giveB E fn (handArgs E σ ms fn.params.toList args) σ with
    | false => exact fun h => callM_sound hcall h
    | true =>
      intro h s cs hσ hS hv
      subst hσ
      dsimp only [cond_true] at h
      obtain ⟨hS1, j1⟩ := settle_sim hS ((handArgs E s.σ ms fn.params.toList args).flatMap (·.2.2))
      have hv1 := handArgs_ok (E := E) (ms := ms) (ts := fn.params.toList) hS (F1 := (s.kill ((handArgs E s.σ ms fn.params.toList args).flatMap (·.2.2))).F) (fun b hb => St.kill_F _ hb) hv (fun id hid hl m b => St.kill_blk _ hid hl m b)
      have := callM_sound hcall h ⟨s.w, (s.kill ((handArgs E s.σ ms fn.params.toList args).flatMap (·.2.2))).F, s.ρ, _⟩ cs rfl hS1 hv1
      refine Calls.mono this ?_
      rintro e w' ⟨v, c, s', k1, k2, k3, k4⟩
      exact ⟨v, c, s', k1, k2, j1.trans k3, k4⟩
end
end Go.Abs
