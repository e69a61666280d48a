/- The evaluator's single operations against the model's: reading memory. -/
import Derived.Test.YteeigkbjjoedoaaAOps1
set_option linter.unusedVariables false
set_option linter.unusedSimpArgs false
namespace Go.Abs
theorem add_add {a : Addr} (h : a.spot = none) (n m : Nat) : (a.add n).add m = a.add (n + m) := by
  obtain ⟨b, o, s⟩ := a
  simp only at h
  subst h
  unfold Addr.add
  by_cases hn : n = 0 <;> by_cases hm : m = 0 <;> simp [hn, hm, Nat.add_assoc]
theorem add_spot {a : Addr} (h : a.spot = none) (n : Nat) : (a.add n).spot = none := by unfold Addr.add; split <;> simp [h]
theorem add_eq (b o n : Nat) : (⟨b, o, none⟩ : Addr).add n = ⟨b, o + n, none⟩ := by unfold Addr.add; split <;> simp_all
def Sub (c : List Value) (k : Nat) (cs : List Value) : Prop := ∀ j v, c[j]? = some v → cs[k + j]? = some v
theorem Sub.refl (c : List Value) : Sub c 0 c := fun j v h => by simpa using h
theorem Sub.trans {a b c : List Value} {i j : Nat} (h : Sub a i b) (k : Sub b j c) : Sub a (j + i) c := fun n v hn => by
  have := k _ _ (h n v hn)
  rwa [← Nat.add_assoc] at this
theorem Sub.left (c r : List Value) : Sub c 0 (c ++ r) := fun j v h => by
  have : j < c.length := by
    rcases Nat.lt_or_ge j c.length with h' | h'
    · exact h'
    · rw [List.getElem?_eq_none h'] at h; cases h
  rw [Nat.zero_add, List.getElem?_append_left this, h]
theorem Sub.right (c r : List Value) : Sub r c.length (c ++ r) := fun j v h => by
  rw [List.getElem?_append_right (by omega)]
  simpa using h
theorem Sub.cast {a b : List Value} {i j : Nat} (h : Sub a i b) (e : i = j) : Sub a j b := e ▸ h
theorem Sub.at {w : World} {ad : Addr} (hsp : ad.spot = none) {c cs : List Value} {k : Nat} (h : Sub c k cs) (hA : At w ad cs) : At w (ad.add k) c := fun j v hj => by
  rw [add_add hsp]
  exact hA _ _ (h j v hj)
theorem ImmL.get {α : Type} {p : α → List Value → Prop} {n : Nat} (hp : ∀ x c, p x c → c.length = n) : ∀ {xs : List α} {cs} {i : Nat} {x : α}, ImmL p xs cs → xs[i]? = some x → ∃ c, p x c ∧ Sub c (i * n) cs
  | [], _, _, _, _, h => by simp at h
  | y :: xs, _, 0, x, ⟨c, r, e, h1, h2⟩, h => by
    simp at h
    subst h; subst e
    exact ⟨c, h1, (Sub.left c r).cast (by simp)⟩
  | y :: xs, _, i + 1, x, ⟨c, r, e, h1, h2⟩, h => by
    obtain ⟨c', h3, h4⟩ := ImmL.get hp (xs := xs) h2 (by simpa using h)
    subst e
    refine ⟨c', h3, (h4.trans (Sub.right c r)).cast ?_⟩
    rw [hp y c h1, Nat.add_mul]; omega
theorem getD_prop {w : World} {F : Nat → Prop} : ∀ {t : Ty} {x : t.T} {path : List Nat} {cs : List Value} {K : (u : Ty) → u.T → Prop}, getD (fun _ => False) t x path K → Imm w F t x cs →
    ∃ u y c, K u y ∧ Imm w F u y c ∧ Sub c (offP t path) cs ∧ placeTy t path = some u := by
  intro t
  induction t with
  | pair a b iha ihb =>
    intro x path cs K h hI
    match path, h with
    | [], h => exact ⟨_, x, cs, by simpa [getD] using h, hI, by simpa [offP] using Sub.refl cs, by simp [placeTy]⟩
    | 0 :: p, h =>
      obtain ⟨c, r, e, h1, h2⟩ := hI
      simp only [getD] at h
      obtain ⟨u, y, c', k1, k2, k3, k4⟩ := iha h h1
      subst e
      exact ⟨u, y, c', k1, k2, (k3.trans (Sub.left c r)).cast (by simp [offP]), by simpa [placeTy] using k4⟩
    | (n + 1) :: p, h =>
      obtain ⟨c, r, e, h1, h2⟩ := hI
      simp only [getD] at h
      obtain ⟨u, y, c', k1, k2, k3, k4⟩ := ihb h h2
      subst e
      exact ⟨u, y, c', k1, k2, (k3.trans (Sub.right c r)).cast (by rw [h1.length]; simp [offP]), by simpa [placeTy] using k4⟩
  | arr n e ihe =>
    intro x path cs K h hI
    match path, h with
    | [], h => exact ⟨_, x, cs, by simpa [getD] using h, hI, by simpa [offP] using Sub.refl cs, by simp [placeTy]⟩
    | i :: p, h =>
      simp only [getD] at h
      obtain ⟨y, hy, h⟩ := need_prop h
      obtain ⟨c, h1, h2⟩ := ImmL.get (fun _ _ h => Imm.length h) hI.2 hy
      obtain ⟨u, z, c', k1, k2, k3, k4⟩ := ihe h h1
      exact ⟨u, z, c', k1, k2, (k3.trans h2).cast (by simp [offP]), by simpa [placeTy] using k4⟩
  | _ =>
    intro x path cs K h hI
    match path, h with
    | [], h => exact ⟨_, x, cs, by simpa [getD] using h, hI, by simpa [offP] using Sub.refl cs, by simp [placeTy]⟩
    | _ :: _, h => simp [getD] at h
theorem VR_agg_get {w : World} {F : Nat → Prop} {ρ : Map} : ∀ {l : List AV} {t : Ty} {cs : List Value} {k : Nat} {v : AV}, VR w F ρ t (.agg l) cs → l[k]? = some v →
    ∃ u c, VR w F ρ u v c ∧ Sub c (offP t [k]) cs ∧ fieldTy t k = some u ∧ ∀ p, offP t (k :: p) = offP t [k] + offP u p ∧ placeTy t (k :: p) = placeTy u p
  | [], _, _, _, _, _, h => by simp at h
  | x :: l, _, _, 0, v, .pair h1 h2, h => by
    simp at h
    subst h
    exact ⟨_, _, h1, (Sub.left _ _).cast (by cases ‹Ty› <;> simp [offP]), rfl, fun p => by simp only [offP, placeTy]; exact ⟨by cases ‹Ty› <;> simp [offP], trivial⟩⟩
  | x :: l, _, _, k + 1, v, .pair (a := a) (b := b) (c := c) (r := r) h1 h2, h => by
    obtain ⟨u, c', k1, k2, k3, k4⟩ := VR_agg_get h2 (by simpa using h)
    refine ⟨u, c', k1, (k2.trans (Sub.right c r)).cast (by rw [h1.length]; simp [offP]), k3, fun p => ?_⟩
    simp only [offP, placeTy]
    rw [(k4 p).1]
    exact ⟨by omega, (k4 p).2⟩
theorem offP_nil (t : Ty) : offP t [] = 0 := by cases t <;> simp [offP]
theorem placeTy_nil (t : Ty) : placeTy t [] = some t := by cases t <;> simp [placeTy]
theorem getAV_prop {w : World} {F : Nat → Prop} {ρ : Map} : ∀ {n : Nat} {v : AV} {path : List Nat} {t : Ty} {cs : List Value} {K : AV → Prop}, getAV (fun _ => False) n v path K → VR w F ρ t v cs →
    ∃ u y c, K y ∧ VR w F ρ u y c ∧ Sub c (offP t path) cs ∧ placeTy t path = some u := by
  intro n
  induction n with
  | zero =>
    intro v path t cs K h hv
    match path, h with
    | [], h => exact ⟨t, v, cs, by simpa [getAV] using h, hv, by rw [offP_nil]; exact Sub.refl cs, placeTy_nil t⟩
    | _ :: _, h => simp [getAV] at h
  | succ n ih =>
    intro v path t cs K h hv
    match path, h with
    | [], h => exact ⟨t, v, cs, by simpa [getAV] using h, hv, by rw [offP_nil]; exact Sub.refl cs, placeTy_nil t⟩
    | k :: p, h =>
      simp only [getAV] at h
      split at h
      · cases hv with
        | d hI =>
          obtain ⟨u, y, c, k1, k2, k3, k4⟩ := getD_prop h hI
          exact ⟨u, _, c, k1, .d k2, k3, k4⟩
      · rename_i l
        split at h
        · rename_i x hx
          obtain ⟨u, c, k1, k2, k3, k4⟩ := VR_agg_get hv hx
          obtain ⟨u', y, c', j1, j2, j3, j4⟩ := ih h k1
          exact ⟨u', y, c', j1, j2, (j3.trans k2).cast (k4 p).1.symm, (k4 p).2.trans j4⟩
        · exact h.elim
      · exact h.elim
theorem conf_ty {s : St} (hS : Sim s) {u : Ty} {v : AV} {cs : List Value} (h : VR s.w s.F s.ρ u v cs) : ∀ {n : Nat} {t : Ty}, conf s.σ n t v = true → t = u := by
  have hrow : ∀ {id m}, s.ρ id = some m → ∀ {t : Ty}, (match Sto.get s.σ id with | .row e _ _ => t == .sl e | _ => false) = true → t = .sl m.ty := by
    intro id m hm t h
    have ho := hS.obj id
    split at h
    · rename_i e xs ex he
      rw [he] at ho
      obtain ⟨m', h1, h2, _⟩ := ho
      rw [hm] at h1
      cases h1
      rw [beq_iff_eq] at h
      rw [h, h2]
    · cases h
  induction h with
  | pair h1 h2 i1 i2 =>
    intro n t hc
    cases n with
    | zero => simp [conf] at hc
    | succ n =>
      simp only [conf] at hc
      split at hc
      · simp only [Bool.and_eq_true] at hc
        rw [i1 hc.1, i2 hc.2]
      · cases hc
  | @vec id0 m0 a0 h1 h2 h3 =>
    intro n t hc
    cases n with
    | zero => simp [conf] at hc
    | succ n =>
      simp only [conf] at hc
      cases hg : Sto.get s.σ id0 with
      | deep e xs hs =>
        rw [hg] at hc
        have ho := hS.obj id0
        rw [hg] at ho
        obtain ⟨m', k1, k2, _⟩ := ho
        rw [h1] at k1; cases k1
        rw [beq_iff_eq] at hc
        rw [hc, k2]
      | _ => rw [hg] at hc; exact hrow h1 (by rw [hg]; exact hc)
  | sl h1 =>
    intro n t hc
    cases n with
    | zero => simp [conf] at hc
    | succ n => simp only [conf] at hc; exact hrow h1 hc
  | d h =>
    intro n t hc
    cases n with
    | zero => simp [conf] at hc
    | succ n => simp only [conf, beq_iff_eq] at hc; exact hc.symm
  | _ =>
    intro n t hc
    cases n with
    | zero => simp [conf] at hc
    | succ n => simp only [conf, beq_iff_eq] at hc; exact hc
theorem vv_conf {s : St} (hS : Sim s) {v : AV} {c : Value} (h : s.vv v c) {n : Nat} {t : Ty} (hc : conf s.σ n t v = true) : ∃ cs, VR s.w s.F s.ρ t v cs ∧ c = toV t cs := by
  cases v with
  | undef => cases n <;> simp [conf] at hc
  | skip => cases n <;> simp [conf] at hc
  | tup l => cases n <;> simp [conf] at hc
  | _ =>
    obtain ⟨u, cs, h1, h2⟩ := h
    have := conf_ty hS h1 hc
    subst this
    exact ⟨cs, h1, h2⟩
theorem single_of_len {cs : List Value} (h : cs.length = 1) : ∃ v, cs = [v] := by
  match cs, h with
  | [v], _ => exact ⟨v, rfl⟩
theorem csz_one {t : Ty} (h : t.isA = false) : t.csz = 1 := by cases t <;> first | rfl | cases h
theorem run_loadVar_at {P : Program} {ty : Ty} {t : TypeId} (ht : tyb P ty t = true) {w : World} {a : Addr} {cs : List Value} (hl : cs.length = ty.csz) (h : At w a cs) : (loadVar t a).run P w = .ok (toV ty cs) w := by
  unfold loadVar
  rw [Sem.run_bind, run_isAgg' ht w, Result.andThen_ok]
  cases hA : ty.isA with
  | true =>
    simp only [if_true, Sem.run_bind, run_sizeOf' ht w, Result.andThen_ok, ← hl, run_loadCells_list w a cs h, Sem.run_pure, toV, hA]
  | false =>
    obtain ⟨v, rfl⟩ := single_of_len (hl.trans (csz_one hA))
    have h0 := h 0 v rfl
    have : a.add 0 = a := rfl
    rw [this] at h0
    simp [h0, toV, hA]
theorem at_of_prefix {w : World} {b : Nat} {c : Array Value} {el : TypeId} {fr : Nat × Nat} (hb : w.heap[b]? = some (.cells c el fr)) {cs : List Value} (hp : cs <+: c.toList) : At w ⟨b, 0, none⟩ cs := by
  intro j v hj
  rw [add_eq, Nat.zero_add]
  obtain ⟨r, hr⟩ := hp
  have : c.toList[j]? = some v := by
    rw [← hr]
    have := Sub.left cs r j v hj
    simpa using this
  simp only [World.cell?, hb, Option.isSome_none, Bool.false_eq_true, if_false]
  simpa using this
theorem loadK_sound {s : St} (hS : Sim s) {p : AV} {c : Value} (hp : s.vv p c) {K : AV → Prop} (h : loadK (fun _ => False) s.σ p K) :
    ∃ v u cs ad, K v ∧ c = .pointer (some ad) ∧ VR s.w s.F s.ρ u v cs ∧ At s.w ad cs := by
  unfold loadK at h
  split at h
  · obtain ⟨ad, cs, h1, h2, h3, h4, h5⟩ := VV_dp hp
    exact ⟨_, _, cs, ad, h, h1, .d h4, h5⟩
  · rename_i id i path
    obtain ⟨m, b, hc, hm, hb⟩ := VV_ptr hp
    have ho := hS.obj id
    split at h
    · rename_i t xs ex he
      rw [he] at ho
      obtain ⟨m', k1, k2, k3, k4, k5, k6⟩ := ho
      rw [hm] at k1; cases k1
      subst k2
      rcases k6 with ⟨k6, _⟩ | ⟨b', cc, el, cs, j1, j2, j3, j4, j5⟩
      · rw [hb] at k6; cases k6
      rw [hb] at j1; cases j1
      obtain ⟨x, hx, h⟩ := need_prop h
      obtain ⟨c1, i1, i2⟩ := ImmL.get (fun _ _ h => Imm.length h) j4 hx
      obtain ⟨u, y, c2, l1, l2, l3, l4⟩ := getD_prop h i1
      refine ⟨_, u, c2, _, l1, hc, .d l2, ?_⟩
      have := Sub.at rfl (l3.trans i2) (at_of_prefix j2 j5)
      rwa [add_eq, Nat.zero_add] at this
    · rename_i t v he
      rw [he] at ho
      obtain ⟨m', b', cc, el, k1, k2, k3, k4, k5, k6, k7⟩ := ho
      rw [hm] at k1; cases k1
      subst k2
      rw [hb] at k3; cases k3
      cases hi : Nat.beq i 0 with
      | false => rw [hi] at h; exact h.elim
      | true =>
        rw [hi] at h
        have := beq_eq.1 hi
        subst this
        obtain ⟨u, y, c2, l1, l2, l3, l4⟩ := getAV_prop h k7
        refine ⟨y, u, c2, _, l1, hc, l2, ?_⟩
        have := Sub.at rfl l3 (at_of_prefix k6 (List.prefix_refl _))
        rw [add_eq] at this
        rwa [Nat.zero_mul]
    · exact h.elim
  · exact h.elim
end Go.Abs
