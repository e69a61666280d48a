/- One form for one shape: a state cut down and its objects renumbered. -/
import Derived.Test.YteeigkbjjoedoaaAOpsK
set_option linter.unusedVariables false
set_option linter.unusedSimpArgs false
namespace Go.Abs
theorem prefix_get : ∀ {s n : Nat} {l : List Nat} {i : Nat}, prefixOk s n l = true → i < n → l[i]? = some (s + i)
  | s, 0, l, i, _, h => by omega
  | s, n + 1, [], i, h, _ => by simp [prefixOk] at h
  | s, n + 1, x :: r, 0, h, _ => by
    simp only [prefixOk, Bool.and_eq_true] at h
    rw [beq_eq.1 h.1]; simp
  | s, n + 1, x :: r, i + 1, h, hi => by
    simp only [prefixOk, Bool.and_eq_true] at h
    rw [List.getElem?_cons_succ, prefix_get h.2 (by omega)]
    congr 1; omega
theorem cut_ok {s0 s : St} (hS : Sim s) (hJ : J s0 s) {rs : List Nat} {τ : List Ob} (hn : nodupB rs = true) (hp : prefixOk 0 s0.σ.length rs = true) (hτ : obsRen (place rs) (rs.map (Sto.get s.σ)) = some τ) :
    Sim ⟨s.w, fun b => s.F b ∨ False, fun j => (rs[j]?).bind s.ρ, τ⟩ ∧ J s0 ⟨s.w, fun b => s.F b ∨ False, fun j => (rs[j]?).bind s.ρ, τ⟩ ∧ ∀ i j m, place rs i = some j → s.ρ i = some m → (rs[j]?).bind s.ρ = some m := by
  have hS1 := lend_sim (X := fun _ => False) hS hn hτ (fun b h => h.elim)
  obtain ⟨hlen, hget⟩ := obsRen_get hτ
  refine ⟨hS1, ⟨hJ.keep, fun b h => .inl (hJ.F b h), ?_, ?_, ?_, ?_⟩, fun i j m h1 h2 => by rw [place_get h1]; exact h2⟩
  · rintro b (h | h)
    · exact hJ.Fnew b h
    · exact h.elim
  · rintro b ⟨j, h⟩
    obtain ⟨i, _, ho⟩ := lend_owns hτ h
    exact hJ.own b ⟨i, ho⟩
  · intro id hid
    show (rs[id]?).bind s.ρ = s0.ρ id
    rw [prefix_get hp hid, Nat.zero_add]
    exact hJ.ρ id hid
  · show s0.σ.length ≤ τ.length
    rw [hlen, List.length_map]
    rcases Nat.lt_or_ge rs.length s0.σ.length with h | h
    · have := prefix_get hp h
      rw [List.getElem?_eq_none (Nat.le_refl _)] at this
      cases this
    · exact h
def nilRow (o : Ob) : Prop := ∃ z e, o = nilOb z e
def nilTy : Ob → Option Ty
  | .row e _ _ => some e
  | .deep e _ _ => some (.sl e)
  | _ => none
theorem nilOb_or (z : Bool) (e : Ty) : nilOb z e = .row e [] false ∨ ∃ u, e = .sl u ∧ nilOb z e = .deep u [] [] := by
  cases z
  · exact .inl rfl
  · cases e with
    | sl u =>
      have e : nilOb true (.sl u) = bif u.flat then .deep u [] [] else .row (.sl u) [] false := rfl
      rw [e]
      cases u.flat
      · left; rfl
      · right; exact ⟨u, rfl, rfl⟩
    | _ => exact .inl rfl
theorem nilTy_nil (z : Bool) (e : Ty) : nilTy (nilOb z e) = some e := by
  rcases nilOb_or z e with h | ⟨u, rfl, h⟩ <;> rw [h] <;> rfl
def Fits (ρ' : Map) (n : Nat) (obs : List Ob) : Prop := ∀ j z e, obs[j]? = some (nilOb z e) → ρ' (n + j) = some ⟨none, 0, 0, e, by decide⟩
theorem Fits.left {ρ' : Map} {n : Nat} {a b : List Ob} (h : Fits ρ' n (a ++ b)) : Fits ρ' n a := fun j z e hj => h j z e (by
  have := (List.getElem?_eq_some_iff.1 hj).1
  rw [List.getElem?_append_left this]; exact hj)
theorem Fits.right {ρ' : Map} {n : Nat} {a b : List Ob} (h : Fits ρ' n (a ++ b)) : Fits ρ' (n + a.length) b := fun j z e hj => by
  have := h (a.length + j) z e (by rw [List.getElem?_append_right (by omega), Nat.add_sub_cancel_left]; exact hj)
  rwa [← Nat.add_assoc] at this
section
variable {w : World} {F : Nat → Prop} {ρ ρ' : Map} {z : Bool}
theorem fill_rows : ∀ (k : Nat), (∀ (v : AV) (n : Nat), ∀ o ∈ (fill z k v n).2, nilRow o) ∧ (∀ (l : List AV) (n : Nat), ∀ o ∈ (fill.fills z k l n).2, nilRow o) := by
  intro k
  induction k with
  | zero => exact ⟨fun v n o h => by simp [fill] at h, fun l n o h => by simp [fill.fills] at h⟩
  | succ k ih =>
    refine ⟨fun v n o h => ?_, fun l n o h => ?_⟩
    · cases v <;> first
        | (simp only [fill, List.mem_singleton] at h; exact ⟨_, _, h⟩)
        | (simp only [fill] at h; exact ih.2 _ _ o h)
        | (simp [fill] at h; done)
    · cases l with
      | nil => simp [fill.fills] at h
      | cons v r =>
        simp only [fill.fills, List.mem_append] at h
        rcases h with h | h
        · exact ih.1 _ _ o h
        · exact ih.2 _ _ o h
theorem VR.fillup (hρ : ∀ id m, ρ id = some m → ρ' id = some m) {t : Ty} {v : AV} {cs : List Value} (h : VR w F ρ t v cs) :
    (∀ {k n : Nat}, Fits ρ' n (fill z k v n).2 → VR w F ρ' t (fill z k v n).1 cs) ∧ (∀ {l : List AV}, v = .agg l → ∀ {k n : Nat}, Fits ρ' n (fill.fills z k l n).2 → VR w F ρ' t (.agg (fill.fills z k l n).1) cs) := by
  have hm : ∀ {t : Ty} {v : AV} {cs : List Value}, VR w F ρ t v cs → VR w F ρ' t v cs := fun h => h.mono (fun _ _ => rfl) (fun _ h => h) hρ
  induction h with
  | d h => exact ⟨fun {k n} _ => by cases k <;> exact hm (.d h), fun h => by cases h⟩
  | dp h1 h2 h3 h4 => exact ⟨fun {k n} _ => by cases k <;> exact hm (.dp h1 h2 h3 h4), fun h => by cases h⟩
  | dx h => exact ⟨fun {k n} _ => by cases k <;> exact hm (.dx h), fun h => by cases h⟩
  | @nils e =>
    refine ⟨fun {k n} hf => ?_, fun h => by cases h⟩
    cases k with
    | zero => exact .nils
    | succ k =>
      have h1 : ρ' (n + 0) = some ⟨none, 0, 0, e, by decide⟩ := hf 0 z e rfl
      exact VR.vec (m := ⟨none, 0, 0, e, by decide⟩) h1 (Nat.le_refl _) (.inl rfl)
  | vec h1 h2 h3 => exact ⟨fun {k n} _ => by cases k <;> exact hm (.vec h1 h2 h3), fun h => by cases h⟩
  | sl h1 h2 h3 h4 h5 h6 h7 h8 => exact ⟨fun {k n} _ => by cases k <;> exact hm (.sl h1 h2 h3 h4 h5 h6 h7 h8), fun h => by cases h⟩
  | ptr h1 h2 => exact ⟨fun {k n} _ => by cases k <;> exact hm (.ptr h1 h2), fun h => by cases h⟩
  | asl h1 h2 => exact ⟨fun {k n} _ => by cases k <;> exact hm (.asl h1 h2), fun h => by cases h⟩
  | mp h1 h2 => exact ⟨fun {k n} _ => by cases k <;> exact hm (.mp h1 h2), fun h => by cases h⟩
  | fn h1 h2 h3 h4 => exact ⟨fun {k n} _ => by cases k <;> exact hm (.fn h1 h2 h3 h4), fun h => by cases h⟩
  | unit =>
    refine ⟨fun {k n} _ => ?_, fun h k n _ => ?_⟩
    · cases k with
      | zero => exact .unit
      | succ k => cases k <;> exact .unit
    · cases h
      cases k <;> exact .unit
  | @pair a b x l c r h1 h2 i1 i2 =>
    have key : ∀ {k n : Nat}, Fits ρ' n (fill.fills z k (x :: l) n).2 → VR w F ρ' (.pair a b) (.agg (fill.fills z k (x :: l) n).1) (c ++ r) := by
      intro k n hf
      cases k with
      | zero => exact hm (.pair h1 h2)
      | succ k =>
        simp only [fill.fills] at hf ⊢
        exact .pair (i1.1 hf.left) (i2.2 rfl hf.right)
    refine ⟨fun {k n} hf => ?_, fun h k n hf => by cases h; exact key hf⟩
    cases k with
    | zero => exact hm (.pair h1 h2)
    | succ k =>
      exact key hf
theorem VV1.fillup (hρ : ∀ id m, ρ id = some m → ρ' id = some m) {v : AV} {c : Value} (h : VV1 w F ρ v c) {k n : Nat} (hf : Fits ρ' n (fill z k v n).2) : VV1 w F ρ' (fill z k v n).1 c := by
  have hvr : (∃ t cs, VR w F ρ t v cs ∧ c = toV t cs) → VV1 w F ρ' (fill z k v n).1 c := by
    rintro ⟨t, cs, h1, h2⟩
    have h3 := (h1.fillup hρ).1 hf
    rw [h2]
    have h4 := VV_of_VR h3
    generalize (fill z k v n).1 = v' at h3 h4 ⊢
    cases v' with
    | tup l => cases h3
    | _ => exact h4
  cases v with
  | undef => cases k <;> trivial
  | skip => cases k <;> exact h
  | _ => exact hvr h
theorem VVs.fillup (hρ : ∀ id m, ρ id = some m → ρ' id = some m) : ∀ {k n : Nat} {l : List AV} {cs : List Value}, VVs w F ρ l cs → Fits ρ' n (fill.fills z k l n).2 → VVs w F ρ' (fill.fills z k l n).1 cs
  | 0, n, l, cs, h, _ => h.mono (fun _ _ => rfl) (fun _ h => h) hρ
  | k + 1, n, [], cs, h, _ => by cases cs <;> first | trivial | exact h.elim
  | k + 1, n, v :: l, [], h, _ => h.elim
  | k + 1, n, v :: l, c :: cs, h, hf => by
    simp only [fill.fills] at hf ⊢
    exact ⟨h.1.fillup hρ hf.left, VVs.fillup hρ h.2 hf.right⟩
theorem VV.fillup (hρ : ∀ id m, ρ id = some m → ρ' id = some m) {v : AV} {c : Value} (h : VV w F ρ v c) {k n : Nat} (hf : Fits ρ' n (fill z k v n).2) : VV w F ρ' (fill z k v n).1 c := by
  have key : ∀ v, VV1 w F ρ v c → Fits ρ' n (fill z k v n).2 → VV w F ρ' (fill z k v n).1 c := fun v h hf => VV_of_VV1 (h.fillup hρ hf)
  cases v with
  | tup l =>
    obtain ⟨cs, h1, h2⟩ := h
    cases k with
    | zero => exact ⟨cs, h1, h2.mono (fun _ _ => rfl) (fun _ h => h) hρ⟩
    | succ k => exact ⟨cs, h1, h2.fillup hρ hf⟩
  | _ => exact key _ (by exact h) hf
end
theorem fr_all {s : St} {get : Tmp → Value} : ∀ {fr : Fr}, (∀ p ∈ fr, s.vv p.2 (get p.1)) → ∀ t, s.vv (Fr.get fr t) (get t)
  | [], _, t => trivial
  | (u, v) :: r, h, t => by
    simp only [Fr.get_cons, Fr.get_nil]
    cases hb : Nat.beq u t with
    | true => rw [← beq_eq.1 hb]; exact h (u, v) (by simp)
    | false => exact fr_all (fun p hp => h p (by simp [hp])) t
section
variable {w : World} {F : Nat → Prop} {ρ ρ' : Map} {z : Bool}
theorem fillFr_ok (hρ : ∀ id m, ρ id = some m → ρ' id = some m) {get : Tmp → Value} : ∀ {fr : Fr} {n : Nat}, (∀ p ∈ fr, VV w F ρ p.2 (get p.1)) → Fits ρ' n (fillFr z fr n).2 → ∀ p ∈ (fillFr z fr n).1, VV w F ρ' p.2 (get p.1)
  | [], n, _, _, p, hp => by simp [fillFr] at hp
  | (u, v) :: r, n, h, hf, p, hp => by
    simp only [fillFr] at hf hp
    rcases List.mem_cons.1 hp with rfl | hp
    · exact (h (u, v) (by simp)).fillup hρ hf.left
    · exact fillFr_ok hρ (fun p hp => h p (by simp [hp])) hf.right p hp
theorem fillFr_rows : ∀ {fr : Fr} {n : Nat}, ∀ o ∈ (fillFr z fr n).2, nilRow o
  | [], n, o, h => by simp [fillFr] at h
  | (u, v) :: r, n, o, h => by
    simp only [fillFr, List.mem_append] at h
    rcases h with h | h
    · exact (fill_rows _).1 _ _ o h
    · exact fillFr_rows o h
theorem fillObs_rows : ∀ {τ : List Ob} {n : Nat}, ∀ o ∈ (fillObs z τ n).2, nilRow o
  | [], n, o, h => by simp [fillObs] at h
  | x :: r, n, o, h => by
    cases x with
    | one t v =>
      simp only [fillObs, List.mem_append] at h
      rcases h with h | h
      · exact (fill_rows _).1 _ _ o h
      · exact fillObs_rows o h
    | row t xs ex => simp only [fillObs] at h; exact fillObs_rows o h
    | kv t l => simp only [fillObs] at h; exact fillObs_rows o h
    | deep t xs hs => simp only [fillObs] at h; exact fillObs_rows o h
    | dead => simp only [fillObs] at h; exact fillObs_rows o h
theorem fillObs_ok (hρ : ∀ id m, ρ id = some m → ρ' id = some m) : ∀ {τ : List Ob} {n : Nat}, Fits ρ' n (fillObs z τ n).2 → (fillObs z τ n).1.length = τ.length ∧
    ∀ j id, isLive (Sto.get (fillObs z τ n).1 j) = isLive (Sto.get τ j) ∧ (ObR w F ρ id (Sto.get τ j) → ObR w F ρ' id (Sto.get (fillObs z τ n).1 j)) ∧ holesOf (Sto.get (fillObs z τ n).1 j) = holesOf (Sto.get τ j)
  | [], n, _ => ⟨rfl, fun j id => ⟨rfl, (fun h => by simp only [fillObs, get_nil]; trivial), rfl⟩⟩
  | x :: r, n, hf => by
    have hmono : ∀ {id : Nat} {o : Ob}, ObR w F ρ id o → ObR w F ρ' id o := fun h => h.mono (fun _ _ => rfl) (fun _ h => h) hρ (fun _ _ => rfl)
    cases x with
    | one t v =>
      simp only [fillObs] at hf ⊢
      obtain ⟨h1, h2⟩ := fillObs_ok hρ hf.right
      refine ⟨by simp [h1], fun j id => ?_⟩
      cases j with
      | zero =>
        refine ⟨rfl, fun h => ?_, rfl⟩
        obtain ⟨m, b, c, el, k1, k2, k3, k4, k5, k6, k7⟩ := h
        exact ⟨m, b, c, el, hρ _ _ k1, k2, k3, k4, k5, k6, (k7.fillup hρ).1 hf.left⟩
      | succ j => exact h2 j id
    | row t xs ex =>
      simp only [fillObs] at hf ⊢
      obtain ⟨h1, h2⟩ := fillObs_ok hρ hf
      refine ⟨by simp [h1], fun j id => ?_⟩
      cases j with
      | zero => exact ⟨rfl, hmono, rfl⟩
      | succ j => exact h2 j id
    | kv t l =>
      simp only [fillObs] at hf ⊢
      obtain ⟨h1, h2⟩ := fillObs_ok hρ hf
      refine ⟨by simp [h1], fun j id => ?_⟩
      cases j with
      | zero => exact ⟨rfl, hmono, rfl⟩
      | succ j => exact h2 j id
    | deep t xs hs =>
      simp only [fillObs] at hf ⊢
      obtain ⟨h1, h2⟩ := fillObs_ok hρ hf
      refine ⟨by simp [h1], fun j id => ?_⟩
      cases j with
      | zero => exact ⟨rfl, hmono, rfl⟩
      | succ j => exact h2 j id
    | dead =>
      simp only [fillObs] at hf ⊢
      obtain ⟨h1, h2⟩ := fillObs_ok hρ hf
      refine ⟨by simp [h1], fun j id => ?_⟩
      cases j with
      | zero => exact ⟨rfl, hmono, rfl⟩
      | succ j => exact h2 j id
end
def nilMap (ρ : Map) (n : Nat) (obs : List Ob) : Map := fun id =>
  if n ≤ id then (match (obs[id - n]?).bind nilTy with
    | some e => some ⟨none, 0, 0, e, by decide⟩
    | none => none)
  else ρ id
theorem nilMap_fits {ρ : Map} {n : Nat} {obs : List Ob} : Fits (nilMap ρ n obs) n obs := fun j z e hj => by
  unfold nilMap
  rw [if_pos (by omega), show n + j - n = j by omega, hj, Option.bind_some, nilTy_nil]
theorem get_elem : ∀ {σ : Sto} {i : Nat} {o : Ob}, σ[i]? = some o → Sto.get σ i = o
  | [], i, o, h => by simp at h
  | x :: r, 0, o, h => by
    have h' : x = o := by simpa using h
    exact h'
  | x :: r, i + 1, o, h => get_elem (σ := r) (by simpa using h)
theorem fill_ok {s0 s : St} (hS : Sim s) (hJ : J s0 s) {σ1 obs : List Ob} (hr : ∀ o ∈ obs, nilRow o) (hlen : σ1.length = s.σ.length)
    (hob : ∀ j id, isLive (Sto.get σ1 j) = isLive (Sto.get s.σ j) ∧ (ObR s.w s.F s.ρ id (Sto.get s.σ j) → ObR s.w s.F (nilMap s.ρ s.σ.length obs) id (Sto.get σ1 j)) ∧ holesOf (Sto.get σ1 j) = holesOf (Sto.get s.σ j)) :
    Sim ⟨s.w, s.F, nilMap s.ρ s.σ.length obs, σ1 ++ obs⟩ ∧ J s0 ⟨s.w, s.F, nilMap s.ρ s.σ.length obs, σ1 ++ obs⟩ := by
  have hold : ∀ id, id < s.σ.length → nilMap s.ρ s.σ.length obs id = s.ρ id := fun id h => by unfold nilMap; rw [if_neg (by omega)]
  have hnew : ∀ id m, s.σ.length ≤ id → nilMap s.ρ s.σ.length obs id = some m → m.blk = none ∧ id - s.σ.length < obs.length := by
    intro id m h hm
    unfold nilMap at hm
    rw [if_pos h] at hm
    split at hm
    · rename_i e he
      cases hm
      obtain ⟨o, ho, _⟩ := Option.bind_eq_some_iff.1 he
      exact ⟨rfl, (List.getElem?_eq_some_iff.1 ho).1⟩
    · cases hm
  have hlt : ∀ id m b, nilMap s.ρ s.σ.length obs id = some m → m.blk = some b → id < s.σ.length := by
    intro id m b hm hb
    rcases Nat.lt_or_ge id s.σ.length with h | h
    · exact h
    · rw [(hnew id m h hm).1] at hb; cases hb
  have hget : ∀ id, id < s.σ.length → Sto.get (σ1 ++ obs) id = Sto.get σ1 id := fun id h => get_append_lt (by rw [hlen]; exact h)
  have hnewob : ∀ id, s.σ.length ≤ id → isLive (Sto.get (σ1 ++ obs) id) = true → nilRow (Sto.get (σ1 ++ obs) id) := by
    intro id h hl
    rw [get_append_ge (by rw [hlen]; exact h), hlen] at hl ⊢
    have hlt2 := get_lt hl
    have hge : obs[id - s.σ.length]? = some (obs[id - s.σ.length]'hlt2) := List.getElem?_eq_getElem hlt2
    obtain ⟨z, e, he⟩ := hr _ (List.mem_of_getElem? hge)
    exact ⟨z, e, by rw [get_elem hge, he]⟩
  have howns : ∀ id b, (⟨s.w, s.F, nilMap s.ρ s.σ.length obs, σ1 ++ obs⟩ : St).owns id b → id < s.σ.length ∧ s.owns id b := by
    intro id b h
    rcases Nat.lt_or_ge id s.σ.length with hid | hid
    · obtain ⟨h1, m, h2, h3⟩ := h
      simp only at h1 h2
      rw [hget id hid] at h1 h3
      rw [hold id hid] at h2
      exact ⟨hid, (hob id id).1.symm.trans h1, m, h2, h3.imp (fun h => h) fun ⟨hs, h4, h5⟩ => ⟨hs, (hob id id).2.2.symm.trans h4, h5⟩⟩
    · obtain ⟨z, e, he⟩ := hnewob id hid h.1
      obtain ⟨h1, m, h2, h3⟩ := h
      simp only at h1 h2 h3
      rcases h3 with h3 | ⟨hs, _, i, blk, c, el, v, h5, _⟩
      · have := hlt id m b h2 h3; omega
      · have := hlt id m blk h2 h5; omega
  have hown : ∀ b, (⟨s.w, s.F, nilMap s.ρ s.σ.length obs, σ1 ++ obs⟩ : St).own b → s.own b := fun b ⟨id, h⟩ => ⟨id, (howns id b h).2⟩
  refine ⟨⟨fun id => ?_, fun id id' b h h' => hS.sepO id id' b (howns id b h).2 (howns id' b h').2, fun id m hs b h1 h2 h3 h4 h5 => ?_, fun b hb => hS.notF b (hown b hb), hS.inF, ?_⟩, ⟨hJ.keep, hJ.F, hJ.Fnew, fun b hb => hJ.own b (hown b hb), ?_, ?_⟩⟩
  · show ObR s.w s.F (nilMap s.ρ s.σ.length obs) id (Sto.get (σ1 ++ obs) id)
    rcases Nat.lt_or_ge id s.σ.length with h | h
    · rw [hget id h]
      exact (hob id id).2.1 (hS.obj id)
    · rw [get_append_ge (by rw [hlen]; exact h), hlen]
      cases hl : isLive (Sto.get obs (id - s.σ.length)) with
      | false => exact .of_dead hl
      | true =>
        have hlt2 := get_lt hl
        have hge : obs[id - s.σ.length]? = some (obs[id - s.σ.length]'hlt2) := List.getElem?_eq_getElem hlt2
        obtain ⟨z, e, he⟩ := hr _ (List.mem_of_getElem? hge)
        have hg2 : Sto.get obs (id - s.σ.length) = nilOb z e := by rw [get_elem hge, he]
        have hm0 : nilMap s.ρ s.σ.length obs id = some ⟨none, 0, 0, e, by decide⟩ := by unfold nilMap; rw [if_pos h, hge, he, Option.bind_some, nilTy_nil]
        rw [hg2]
        rcases nilOb_or z e with h5 | ⟨u, rfl, h5⟩
        · rw [h5]
          exact ⟨⟨none, 0, 0, e, by decide⟩, hm0, rfl, rfl, Nat.le_refl _, (fun h => by cases h), .inl ⟨rfl, rfl⟩⟩
        · rw [h5]
          exact ⟨⟨none, 0, 0, .sl u, by decide⟩, hm0, rfl, rfl, Nat.le_refl _, .inl ⟨rfl, rfl⟩, fun blk c el i i' v v' b a1 => by cases a1⟩
  · have hid := hlt id m b h2 h4
    simp only at h1 h2 h3
    rw [hget id hid] at h1 h3
    rw [hold id hid] at h2
    exact hS.selfO id m hs b ((hob id id).1.symm.trans h1) h2 ((hob id id).2.2.symm.trans h3) h4 h5
  · intro id m hm
    show id < (σ1 ++ obs).length
    rw [List.length_append, hlen]
    rcases Nat.lt_or_ge id s.σ.length with h | h
    · omega
    · have := (hnew id m h hm).2
      omega
  · intro id hid
    show nilMap s.ρ s.σ.length obs id = s0.ρ id
    rw [hold id (Nat.lt_of_lt_of_le hid hJ.len)]
    exact hJ.ρ id hid
  · show s0.σ.length ≤ (σ1 ++ obs).length
    rw [List.length_append, hlen]
    have := hJ.len
    omega
theorem nilMap_mono {s : St} (hS : Sim s) (obs : List Ob) : ∀ id m, s.ρ id = some m → nilMap s.ρ s.σ.length obs id = some m := fun id m h => by
  unfold nilMap
  rw [if_neg (by have := hS.dom id m h; omega)]
  exact h
theorem renOr_vv {w : World} {F : Nat → Prop} {ρ ρ' : Map} {g : Nat → Option Nat} (hg : ∀ i j m, g i = some j → ρ i = some m → ρ' j = some m) {v : AV} {c : Value} (h : VV w F ρ v c) : VV w F ρ' (renOr g v) c := by
  unfold renOr
  split
  · rename_i v' hv; exact h.ren hg hv
  · trivial
theorem norm_ok {s0 s : St} (hS : Sim s) (hJ : J s0 s) {L : List Nat} {fr : Fr} {a : Act} {nt : Nat} (hF : FrR s fr a nt) {K : Fr → Sto → Prop} {z : Bool} (h : norm z (fun _ => False) s0.σ.length L fr s.σ K) :
    ∃ s' fr', K fr' s'.σ ∧ Sim s' ∧ J s0 s' ∧ FrR s' fr' a nt ∧ s'.w = s.w := by
  unfold norm at h
  dsimp only at h
  generalize hvals : (L.map fun t => (t, Fr.get fr t)) = vals at h
  generalize hrs : reach s.σ 1000 (((range0 0 s0.σ.length).flatMap fun i => (Sto.get s.σ i).ids) ++ vals.flatMap fun x => x.2.ids depth) (range0 0 s0.σ.length) = rs at h
  obtain ⟨hc, h1⟩ := not_match h
  clear h
  rw [Bool.and_eq_true] at hc
  split at h1
  · exact h1.elim
  · rename_i τ hτ
    obtain ⟨hS1, hJ1, hg⟩ := cut_ok hS hJ hc.1 hc.2 hτ
    generalize hfr1 : (vals.map fun x => (x.1, renOr (place rs) x.2)) = fr1 at h1
    have hfrs : ∀ p ∈ fr1, VV s.w (fun b => s.F b ∨ False) (fun j => (rs[j]?).bind s.ρ) p.2 (a.tmps.getD p.1 undef) := by
      intro p hp
      rw [← hfr1, List.mem_map] at hp
      obtain ⟨x, hx, rfl⟩ := hp
      rw [← hvals, List.mem_map] at hx
      obtain ⟨t, _, rfl⟩ := hx
      exact renOr_vv hg ((hF.get t).mono (fun _ _ => rfl) (fun b h => .inl h) (fun _ _ h => h))
    have hmono := nilMap_mono hS1 ((fillFr z fr1 τ.length).2 ++ (fillObs z τ (τ.length + (fillFr z fr1 τ.length).2.length)).2)
    have hfit := nilMap_fits (ρ := fun j => (rs[j]?).bind s.ρ) (n := τ.length) (obs := (fillFr z fr1 τ.length).2 ++ (fillObs z τ (τ.length + (fillFr z fr1 τ.length).2.length)).2)
    obtain ⟨g1, g2⟩ := fillObs_ok (w := s.w) (F := fun b => s.F b ∨ False) hmono hfit.right
    obtain ⟨hS2, hJ2⟩ := fill_ok hS1 hJ1 (σ1 := (fillObs z τ (τ.length + (fillFr z fr1 τ.length).2.length)).1) (obs := (fillFr z fr1 τ.length).2 ++ (fillObs z τ (τ.length + (fillFr z fr1 τ.length).2.length)).2) (fun o ho => by
      rcases List.mem_append.1 ho with ho | ho
      · exact fillFr_rows o ho
      · exact fillObs_rows o ho) g1 g2
    exact ⟨_, _, h1, hS2, hJ2, ⟨fr_all (get := fun t => a.tmps.getD t undef) (fun p hp => fillFr_ok (get := fun t => a.tmps.getD t undef) hmono hfrs hfit.left p hp), hF.defers, hF.size⟩, rfl⟩
theorem normRet_ok {s0 s : St} (hS : Sim s) (hJ : J s0 s) {v : AV} {c : Value} (hv : s.vv v c) {K : AV → Sto → Prop} {z : Bool} (h : normRet z (fun _ => False) s0.σ.length v s.σ K) :
    ∃ s' v', K v' s'.σ ∧ Sim s' ∧ J s0 s' ∧ s'.vv v' c ∧ s'.w = s.w := by
  unfold normRet at h
  dsimp only at h
  generalize hrs : reach s.σ 1000 (((range0 0 s0.σ.length).flatMap fun i => (Sto.get s.σ i).ids) ++ v.ids depth) (range0 0 s0.σ.length) = rs at h
  obtain ⟨hc, h1⟩ := not_match h
  clear h
  rw [Bool.and_eq_true] at hc
  split at h1
  · rename_i τ v1 hτ hv1
    obtain ⟨hS1, hJ1, hg⟩ := cut_ok hS hJ hc.1 hc.2 hτ
    have hv2 : VV s.w (fun b => s.F b ∨ False) (fun j => (rs[j]?).bind s.ρ) v1 c := (hv.mono (F' := fun b => s.F b ∨ False) (fun _ _ => rfl) (fun b h => .inl h) (fun _ _ h => h)).ren hg hv1
    have hmono := nilMap_mono hS1 (fill z depth v1 τ.length).2
    have hfit := nilMap_fits (ρ := fun j => (rs[j]?).bind s.ρ) (n := τ.length) (obs := (fill z depth v1 τ.length).2)
    obtain ⟨hS2, hJ2⟩ := fill_ok hS1 hJ1 (σ1 := τ) (obs := (fill z depth v1 τ.length).2) (fill_rows _ |>.1 _ _) rfl (fun j id => ⟨rfl, (fun h => h.mono (fun _ _ => rfl) (fun _ h => h) hmono (fun _ _ => rfl)), rfl⟩)
    exact ⟨_, _, h1, hS2, hJ2, hv2.fillup hmono hfit, rfl⟩
  · exact h1.elim
end Go.Abs
