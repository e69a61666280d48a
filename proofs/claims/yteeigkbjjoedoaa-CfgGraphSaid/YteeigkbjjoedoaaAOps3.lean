/- The evaluator's single operations against the model's: writing memory. -/
import Derived.Test.YteeigkbjjoedoaaAOps2
set_option linter.unusedVariables false
set_option linter.unusedSimpArgs false
namespace Go.Abs
theorem ImmL.focus {α : Type} {p : α → List Value → Prop} {n : Nat} (hp : ∀ x c, p x c → c.length = n) : ∀ {xs : List α} {cs} {i : Nat} {x : α}, ImmL p xs cs → xs[i]? = some x →
    ∃ pre c post, cs = pre ++ c ++ post ∧ pre.length = i * n ∧ p x c ∧ ∀ z cz, p z cz → ImmL p (xs.set i z) (pre ++ cz ++ post)
  | [], _, _, _, _, h => by simp at h
  | y :: xs, _, 0, x, ⟨c, r, e, h1, h2⟩, h => by
    simp at h
    subst h; subst e
    exact ⟨[], c, r, by simp, by simp, h1, fun z cz hz => ⟨cz, r, by simp, hz, h2⟩⟩
  | y :: xs, _, i + 1, x, ⟨c, r, e, h1, h2⟩, h => by
    obtain ⟨pre, c', post, e2, h3, h4, h5⟩ := ImmL.focus hp (xs := xs) h2 (by simpa using h)
    subst e; subst e2
    refine ⟨c ++ pre, c', post, by simp, ?_, h4, fun z cz hz => ⟨c, pre ++ cz ++ post, by simp, h1, h5 z cz hz⟩⟩
    rw [List.length_append, hp y c h1, h3, Nat.add_mul]; omega
theorem setD_prop {w : World} {F : Nat → Prop} : ∀ {t : Ty} {x : t.T} {path : List Nat} {u : Ty} {y : u.T} {cs cy : List Value} {K : t.T → Prop}, setD (fun _ => False) t x path u y K → Imm w F t x cs → Imm w F u y cy →
    ∃ z pre c post, K z ∧ cs = pre ++ c ++ post ∧ pre.length = offP t path ∧ c.length = cy.length ∧ Imm w F t z (pre ++ cy ++ post) ∧ placeTy t path = some u := by
  have nil : ∀ {t : Ty} {x : t.T} {u : Ty} {y : u.T} {cs cy : List Value} {K : t.T → Prop}, setD (fun _ => False) t x [] u y K → Imm w F t x cs → Imm w F u y cy →
    ∃ z pre c post, K z ∧ cs = pre ++ c ++ post ∧ pre.length = offP t [] ∧ c.length = cy.length ∧ Imm w F t z (pre ++ cy ++ post) ∧ placeTy t [] = some u := by
    intro t x u y cs cy K h hI hy
    have h' : if h : u = t then K (cst h y) else False := by cases t <;> exact h
    split at h'
    · rename_i e
      subst e
      exact ⟨y, [], cs, [], h', by simp, by rw [offP_nil]; rfl, by rw [hI.length, hy.length], by simpa using hy, placeTy_nil u⟩
    · exact h'.elim
  intro t
  induction t with
  | pair a b iha ihb =>
    intro x path u y cs cy K h hI hy
    match path, h with
    | [], h => exact nil h hI hy
    | 0 :: p, h =>
      obtain ⟨c, r, e, h1, h2⟩ := hI
      simp only [setD] at h
      obtain ⟨z, pre, c', post, k1, k2, k3, k4, k5, k6⟩ := iha h h1 hy
      subst e; subst k2
      exact ⟨_, pre, c', post ++ r, k1, by simp, by simpa [offP] using k3, k4, ⟨pre ++ cy ++ post, r, by simp, k5, h2⟩, by simpa [placeTy] using k6⟩
    | (n + 1) :: p, h =>
      obtain ⟨c, r, e, h1, h2⟩ := hI
      simp only [setD] at h
      obtain ⟨z, pre, c', post, k1, k2, k3, k4, k5, k6⟩ := ihb h h2 hy
      subst e; subst k2
      exact ⟨_, c ++ pre, c', post, k1, by simp, by simp [offP, h1.length, k3], k4, ⟨c, pre ++ cy ++ post, by simp, h1, k5⟩, by simpa [placeTy] using k6⟩
  | arr n e ihe =>
    intro x path u y cs cy K h hI hy
    match path, h with
    | [], h => exact nil h hI hy
    | i :: p, h =>
      simp only [setD] at h
      obtain ⟨z, hz, h⟩ := need_prop h
      obtain ⟨pre, c, post, e1, e2, e3, e4⟩ := ImmL.focus (fun _ _ h => Imm.length h) hI.2 hz
      obtain ⟨z', pre', c', post', k1, k2, k3, k4, k5, k6⟩ := ihe h e3 hy
      subst e1; subst k2
      refine ⟨_, pre ++ pre', c', post' ++ post, k1, by simp, by simp [offP, e2, k3], k4, ⟨(List.length_set («as» := (show List e.T from x))).trans hI.1, ?_⟩, by simpa [placeTy] using k6⟩
      have := e4 z' _ k5
      simpa using this
  | _ =>
    intro x path u y cs cy K h hI hy
    match path, h with
    | [], h => exact nil h hI hy
    | _ :: _, h => simp [setD] at h
theorem explode_VR {w : World} {F : Nat → Prop} {ρ : Map} : ∀ {t : Ty} {x : t.T} {cs : List Value}, isRec t = true → Imm w F t x cs → VR w F ρ t (.agg (explode t x)) cs := by
  intro t
  induction t with
  | pair a b iha ihb =>
    intro x cs hr h
    obtain ⟨c, r, e, h1, h2⟩ := h
    subst e
    exact .pair (.d h1) (ihb (by simpa [isRec] using hr) h2)
  | unit =>
    intro x cs hr h
    have h' : cs = [] := h
    subst h'
    exact .unit
  | _ => intro x cs hr; simp [isRec] at hr
theorem setAV_prop {s : St} (hS : Sim s) {v : AV} {tv : Ty} {cv : List Value} (hv : VR s.w s.F s.ρ tv v cv) : ∀ (n : Nat),
    (∀ {t : Ty} {old : AV} {path : List Nat} {cs : List Value} {K : AV → Prop}, setAV (fun _ => False) s.σ n t old path v K → VR s.w s.F s.ρ t old cs →
      ∃ z pre c post, K z ∧ cs = pre ++ c ++ post ∧ pre.length = offP t path ∧ c.length = cv.length ∧ VR s.w s.F s.ρ t z (pre ++ cv ++ post) ∧ placeTy t path = some tv) ∧
    (∀ {t : Ty} {l : List AV} {k : Nat} {path : List Nat} {cs : List Value} {K : List AV → Prop}, setAV.setAVs (fun _ => False) s.σ n t l k path v K → VR s.w s.F s.ρ t (.agg l) cs →
      ∃ z pre c post, K z ∧ cs = pre ++ c ++ post ∧ pre.length = offP t (k :: path) ∧ c.length = cv.length ∧ VR s.w s.F s.ρ t (.agg z) (pre ++ cv ++ post) ∧ placeTy t (k :: path) = some tv) := by
  have nil : ∀ {n : Nat} {t : Ty} {old : AV} {cs : List Value} {K : AV → Prop}, setAV (fun _ => False) s.σ n t old [] v K → VR s.w s.F s.ρ t old cs →
      ∃ z pre c post, K z ∧ cs = pre ++ c ++ post ∧ pre.length = offP t [] ∧ c.length = cv.length ∧ VR s.w s.F s.ρ t z (pre ++ cv ++ post) ∧ placeTy t [] = some tv := by
    intro n t old cs K h ho
    have h' : bif conf s.σ depth t v then K v else False := by cases n <;> simpa [setAV] using h
    cases hc : conf s.σ depth t v with
    | false => rw [hc] at h'; exact h'.elim
    | true =>
      rw [hc] at h'
      have := conf_ty hS hv hc
      subst this
      exact ⟨v, [], cs, [], h', by simp, by rw [offP_nil]; rfl, by rw [ho.length, hv.length], by simpa using hv, placeTy_nil _⟩
  intro n
  induction n with
  | zero =>
    refine ⟨fun {t old path cs K} h ho => ?_, fun {t l k path cs K} h ho => ?_⟩
    · match path, h with
      | [], h => exact nil h ho
      | _ :: _, h => simp [setAV] at h
    · simp [setAV.setAVs] at h
  | succ n ih =>
    refine ⟨fun {t old path cs K} h ho => ?_, fun {t l k path cs K} h ho => ?_⟩
    · match path, h with
      | [], h => exact nil h ho
      | k :: p, h =>
        simp only [setAV] at h
        split at h
        · rename_i u x
          cases ho with
          | d hI =>
            split at h
            · rename_i w y
              cases hv with
              | d hy =>
                obtain ⟨z, pre, c, post, k1, k2, k3, k4, k5, k6⟩ := setD_prop h hI hy
                exact ⟨_, pre, c, post, k1, k2, k3, k4, .d k5, k6⟩
            · cases hr : isRec t with
              | false => rw [hr] at h; exact h.elim
              | true =>
                rw [hr] at h
                obtain ⟨z, pre, c, post, k1, k2, k3, k4, k5, k6⟩ := ih.2 h (explode_VR hr hI)
                exact ⟨_, pre, c, post, k1, k2, k3, k4, k5, k6⟩
        · obtain ⟨z, pre, c, post, k1, k2, k3, k4, k5, k6⟩ := ih.2 h ho
          exact ⟨_, pre, c, post, k1, k2, k3, k4, k5, k6⟩
        · exact h.elim
    · cases t with
      | pair a b =>
        cases l with
        | nil => simp [setAV.setAVs] at h
        | cons x r =>
          cases ho with
          | pair h1 h2 =>
            rename_i c r'
            cases k with
            | zero =>
              simp only [setAV.setAVs] at h
              obtain ⟨z, pre, c', post, k1, k2, k3, k4, k5, k6⟩ := ih.1 h h1
              subst k2
              exact ⟨_, pre, c', post ++ r', k1, by simp, by simpa [offP] using k3, k4, by have := VR.pair k5 h2; simpa using this, by simpa [placeTy] using k6⟩
            | succ k =>
              simp only [setAV.setAVs] at h
              obtain ⟨z, pre, c', post, k1, k2, k3, k4, k5, k6⟩ := ih.2 h h2
              subst k2
              exact ⟨_, c ++ pre, c', post, k1, by simp, by simp [offP, h1.length, k3], k4, by have := VR.pair h1 k5; simpa using this, by simpa [placeTy] using k6⟩
      | _ => simp [setAV.setAVs] at h
theorem ImmL.one {α : Type} {p : α → List Value → Prop} (hp : ∀ x c, p x c → ∀ v ∈ c, v.oneCell' = true) : ∀ {xs : List α} {cs}, ImmL p xs cs → ∀ v ∈ cs, v.oneCell' = true
  | [], _, h, v, hv => by rw [ImmL] at h; subst h; simp at hv
  | x :: xs, _, ⟨c, r, e, h1, h2⟩, v, hv => by
    subst e
    rcases List.mem_append.1 hv with h | h
    · exact hp x c h1 v h
    · exact ImmL.one hp h2 v h
theorem Imm.one {w : World} {F : Nat → Prop} : ∀ {t : Ty} {x : t.T} {cs}, Imm w F t x cs → ∀ v ∈ cs, v.oneCell' = true
  | .int _, _, cs, h, v, hv => by have h' : cs = [_] := h; subst h'; simp at hv; subst hv; rfl
  | .bool, _, cs, h, v, hv => by have h' : cs = [_] := h; subst h'; simp at hv; subst hv; rfl
  | .str, _, _, ⟨_, h, _⟩, v, hv => by subst h; simp at hv; subst hv; rfl
  | .opq z, _, cs, h, v, hv => by have h' : cs = [_] := h; subst h'; simp at hv; subst hv; cases z <;> rfl
  | .unit, _, cs, h, v, hv => by have h' : cs = [] := h; subst h'; simp at hv
  | .sl e, xs, cs, ⟨a, len, cap, e1, _⟩, v, hv => by subst e1; simp at hv; subst hv; rfl
  | .pair a b, x, cs, ⟨c, r, e, h1, h2⟩, v, hv => by
    subst e
    rcases List.mem_append.1 hv with h | h
    · exact Imm.one h1 v h
    · exact Imm.one h2 v h
  | .arr n e, xs, cs, ⟨h1, h2⟩, v, hv => ImmL.one (fun _ _ h => Imm.one h) h2 v hv
theorem VR.one {w : World} {F : Nat → Prop} {ρ : Map} {t : Ty} {v : AV} {cs} (h : VR w F ρ t v cs) : ∀ u ∈ cs, u.oneCell' = true := by
  induction h with
  | d h => exact h.one
  | pair _ _ i1 i2 =>
    intro u hu
    rcases List.mem_append.1 hu with h | h
    · exact i1 u h
    · exact i2 u h
  | unit => intro u hu; simp at hu
  | _ => intro u hu; simp at hu; subst hu; rfl
theorem cells_toV {w : World} {F : Nat → Prop} {ρ : Map} {t : Ty} {v : AV} {cs} (h : VR w F ρ t v cs) : (toV t cs).cells = cs.toArray := by
  unfold toV
  cases hA : t.isA with
  | true => rfl
  | false =>
    obtain ⟨u, rfl⟩ := single_of_len (h.length.trans (csz_one hA))
    have := h.one u (by simp)
    cases u <;> first | rfl | cases this
theorem ImmL.drop {α : Type} {p : α → List Value → Prop} {n : Nat} (hp : ∀ x c, p x c → c.length = n) : ∀ {xs : List α} {cs} (k : Nat), ImmL p xs cs → ImmL p (xs.drop k) (cs.drop (k * n))
  | xs, cs, 0, h => by simpa using h
  | [], cs, k + 1, h => by rw [ImmL] at h; subst h; simp [ImmL]
  | x :: xs, _, k + 1, ⟨c, r, e, h1, h2⟩ => by
    have := ImmL.drop hp k h2
    subst e
    have hc := hp x c h1
    rw [List.drop_succ_cons, Nat.add_mul, Nat.one_mul, Nat.add_comm, List.drop_append, List.drop_eq_nil_of_le («as» := c) (by rw [hc]; exact Nat.le_add_right _ _), List.nil_append, hc, Nat.add_sub_cancel_left]
    exact this
theorem ImmL.take {α : Type} {p : α → List Value → Prop} {n : Nat} (hp : ∀ x c, p x c → c.length = n) : ∀ {xs : List α} {cs} (k : Nat), ImmL p xs cs → ImmL p (xs.take k) (cs.take (k * n))
  | xs, cs, 0, h => by simp [ImmL]
  | [], cs, k + 1, h => by rw [ImmL] at h; subst h; simp [ImmL]
  | x :: xs, _, k + 1, ⟨c, r, e, h1, h2⟩ => by
    have := ImmL.take hp k h2
    subst e
    refine ⟨c, r.take (k * n), ?_, h1, this⟩
    have hc := hp x c h1
    rw [Nat.add_mul, Nat.one_mul, Nat.add_comm, List.take_append, List.take_of_length_le (by rw [hc]; exact Nat.le_add_right _ _), hc, Nat.add_sub_cancel_left]
theorem ImmL.append {α : Type} {p : α → List Value → Prop} : ∀ {xs ys : List α} {cs ds}, ImmL p xs cs → ImmL p ys ds → ImmL p (xs ++ ys) (cs ++ ds)
  | [], ys, cs, ds, h, k => by rw [ImmL] at h; subst h; simpa using k
  | x :: xs, ys, _, ds, ⟨c, r, e, h1, h2⟩, k => ⟨c, r ++ ds, by subst e; simp, h1, ImmL.append h2 k⟩
theorem At.drop {w : World} {ad : Addr} (hs : ad.spot = none) {cs : List Value} (h : At w ad cs) (k : Nat) : At w (ad.add k) (cs.drop k) := fun j v hj => by
  rw [add_add hs]
  exact h _ _ (by rwa [List.getElem?_drop] at hj)
theorem At.take {w : World} {ad : Addr} {cs : List Value} (h : At w ad cs) (k : Nat) : At w ad (cs.take k) := fun j v hj => by
  rw [List.getElem?_take] at hj
  split at hj
  · exact h _ _ hj
  · cases hj
theorem row_sl {s : St} (hS : Sim s) {id : Nat} {e : Ty} {xs : List e.T} {ex : Bool} (he : Sto.get s.σ id = .row e xs ex) {m : Meta} (hm : s.ρ id = some m) {F' : Nat → Prop} (hF : ∀ b, s.F b → F' b)
    (hb : ∀ b, m.blk = some b → F' b) {off len cap : Nat} {a : Option Addr} (h1 : len ≤ cap) (h2 : off + len ≤ m.len) (h3 : len = 0 ∨ ∃ b, m.blk = some b ∧ a = some ⟨b, off * m.ty.csz, none⟩) :
    m.ty = e ∧ ImmSl s.w F' (Imm s.w F' e) ((xs.drop off).take len) a len cap := by
  have ho := hS.obj id
  rw [he] at ho
  obtain ⟨m', k1, k2, k3, k4, k5, k6⟩ := ho
  rw [hm] at k1; cases k1
  refine ⟨k2, ?_, h1, ?_⟩
  · rw [List.length_take, List.length_drop]; omega
  rcases h3 with h3 | ⟨b, h3, h4⟩
  · left; rw [h3]; simp
  · right
    rcases k6 with ⟨k6, _⟩ | ⟨b', cc, el, cs, j1, j2, j3, j4, j5⟩
    · rw [h3] at k6; cases k6
    rw [h3] at j1; cases j1
    refine ⟨_, (cs.drop (off * e.csz)).take (len * e.csz), h4, rfl, hb b h3, ?_, ?_⟩
    · exact ImmL.take (fun _ _ h => Imm.length h) len (ImmL.drop (fun _ _ h => Imm.length h) off (ImmL.mono (fun _ _ _ h => h.mono (fun _ _ => rfl) hF) j4))
    · have := ((at_of_prefix j2 j5).drop rfl (off * e.csz)).take (len * e.csz)
      rw [add_eq, Nat.zero_add] at this
      rw [k2]
      exact this
theorem toD_imm {s : St} (hS : Sim s) {F' : Nat → Prop} (hF : ∀ b, s.F b → F' b) : ∀ (n D : Nat), n ≤ D → ∀ {t : Ty} {v : AV} {x : t.T} {u : Ty} {cs : List Value}, toD s.σ n t v = some x → VR s.w s.F s.ρ u v cs →
    (∀ id ∈ AV.ids D v, isLive (Sto.get s.σ id) = true → ∀ m b, s.ρ id = some m → m.blk = some b → F' b) → u = t ∧ Imm s.w F' t x cs := by
  intro n
  induction n with
  | zero => intro D _ t v x u cs h; simp [toD] at h
  | succ n ih =>
    intro D hD t v x u cs h hv hids
    obtain ⟨D, rfl⟩ : ∃ D', D = D' + 1 := ⟨D - 1, by omega⟩
    cases v with
    | d u' x' =>
      simp only [toD] at h
      split at h
      · rename_i e
        subst e
        simp only [Option.some.injEq] at h
        subst h
        cases hv with
        | d hI => exact ⟨rfl, hI.mono (fun _ _ => rfl) hF⟩
      · cases h
    | dx e xs =>
      simp only [toD] at h
      split at h
      · rename_i e
        subst e
        simp only [Option.some.injEq] at h
        subst h
        cases hv with
        | dx hI => exact ⟨rfl, _, _, _, rfl, hI.mono (fun _ _ => rfl) hF⟩
      · cases h
    | nils e =>
      simp only [toD] at h
      split at h
      · rename_i e
        subst e
        simp only [Option.some.injEq] at h
        subst h
        cases hv with
        | nils => exact ⟨rfl, _, _, _, rfl, rfl, Nat.le_refl _, .inl rfl⟩
      · cases h
    | vec id =>
      simp only [toD] at h
      split at h
      · rename_i e xs ex he
        split at h
        · rename_i e
          subst e
          simp only [Option.some.injEq] at h
          subst h
          cases hv with
          | vec h1 h2 h3 =>
            rename_i m a
            have hbk : ∀ b, m.blk = some b → F' b := fun b hb => hids id (by simp [AV.ids]) (by rw [he]; rfl) m b h1 hb
            have ho := hS.obj id
            rw [he] at ho
            obtain ⟨m', k1, k2, k3, k4, k5, k6⟩ := ho
            rw [h1] at k1; cases k1
            obtain ⟨_, h5⟩ := row_sl hS he h1 hF hbk (off := 0) (len := m.len) (cap := m.tot) (a := a) h2 (by omega) (by
              rcases h3 with h3 | ⟨b, h3, h4⟩
              · left; omega
              · right; exact ⟨b, h3, by rw [h4, Nat.zero_mul]⟩)
            subst k2
            refine ⟨rfl, _, _, _, rfl, ?_⟩
            have hx : (xs.drop 0).take m.len = xs := by rw [List.drop_zero, k3, List.take_length]
            rw [hx] at h5
            exact h5
        · cases h
      · cases h
    | sl id off len cap ex =>
      simp only [toD] at h
      split at h
      · rename_i e xs rx he
        split at h
        · rename_i e
          subst e
          simp only [Option.some.injEq] at h
          subst h
          cases hv with
          | sl h1 h2 h3 h4 h5 h6 h7 h8 =>
            rename_i m a cap'
            have hbk : ∀ b, m.blk = some b → F' b := fun b hb => hids id (by simp [AV.ids]) (by rw [he]; rfl) m b h1 hb
            obtain ⟨k2, k3⟩ := row_sl hS he h1 hF hbk (off := off) (len := len) (cap := cap') (a := a) h2 (by omega) (by
              rcases h8 with h8 | h8
              · left; omega
              · right; exact h8)
            subst k2
            exact ⟨rfl, _, _, _, rfl, k3⟩
        · cases h
      · cases h
    | agg l =>
      simp only [toD] at h
      cases l with
      | nil =>
        cases hv with
        | unit =>
          cases t with
          | unit => exact ⟨rfl, rfl⟩
          | _ => simp at h
      | cons y r =>
        cases hv with
        | pair h1 h2 =>
          cases t with
          | pair a b =>
            have h' : (match toD s.σ n a y, toD s.σ n b (AV.agg r) with | some y, some z => some (y, z) | _, _ => none) = some x := h
            clear h
            split at h'
            · rename_i y1 z1 hy hz
              obtain rfl := Option.some.inj h'
              obtain ⟨e1, i1⟩ := ih D (by omega) hy h1 (fun id hid => hids id (by simp only [AV.ids, List.flatMap_cons, List.mem_append]; exact .inl hid))
              obtain ⟨e2, i2⟩ := ih (D + 1) (by omega) hz h2 (fun id hid => hids id (by simp only [AV.ids, List.flatMap_cons, List.mem_append] at hid ⊢; exact .inr hid))
              subst e1; subst e2
              exact ⟨rfl, _, _, rfl, i1, i2⟩
            · cases h'
          | _ => simp at h
    | _ => simp [toD] at h
end Go.Abs
