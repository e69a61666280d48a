/- The evaluator's single operations against the model's: stores, appends, new objects. -/
import Derived.Test.YteeigkbjjoedoaaAOps3
import Derived.RowKit3
import Derived.Laws.Append
set_option linter.unusedVariables false
set_option linter.unusedSimpArgs false
namespace Go.Abs
def St.kill1 (s : St) (id : Nat) : St := ⟨s.w, fun b => s.F b ∨ (isLive (Sto.get s.σ id) = true ∧ ∃ m, s.ρ id = some m ∧ m.blk = some b), s.ρ, Sto.put s.σ id .dead⟩
def St.kill (s : St) : List Nat → St
  | [] => s
  | i :: r => (s.kill1 i).kill r
theorem St.kill_w : ∀ (ids : List Nat) (s : St), (s.kill ids).w = s.w
  | [], _ => rfl
  | i :: r, s => St.kill_w r (s.kill1 i)
theorem St.kill_ρ : ∀ (ids : List Nat) (s : St), (s.kill ids).ρ = s.ρ
  | [], _ => rfl
  | i :: r, s => St.kill_ρ r (s.kill1 i)
theorem St.kill_σ : ∀ (ids : List Nat) (s : St), (s.kill ids).σ = Abs.kill s.σ ids
  | [], _ => rfl
  | i :: r, s => St.kill_σ r (s.kill1 i)
theorem St.kill_sim : ∀ (ids : List Nat) {s : St}, Sim s → Sim (s.kill ids) ∧ J s (s.kill ids)
  | [], s, h => ⟨h, .refl s⟩
  | i :: r, s, h => by
    obtain ⟨h1, j1⟩ := h.kill1 i
    obtain ⟨h2, j2⟩ := St.kill_sim r (s := s.kill1 i) h1
    exact ⟨h2, j1.trans j2⟩
theorem St.kill_F : ∀ (ids : List Nat) {s : St} {b : Nat}, s.F b → (s.kill ids).F b
  | [], _, _, h => h
  | i :: r, s, b, h => St.kill_F r (s := s.kill1 i) (.inl h)
theorem St.kill_blk : ∀ (ids : List Nat) {s : St} {id : Nat}, id ∈ ids → isLive (Sto.get s.σ id) = true → ∀ m b, s.ρ id = some m → m.blk = some b → (s.kill ids).F b
  | [], _, _, h => by simp at h
  | i :: r, s, id, h => fun hl m b hm hb => by
    by_cases e : id = i
    · subst e
      exact St.kill_F r (s := s.kill1 id) (.inr ⟨hl, m, hm, hb⟩)
    · have hr : id ∈ r := by
        rcases List.mem_cons.1 h with h | h
        · exact (e h).elim
        · exact h
      exact St.kill_blk r (s := s.kill1 i) hr (by show isLive (Sto.get (Sto.put s.σ i .dead) id) = true; rw [get_put_ne e]; exact hl) m b hm hb
theorem frz_setRow (w : World) (b : Nat) (c : Array Value) (a : Addr) : (w.setRow b c).frozen? a = w.frozen? a := by
  by_cases h : a.block = b
  · unfold World.frozen?
    rw [h]
    cases hw : w.heap[b]? with
    | none =>
      have : (w.setRow b c).heap[b]? = none := by
        rw [Array.getElem?_eq_none_iff] at hw ⊢
        simpa using hw
      rw [this]
    | some o =>
      cases o with
      | cells c0 t0 fz => rw [setRow_heap w b c0 c t0 fz hw]
      | _ => simp [World.setRow, Array.getElem?_modify, hw]
  · unfold World.frozen?
    rw [setRow_other w b a.block c (fun e => h e)]
theorem keep_setRow {w : World} {b : Nat} {c : Array Value} {O : Nat → Prop} (hO : O b) : Keep O w (w.setRow b c) :=
  ⟨rfl, rfl, rfl, by simp, fun k hk ho => setRow_other w b k c fun e => ho (e ▸ hO), fun a _ => frz_setRow w b c a⟩
theorem keep_alloc {w : World} {c : Array Value} {t : TypeId} {O : Nat → Prop} : Keep O w (w.alloc (.cells c t (0, 0))) :=
  ⟨rfl, rfl, rfl, by simp, fun k hk _ => heap_alloc_old w _ k hk, fun a _ => RowKit.frozen?_alloc_cells w c t a⟩
theorem keep_drew {w : World} {O : Nat → Prop} : Keep O w w.drew := ⟨rfl, rfl, rfl, Nat.le_refl _, fun _ _ _ => rfl, fun _ _ => rfl⟩
theorem run_storeVar_at {P : Program} {ty : Ty} {t : TypeId} (ht : tyb P ty t = true) {w : World} {F : Nat → Prop} {ρ : Map} {v : AV} {cv : List Value} (hv : VR w F ρ ty v cv) {b o : Nat} {c : Array Value} {el : TypeId}
    (hb : w.heap[b]? = some (.cells c el (0, 0))) (ho : o + cv.length ≤ c.size) :
    (storeVar t ⟨b, o, none⟩ (toV ty cv)).run P w = .ok () (w.setRow b (c.toList.take o ++ cv ++ c.toList.drop (o + cv.length)).toArray) := by
  unfold storeVar
  have hs : (toV ty cv).cells.size = ty.csz := by rw [cells_toV hv]; simp [hv.length]
  have := run_storeCells_at P b o el cv 0 c w hb (by simpa using ho) hv.one
  simp only [Nat.add_zero] at this
  rw [Sem.run_bind, run_sizeOf' ht w, Result.andThen_ok, if_neg (by rw [hs]; exact fun h => h rfl), cells_toV hv]
  exact this
theorem splice_eq {pre c post r cv : List Value} (hc : c.length = cv.length) : (pre ++ c ++ post ++ r).take pre.length ++ cv ++ (pre ++ c ++ post ++ r).drop (pre.length + cv.length) = pre ++ cv ++ post ++ r := by
  have h1 : (pre ++ c ++ post ++ r).take pre.length = pre := by simp
  have h2 : (pre ++ c ++ post ++ r).drop (pre.length + cv.length) = post ++ r := by
    rw [← hc, ← List.length_append, show pre ++ c ++ post ++ r = (pre ++ c) ++ (post ++ r) by simp]
    exact List.drop_left
  rw [h1, h2]
  simp
theorem bif_prop1 {b : Bool} {x : Prop} (h : bif b then x else False) : b = true ∧ x := by
  cases b
  · exact h.elim
  · exact ⟨rfl, h⟩
theorem dropK_prop {σ : Sto} {i : Nat} {K : List (Nat × Nat) → Prop} : ∀ {hs acc : List (Nat × Nat)}, (∀ p ∈ acc, p.1 ≠ i) → dropK (fun _ => False) σ i hs acc K → ∃ hs', K hs' ∧ (∀ p ∈ hs', p.1 ≠ i) ∧ ∀ p, p.1 ≠ i → (p ∈ hs' ↔ p ∈ acc ∨ p ∈ hs)
  | [], acc, ha, h => ⟨acc, h, ha, fun p _ => by simp⟩
  | q :: r, acc, ha, h => by
    rcases br_prop h with ⟨hb, h⟩ | ⟨hb, h⟩
    · have e := of_decide_eq_true hb
      obtain ⟨hs', h1, h2, h3⟩ := dropK_prop ha h
      refine ⟨hs', h1, h2, fun p hp => ?_⟩
      rw [h3 p hp, List.mem_cons]
      refine ⟨fun h => h.imp (fun h => h) .inr, fun h => h.imp (fun h => h) fun h => h.resolve_left fun e2 => hp (by rw [e2, e])⟩
    · have e := of_decide_eq_false hb
      have h : dropK (fun _ => False) σ i r (acc ++ [q]) K := by
        cases hd : (Sto.get σ q.2).isDead with
        | true => rw [hd] at h; exact h.elim
        | false => rw [hd] at h; exact h
      obtain ⟨hs', h1, h2, h3⟩ := dropK_prop (acc := acc ++ [q]) (fun p hp => by
        rcases List.mem_append.1 hp with hp | hp
        · exact ha p hp
        · rw [List.mem_singleton] at hp; rw [hp]; exact fun h => e h.symm) h
      refine ⟨hs', h1, h2, fun p hp => ?_⟩
      rw [h3 p hp, List.mem_append, List.mem_singleton, List.mem_cons, or_assoc]
theorem slot_put {s : St} (hS : Sim s) {id i : Nat} {t : Ty} {xs : List (List t.T)} {hs : List (Nat × Nat)} (hg : Sto.get s.σ id = .deep t xs hs) {m : Meta} (hm : s.ρ id = some m) {b : Nat} (hb : m.blk = some b) (hi : i < xs.length) {v : Value} {xs' : List (List t.T)} {hs' : List (Nat × Nat)}
    (hlen : xs'.length = xs.length) (hxs : ∀ k, k ≠ i → xs'[k]? = xs[k]?) (hhs : ∀ k j, k ≠ i → ((k, j) ∈ hs' ↔ (k, j) ∈ hs))
    (hv : ∀ ys, xs'[i]? = some ys → (Free hs' i → SlotR s.w s.F t ys v ∧ ∀ b, ¬ SlotB v b) ∧ ∀ j, (i, j) ∈ hs' → ∃ mj, s.ρ j = some mj ∧ mj.ty = t ∧ HdrOf mj v) :
    ∃ c el, s.w.heap[b]? = some (.cells c el (0, 0)) ∧ i < c.size ∧
      let s' : St := ⟨s.w.setRow b (c.toList.take i ++ [v] ++ c.toList.drop (i + 1)).toArray, s.F, s.ρ, Sto.put s.σ id (.deep t xs' hs')⟩
      Sim s' ∧ J s s' := by
  have ho := hS.obj id
  rw [hg] at ho
  obtain ⟨m', k1, k2, k3, k4, k5, k6⟩ := ho
  rw [hm] at k1; cases k1
  rcases k5 with ⟨k5, _⟩ | ⟨b', c, el, j1, j2, j3, j4⟩
  · rw [hb] at k5; cases k5
  rw [hb] at j1; cases j1
  have hic : i < c.size := by omega
  refine ⟨c, el, j2, hic, ?_⟩
  have hl1 : (c.toList.take i).length = i := by rw [List.length_take, Array.length_toList]; omega
  have hget : ∀ k, (c.toList.take i ++ [v] ++ c.toList.drop (i + 1)).toArray[k]? = if k = i then some v else c[k]? := by
    intro k
    rw [List.getElem?_toArray]
    by_cases h1 : k < i
    · rw [if_neg (by omega), List.append_assoc, List.getElem?_append_left (by omega), List.getElem?_take, if_pos h1, Array.getElem?_toList]
    · by_cases h2 : k = i
      · rw [if_pos h2, h2, List.append_assoc, List.getElem?_append_right (by omega), hl1, Nat.sub_self]; rfl
      · rw [if_neg h2, List.getElem?_append_right (by simp [hl1]; omega), List.getElem?_drop]
        rw [show (c.toList.take i ++ [v]).length = i + 1 by rw [List.length_append, hl1]; rfl, show i + 1 + (k - (i + 1)) = k by omega, Array.getElem?_toList]
  have hheap : (s.w.setRow b (c.toList.take i ++ [v] ++ c.toList.drop (i + 1)).toArray).heap[b]? = some (.cells (c.toList.take i ++ [v] ++ c.toList.drop (i + 1)).toArray el (0, 0)) := setRow_heap _ _ _ _ _ _ j2
  have hother : ∀ k, k ≠ b → (s.w.setRow b (c.toList.take i ++ [v] ++ c.toList.drop (i + 1)).toArray).heap[k]? = s.w.heap[k]? := fun k hk => setRow_other _ _ _ _ hk
  have hlive : isLive (Sto.get s.σ id) = true := by rw [hg]; rfl
  have hself : ∀ b1, m.blk = some b1 → ¬ Inner s.w m hs b1 := fun b1 h => hS.selfO id m hs b1 hlive hm (by rw [hg]; rfl) h
  have hfree : ∀ k, k ≠ i → (Free hs' k ↔ Free hs k) := fun k hk => ⟨fun h j hj => h j ((hhs k j hk).2 hj), fun h j hj => h j ((hhs k j hk).1 hj)⟩
  have hiv : ∀ k v', k < m.len → Free hs' k → (if k = i then some v else c[k]?) = some v' → ∀ b1, SlotB v' b1 → k ≠ i ∧ Inner s.w m hs b1 ∧ c[k]? = some v' ∧ Free hs k := by
    intro k v' hk hf he b1 hsb
    by_cases hki : k = i
    · subst hki
      rw [if_pos rfl] at he
      cases he
      exact (((hv _ (List.getElem?_eq_getElem (by omega))).1 hf).2 b1 hsb).elim
    · rw [if_neg hki] at he
      exact ⟨hki, ⟨k, b, c, el, v', hb, j2, hk, (hfree k hki).1 hf, he, hsb⟩, he, (hfree k hki).1 hf⟩
  have hinner : ∀ b1, Inner (s.w.setRow b (c.toList.take i ++ [v] ++ c.toList.drop (i + 1)).toArray) m hs' b1 → Inner s.w m hs b1 := by
    rintro b1 ⟨k, blk, c', el', v', e1, e2, e3, e4, e5, e6⟩
    rw [hb] at e1; cases e1
    rw [hheap] at e2; cases e2
    rw [hget] at e5
    exact (hiv k v' e3 e4 e5 b1 e6).2.1
  refine hS.put (id := id) (m := m) hlive hm (keep_setRow hb) ?_ (fun hs0 b1 h0 h1 => ?_)
  · refine ⟨m, hm, k2, by rw [hlen]; exact k3, k4, .inr ⟨b, _, el, hb, hheap, ?_, fun k ys hk => ?_⟩, fun blk c' el' k k' v1 v2 b1 e1 e2 e3 e4 e5 e6 e7 e8 e9 e10 => ?_⟩
    · rw [List.size_toArray]
      simp only [List.length_append, hl1, List.length_singleton, List.length_drop, Array.length_toList]
      omega
    · by_cases hki : k = i
      · subst hki
        refine ⟨v, by rw [hget, if_pos rfl], fun hf => ?_, (hv ys hk).2⟩
        obtain ⟨h1, h2⟩ := (hv ys hk).1 hf
        exact h1.mono (fun b1 hb1 => hother b1 (by rintro rfl; exact hS.notF b1 (St.own_of hlive hm hb) hb1)) (fun _ h => h) fun b1 hb1 => (h2 b1 hb1).elim
      · rw [hxs k hki] at hk
        obtain ⟨v', g1, g2, g3⟩ := j4 k ys hk
        have hkl : k < m.len := by rw [k3]; exact (List.getElem?_eq_some_iff.1 hk).1
        refine ⟨v', by rw [hget, if_neg hki]; exact g1, fun hf => ?_, fun j hj => g3 j ((hhs k j hki).1 hj)⟩
        have hf' := (hfree k hki).1 hf
        refine (g2 hf').mono (fun b1 hb1 => hother b1 (by rintro rfl; exact hS.notF b1 (St.own_of hlive hm hb) hb1)) (fun _ h => h) fun b1 hb1 => hother b1 ?_
        rintro rfl
        exact hself b1 hb ⟨k, b1, c, el, v', hb, j2, hkl, hf', g1, hb1⟩
    · rw [hb] at e1; cases e1
      rw [hheap] at e2; cases e2
      rw [hget] at e7 e8
      obtain ⟨a1, _, a3, a4⟩ := hiv k v1 e3 e5 e7 b1 e9
      obtain ⟨d1, _, d3, d4⟩ := hiv k' v2 e4 e6 e8 b1 e10
      exact k6 b c el k k' v1 v2 b1 hb j2 e3 e4 a4 d4 a3 d3 e9 e10
  · cases h0
    have := hinner b1 h1
    exact ⟨⟨hlive, m, hm, .inr ⟨hs, by rw [hg]; rfl, this⟩⟩, fun h => hself b1 h this⟩
theorem slotK_sound {P : Program} {s : St} (hS : Sim s) {ty : Ty} {t : TypeId} (ht : tyb P ty t = true) {v : AV} {cv : List Value} (hv : VR s.w s.F s.ρ ty v cv) {id i : Nat} {u : Ty} {xs : List (List u.T)} {hs : List (Nat × Nat)} (hg : Sto.get s.σ id = .deep u xs hs) {m : Meta} {b : Nat} (hm : s.ρ id = some m) (hb : m.blk = some b) {K : Sto → Prop}
    (h : slotK (fun _ => False) s.σ id i u xs hs v K) : ∃ s' : St, (storeVar t ⟨b, i, none⟩ (toV ty cv)).run P s.w = .ok () s'.w ∧ J s s' ∧ Sim s' ∧ K s'.σ := by
  unfold slotK at h
  obtain ⟨y, hy, hK⟩ := need_prop h
  clear h
  have hi := (List.getElem?_eq_some_iff.1 hy).1
  have go : ∀ (v0 : Value) (xs' : List (List u.T)) (hs' : List (Nat × Nat)), cv = [v0] → xs'.length = xs.length → (∀ k, k ≠ i → xs'[k]? = xs[k]?) → (∀ k j, k ≠ i → ((k, j) ∈ hs' ↔ (k, j) ∈ hs)) →
      (∀ ys, xs'[i]? = some ys → (Free hs' i → SlotR s.w s.F u ys v0 ∧ ∀ b, ¬ SlotB v0 b) ∧ ∀ j, (i, j) ∈ hs' → ∃ mj, s.ρ j = some mj ∧ mj.ty = u ∧ HdrOf mj v0) → K (Sto.put s.σ id (.deep u xs' hs')) →
      ∃ s' : St, (storeVar t ⟨b, i, none⟩ (toV ty cv)).run P s.w = .ok () s'.w ∧ J s s' ∧ Sim s' ∧ K s'.σ := by
    intro v0 xs' hs' ecv h1 h2 h3 h4 h5
    obtain ⟨c, el, e1, e2, e3, e4⟩ := slot_put hS hg hm hb hi h1 h2 h3 h4
    have hrun := run_storeVar_at (o := i) ht hv e1 (by rw [ecv]; simp; omega)
    rw [ecv] at hrun ⊢
    exact ⟨_, hrun, e4, e3, h5⟩
  dsimp only at hK
  split at hK
  · rename_i j
    split at hK
    · rename_i w0 ys0 ex0 hgj
      obtain ⟨hc, hK⟩ := bif_prop1 hK
      rw [Bool.and_eq_true, beq_iff_eq] at hc
      obtain ⟨hs', h1, h2, h3⟩ := dropK_prop (acc := []) (by simp) hK
      have ho := hS.obj j
      rw [hgj] at ho
      obtain ⟨mj, q1, q2, _⟩ := ho
      cases hv with
      | @vec _ m' a g1 g2 g3 =>
        rw [g1] at q1; cases q1
        refine go _ xs ((i, j) :: hs') rfl rfl (fun _ _ => rfl) (fun k j' hk => ?_) (fun ys hys => ⟨fun hf => (hf j (by simp)).elim, fun j' hj' => ?_⟩) h1
        · rw [List.mem_cons, h3 (k, j') hk]
          simp [hk]
        · rcases List.mem_cons.1 hj' with e | hj'
          · cases e
            exact ⟨_, g1, q2.trans hc.1, a, rfl, g2, g3⟩
          · exact (h2 _ hj' rfl).elim
    · exact hK.elim
  · rename_i w0
    obtain ⟨hc, hK⟩ := bif_prop1 hK
    obtain ⟨hs', h1, h2, h3⟩ := dropK_prop (acc := []) (by simp) hK
    cases hv with
    | nils =>
      refine go _ (List.set xs i []) hs' rfl (by simp) (fun k hk => by rw [List.getElem?_set, if_neg (fun h => hk h.symm)]) (fun k j' hk => by rw [h3 (k, j') hk]; simp) (fun ys hys => ⟨fun _ => ⟨?_, ?_⟩, fun j' hj' => (h2 _ hj' rfl).elim⟩) h1
      · rw [List.getElem?_set, if_pos rfl, if_pos hi] at hys
        cases hys
        exact ⟨none, 0, rfl, Nat.le_refl _, by decide, .inl rfl⟩
      · rintro b1 ⟨a, len, cap, e, _, e2⟩
        cases e
  · exact hK.elim
theorem storeK_sound {P : Program} {s : St} (hS : Sim s) {ty : Ty} {t : TypeId} (ht : tyb P ty t = true) {p v : AV} {cp : Value} {cv : List Value} (hp : s.vv p cp) (hv : VR s.w s.F s.ρ ty v cv) {K : Sto → Prop}
    (h : storeK (fun _ => False) s.σ p v K) : ∃ ad s', cp = .pointer (some ad) ∧ (storeVar t ad (toV ty cv)).run P s.w = .ok () s'.w ∧ J s s' ∧ Sim s' ∧ K s'.σ := by
  unfold storeK at h
  split at h
  · rename_i id i path
    obtain ⟨m, b, hc, hm, hb⟩ := VV_ptr hp
    split at h
    · rename_i t0 _ _ _
      split at h
      · rename_i u hu
        split at h
        · rename_i y hy
          obtain ⟨hS1, j1⟩ := St.kill_sim (v.ids depth) hS
          obtain ⟨e1, hI⟩ := toD_imm hS (F' := (s.kill (v.ids depth)).F) (fun b hb => St.kill_F _ hb) depth depth (Nat.le_refl _) hy hv (fun id hid hl m b => St.kill_blk _ hid hl m b)
          subst e1
          rw [← St.kill_σ] at h
          have ho := hS1.obj id
          dsimp only at h
          split at h
          · rename_i t1 xs ex he
            rw [he] at ho
            obtain ⟨m', k1, k2, k3, k4, k5, k6⟩ := ho
            rw [St.kill_ρ, hm] at k1; cases k1
            subst k2
            rw [St.kill_w] at k6
            rcases k6 with ⟨k6, _⟩ | ⟨b', cc, el, cs, j1', j2, j3, j4, j5⟩
            · rw [hb] at k6; cases k6
            rw [hb] at j1'; cases j1'
            obtain ⟨x, hx, h⟩ := need_prop h
            obtain ⟨pre, c1, post, f1, f2, f3, f4⟩ := ImmL.focus (fun _ _ h => Imm.length h) j4 hx
            obtain ⟨z, pre', c', post', l1, l2, l3, l4, l5, l6⟩ := setD_prop h f3 hI
            have hnew := f4 z _ l5
            subst f1; subst l2
            obtain ⟨r, hr⟩ := j5
            have hcc : cc.toList = (pre ++ pre') ++ c' ++ (post' ++ post) ++ r := by rw [← hr]; simp
            have hoff : i * m.ty.csz + offP m.ty path = (pre ++ pre').length := by rw [List.length_append, f2, l3]
            have hfit : (pre ++ pre').length + cv.length ≤ cc.size := by
              rw [← Array.length_toList, hcc]; simp only [List.length_append]; omega
            have hrun := run_storeVar_at ht hv j2 hfit
            rw [hcc, splice_eq l4] at hrun
            obtain ⟨hS2, j2'⟩ := hS1.put (id := id) (m := m) (by rw [he]; rfl) (by rw [St.kill_ρ]; exact hm) (w' := s.w.setRow b ((pre ++ pre') ++ cv ++ (post' ++ post) ++ r).toArray) (ob := .row m.ty (xs.set i z) ex)
              (by rw [St.kill_w]; exact keep_setRow hb)
              (by
                have hsame : Same (s.kill (v.ids depth)).F s.w (s.w.setRow b ((pre ++ pre') ++ cv ++ (post' ++ post) ++ r).toArray) := fun b1 hb1 => setRow_other _ _ _ _ (by
                  rintro rfl
                  exact hS1.notF b1 (St.own_of (id := id) (m := m) (by rw [he]; rfl) (by rw [St.kill_ρ]; exact hm) hb) hb1)
                refine ⟨m, by rw [St.kill_ρ]; exact hm, rfl, by rw [List.length_set]; exact k3, k4, k5, .inr ⟨b, _, el, _, hb, setRow_heap _ _ _ _ _ _ j2, ?_, ImmL.mono (fun _ _ _ h => h.mono hsame (fun _ h => h)) hnew, ⟨r, by simp⟩⟩⟩
                refine Nat.le_trans j3 (Nat.le_of_eq ?_)
                rw [← Array.length_toList, ← Array.length_toList, hcc]
                simp only [List.length_append, l4, List.toList_toArray])
            refine ⟨_, _, hc, ?_, j1.trans j2', hS2, l1⟩
            rw [hoff]
            exact hrun
          · exact h.elim
        · exact h.elim
      · exact h.elim
    · rename_i t0 old he
      have ho := hS.obj id
      rw [he] at ho
      obtain ⟨m', b', cc, el, k1, k2, k3, k4, k5, k6, k7⟩ := ho
      rw [hm] at k1; cases k1
      subst k2
      rw [hb] at k3; cases k3
      cases hi : Nat.beq i 0 with
      | false => rw [hi] at h; exact h.elim
      | true =>
        rw [hi] at h
        have := beq_eq.1 hi
        subst this
        obtain ⟨z, pre, c, post, l1, l2, l3, l4, l5, l6⟩ := (setAV_prop hS hv depth).1 h k7
        have hcc : cc.toList = pre ++ c ++ post ++ [] := by rw [l2]; simp
        have hfit : pre.length + cv.length ≤ cc.size := by
          rw [← Array.length_toList, hcc]; simp only [List.length_append]; omega
        have hrun := run_storeVar_at ht hv k6 hfit
        rw [hcc, splice_eq l4] at hrun
        obtain ⟨hS2, j2⟩ := hS.put (id := id) (m := m) (by rw [he]; rfl) hm (w' := s.w.setRow b (pre ++ cv ++ post ++ []).toArray) (ob := .one m.ty z) (keep_setRow hb) (by
          have hsame : Same s.F s.w (s.w.setRow b (pre ++ cv ++ post ++ []).toArray) := fun b1 hb1 => setRow_other _ _ _ _ (by
            rintro rfl
            exact hS.notF b1 (St.own_of (id := id) (m := m) (by rw [he]; rfl) hm hb) hb1)
          refine ⟨m, b, _, el, hm, rfl, hb, k4, k5, setRow_heap _ _ _ _ _ _ k6, ?_⟩
          have := l5.mono hsame (fun _ h => h) (fun _ _ h => h)
          simpa using this)
        refine ⟨_, _, hc, ?_, j2, hS2, l1⟩
        rw [Nat.zero_mul, Nat.zero_add, ← l3]
        exact hrun
    · rename_i u xs hs he
      split at h
      · obtain ⟨s', h1, h2, h3, h4⟩ := slotK_sound hS ht hv he hm hb h
        have ho := hS.obj id
        rw [he] at ho
        obtain ⟨m', k1, k2, _⟩ := ho
        rw [hm] at k1; cases k1
        refine ⟨_, s', hc, ?_, h2, h3, h4⟩
        have e : i * m.ty.csz + offP m.ty [] = i := by rw [k2, offP_nil]; show i * 1 + 0 = i; omega
        rw [e]
        exact h1
      · exact h.elim
    · exact h.elim
  · exact h.elim
end Go.Abs
