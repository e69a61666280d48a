/- The evaluator's single operations against the model's: stores, appends, new objects. -/
import Derived.Test.YtdljpdafghdedaaAOps3
import Derived.RowKit3
import Derived.Laws.Append
set_option linter.unusedVariables false
set_option linter.unusedSimpArgs false
namespace Go.Abs

/-! ### objects given up -/

def St.kill1 (s : St) (id : Nat) : St := ⟨s.w, fun b => s.F b ∨ (isLive (Sto.get s.σ id) = true ∧ ∃ m, s.ρ id = some m ∧ m.blk = some b), s.ρ, Sto.put s.σ id .dead⟩
def St.kill (s : St) : List Nat → St
  | [] => s
  | i :: r => (s.kill1 i).kill r

theorem St.kill_w : ∀ (ids : List Nat) (s : St), (s.kill ids).w = s.w
  | [], _ => rfl
  | i :: r, s => St.kill_w r (s.kill1 i)
theorem St.kill_ρ : ∀ (ids : List Nat) (s : St), (s.kill ids).ρ = s.ρ
  | [], _ => rfl
  | i :: r, s => St.kill_ρ r (s.kill1 i)
theorem St.kill_σ : ∀ (ids : List Nat) (s : St), (s.kill ids).σ = Abs.kill s.σ ids
  | [], _ => rfl
  | i :: r, s => St.kill_σ r (s.kill1 i)
theorem St.kill_sim : ∀ (ids : List Nat) {s : St}, Sim s → Sim (s.kill ids) ∧ J s (s.kill ids)
  | [], s, h => ⟨h, .refl s⟩
  | i :: r, s, h => by
    obtain ⟨h1, j1⟩ := h.kill1 i
    obtain ⟨h2, j2⟩ := St.kill_sim r (s := s.kill1 i) h1
    exact ⟨h2, j1.trans j2⟩
theorem St.kill_F : ∀ (ids : List Nat) {s : St} {b : Nat}, s.F b → (s.kill ids).F b
  | [], _, _, h => h
  | i :: r, s, b, h => St.kill_F r (s := s.kill1 i) (.inl h)
theorem St.kill_blk : ∀ (ids : List Nat) {s : St} {id : Nat}, id ∈ ids → isLive (Sto.get s.σ id) = true → ∀ m b, s.ρ id = some m → m.blk = some b → (s.kill ids).F b
  | [], _, _, h => by simp at h
  | i :: r, s, id, h => fun hl m b hm hb => by
    by_cases e : id = i
    · subst e
      exact St.kill_F r (s := s.kill1 id) (.inr ⟨hl, m, hm, hb⟩)
    · have hr : id ∈ r := by
        rcases List.mem_cons.1 h with h | h
        · exact (e h).elim
        · exact h
      exact St.kill_blk r (s := s.kill1 i) hr (by show isLive (Sto.get (Sto.put s.σ i .dead) id) = true; rw [get_put_ne e]; exact hl) m b hm hb

/-! ### worlds -/

theorem frz_setRow (w : World) (b : Nat) (c : Array Value) (a : Addr) : (w.setRow b c).frozen? a = w.frozen? a := by
  by_cases h : a.block = b
  · unfold World.frozen?
    rw [h]
    cases hw : w.heap[b]? with
    | none =>
      have : (w.setRow b c).heap[b]? = none := by
        rw [Array.getElem?_eq_none_iff] at hw ⊢
        simpa using hw
      rw [this]
    | some o =>
      cases o with
      | cells c0 t0 fz => rw [setRow_heap w b c0 c t0 fz hw]
      | _ => simp [World.setRow, Array.getElem?_modify, hw]
  · unfold World.frozen?
    rw [setRow_other w b a.block c (fun e => h e)]

theorem keep_setRow {w : World} {b : Nat} {c : Array Value} {O : Nat → Prop} (hO : O b) : Keep O w (w.setRow b c) :=
  ⟨rfl, rfl, rfl, by simp, fun k hk ho => setRow_other w b k c fun e => ho (e ▸ hO), fun a _ => frz_setRow w b c a⟩
theorem keep_alloc {w : World} {c : Array Value} {t : TypeId} {O : Nat → Prop} : Keep O w (w.alloc (.cells c t (0, 0))) :=
  ⟨rfl, rfl, rfl, by simp, fun k hk _ => heap_alloc_old w _ k hk, fun a _ => RowKit.frozen?_alloc_cells w c t a⟩
theorem keep_drew {w : World} {O : Nat → Prop} : Keep O w w.drew := ⟨rfl, rfl, rfl, Nat.le_refl _, fun _ _ _ => rfl, fun _ _ => rfl⟩

theorem run_storeVar_at {P : Program} {ty : Ty} {t : TypeId} (ht : tyb P ty t = true) {w : World} {F : Nat → Prop} {ρ : Map} {v : AV} {cv : List Value} (hv : VR w F ρ ty v cv) {b o : Nat} {c : Array Value} {el : TypeId}
    (hb : w.heap[b]? = some (.cells c el (0, 0))) (ho : o + cv.length ≤ c.size) :
    (storeVar t ⟨b, o, none⟩ (toV ty cv)).run P w = .ok () (w.setRow b (c.toList.take o ++ cv ++ c.toList.drop (o + cv.length)).toArray) := by
  unfold storeVar
  have hs : (toV ty cv).cells.size = ty.csz := by rw [cells_toV hv]; simp [hv.length]
  have := run_storeCells_at P b o el cv 0 c w hb (by simpa using ho) hv.one
  simp only [Nat.add_zero] at this
  rw [Sem.run_bind, run_sizeOf' ht w, Result.andThen_ok, if_neg (by rw [hs]; exact fun h => h rfl), cells_toV hv]
  exact this

theorem splice_eq {pre c post r cv : List Value} (hc : c.length = cv.length) : (pre ++ c ++ post ++ r).take pre.length ++ cv ++ (pre ++ c ++ post ++ r).drop (pre.length + cv.length) = pre ++ cv ++ post ++ r := by
  have h1 : (pre ++ c ++ post ++ r).take pre.length = pre := by simp
  have h2 : (pre ++ c ++ post ++ r).drop (pre.length + cv.length) = post ++ r := by
    rw [← hc, ← List.length_append, show pre ++ c ++ post ++ r = (pre ++ c) ++ (post ++ r) by simp]
    exact List.drop_left
  rw [h1, h2]
  simp

/-- a store goes where the evaluator goes -/
theorem storeK_sound {P : Program} {s : St} (hS : Sim s) {ty : Ty} {t : TypeId} (ht : tyb P ty t = true) {p v : AV} {cp : Value} {cv : List Value} (hp : s.vv p cp) (hv : VR s.w s.F s.ρ ty v cv) {K : Sto → Prop}
    (h : storeK (fun _ => False) s.σ p v K) : ∃ ad s', cp = .pointer (some ad) ∧ (storeVar t ad (toV ty cv)).run P s.w = .ok () s'.w ∧ J s s' ∧ Sim s' ∧ K s'.σ := by
  unfold storeK at h
  split at h
  · rename_i id i path
    obtain ⟨m, b, hc, hm, hb⟩ := VV_ptr hp
    split at h
    · rename_i t0 _ _ _
      split at h
      · rename_i u hu
        split at h
        · rename_i y hy
          obtain ⟨hS1, j1⟩ := St.kill_sim (v.ids depth) hS
          obtain ⟨e1, hI⟩ := toD_imm hS (F' := (s.kill (v.ids depth)).F) (fun b hb => St.kill_F _ hb) depth depth (Nat.le_refl _) hy hv (fun id hid hl m b => St.kill_blk _ hid hl m b)
          subst e1
          rw [← St.kill_σ] at h
          have ho := hS1.obj id
          dsimp only at h
          split at h
          · rename_i t1 xs ex he
            rw [he] at ho
            obtain ⟨m', k1, k2, k3, k4, k5, k6⟩ := ho
            rw [St.kill_ρ, hm] at k1; cases k1
            subst k2
            rw [St.kill_w] at k6
            rcases k6 with ⟨k6, _⟩ | ⟨b', cc, el, cs, j1', j2, j3, j4, j5⟩
            · rw [hb] at k6; cases k6
            rw [hb] at j1'; cases j1'
            obtain ⟨x, hx, h⟩ := need_prop h
            obtain ⟨pre, c1, post, f1, f2, f3, f4⟩ := ImmL.focus (fun _ _ h => Imm.length h) j4 hx
            obtain ⟨z, pre', c', post', l1, l2, l3, l4, l5, l6⟩ := setD_prop h f3 hI
            have hnew := f4 z _ l5
            subst f1; subst l2
            obtain ⟨r, hr⟩ := j5
            have hcc : cc.toList = (pre ++ pre') ++ c' ++ (post' ++ post) ++ r := by rw [← hr]; simp
            have hoff : i * m.ty.csz + offP m.ty path = (pre ++ pre').length := by rw [List.length_append, f2, l3]
            have hfit : (pre ++ pre').length + cv.length ≤ cc.size := by
              rw [← Array.length_toList, hcc]; simp only [List.length_append]; omega
            have hrun := run_storeVar_at ht hv j2 hfit
            rw [hcc, splice_eq l4] at hrun
            obtain ⟨hS2, j2'⟩ := hS1.put (id := id) (m := m) (by rw [he]; rfl) (by rw [St.kill_ρ]; exact hm) (w' := s.w.setRow b ((pre ++ pre') ++ cv ++ (post' ++ post) ++ r).toArray) (ob := .row m.ty (xs.set i z) ex)
              (by rw [St.kill_w]; exact keep_setRow hb)
              (by
                have hsame : Same (s.kill (v.ids depth)).F s.w (s.w.setRow b ((pre ++ pre') ++ cv ++ (post' ++ post) ++ r).toArray) := fun b1 hb1 => setRow_other _ _ _ _ (by
                  rintro rfl
                  exact hS1.notF b1 ⟨id, m, by rw [he]; rfl, by rw [St.kill_ρ]; exact hm, hb⟩ hb1)
                refine ⟨m, by rw [St.kill_ρ]; exact hm, rfl, by rw [List.length_set]; exact k3, k4, k5, .inr ⟨b, _, el, _, hb, setRow_heap _ _ _ _ _ _ j2, ?_, ImmL.mono (fun _ _ _ h => h.mono hsame (fun _ h => h)) hnew, ⟨r, by simp⟩⟩⟩
                refine Nat.le_trans j3 (Nat.le_of_eq ?_)
                rw [← Array.length_toList, ← Array.length_toList, hcc]
                simp only [List.length_append, l4, List.toList_toArray])
            refine ⟨_, _, hc, ?_, j1.trans j2', hS2, l1⟩
            rw [hoff]
            exact hrun
          · exact h.elim
        · exact h.elim
      · exact h.elim
    · rename_i t0 old he
      have ho := hS.obj id
      rw [he] at ho
      obtain ⟨m', b', cc, el, k1, k2, k3, k4, k5, k6, k7⟩ := ho
      rw [hm] at k1; cases k1
      subst k2
      rw [hb] at k3; cases k3
      cases hi : Nat.beq i 0 with
      | false => rw [hi] at h; exact h.elim
      | true =>
        rw [hi] at h
        have := beq_eq.1 hi
        subst this
        obtain ⟨z, pre, c, post, l1, l2, l3, l4, l5, l6⟩ := (setAV_prop hS hv depth).1 h k7
        have hcc : cc.toList = pre ++ c ++ post ++ [] := by rw [l2]; simp
        have hfit : pre.length + cv.length ≤ cc.size := by
          rw [← Array.length_toList, hcc]; simp only [List.length_append]; omega
        have hrun := run_storeVar_at ht hv k6 hfit
        rw [hcc, splice_eq l4] at hrun
        obtain ⟨hS2, j2⟩ := hS.put (id := id) (m := m) (by rw [he]; rfl) hm (w' := s.w.setRow b (pre ++ cv ++ post ++ []).toArray) (ob := .one m.ty z) (keep_setRow hb) (by
          have hsame : Same s.F s.w (s.w.setRow b (pre ++ cv ++ post ++ []).toArray) := fun b1 hb1 => setRow_other _ _ _ _ (by
            rintro rfl
            exact hS.notF b1 ⟨id, m, by rw [he]; rfl, hm, hb⟩ hb1)
          refine ⟨m, b, _, el, hm, rfl, hb, k4, k5, setRow_heap _ _ _ _ _ _ k6, ?_⟩
          have := l5.mono hsame (fun _ h => h) (fun _ _ h => h)
          simpa using this)
        refine ⟨_, _, hc, ?_, j2, hS2, l1⟩
        rw [Nat.zero_mul, Nat.zero_add, ← l3]
        exact hrun
    · exact h.elim
  · exact h.elim

end Go.Abs
