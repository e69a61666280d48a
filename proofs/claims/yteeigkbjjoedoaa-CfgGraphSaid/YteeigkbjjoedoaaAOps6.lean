/- The evaluator's single operations against the model's: append whole; copy, clear; new rows and variables. -/
import Derived.Test.YteeigkbjjoedoaaAOps5
set_option linter.unusedVariables false
set_option linter.unusedSimpArgs false
namespace Go.Abs
section
variable {P : Program} {t t2 ty te : TypeId} {e : Ty} {bytes : Nat}
def Runs (P : Program) (s : St) (x : Sem Value) (K : AV → Sto → Prop) : Prop :=
  ∃ v c s', x.run P s.w = .ok c s'.w ∧ J s s' ∧ Sim s' ∧ s'.vv v c ∧ K v s'.σ
theorem roomB_le {n b : Nat} (h : roomB n b = true) : n * b ≤ 140737488355328 := of_decide_eq_true h
theorem vv_src_dx {s : St} {xs : List e.T} {a : Option Addr} {len : Nat} (h : ImmSl s.w s.F (Imm s.w s.F e) xs a len len) : ∃ news, Src P s e (.slice a len len) xs news := by
  obtain ⟨h1, h2, h3⟩ := h
  rcases h3 with h3 | ⟨ad, cs, h4, h5, h6, h7, h8⟩
  · exact ⟨[], src_slice (by rw [h3]; rfl) h1 (.inl (by rw [h3]; rfl))⟩
  · exact ⟨cs, src_slice h7 h1 (.inr ⟨ad, h4, h8⟩)⟩
theorem runs_grow_new {s : St} (hS : Sim s) (ht : P.underlying t = some (.slice te)) (he : tyb P e te = true) (h2 : NotInt P t2) (hby : (P.info? te).map (·.bytes) = some bytes) (hb0 : bytes ≠ 0)
    {base : Option Addr} {sLen sCap : Nat} {l : List e.T} {olds : List Value} (hold : Src P s e (.slice base sLen sCap) l olds) (hl : l.length = sLen) {xv : Value} {ys : List e.T} {news : List Value} (hsrc : Src P s e xv ys news)
    (hgrow : sCap < sLen + ys.length) (hroom : (sLen + ys.length) * bytes ≤ 140737488355328) {K : AV → Sto → Prop} (h : newRow s.σ e (l ++ ys) false K) :
    Runs P s (Builtin.append_ #[t, t2] ty #[.slice base sLen sCap, xv]) K := by
  obtain ⟨m, w', c, k1, k2, k3, k4, k5⟩ := app_grow (ty := ty) hS ht he h2 hby hb0 hold hl hsrc hgrow hroom
  obtain ⟨hS', j⟩ := hS.new (m := m) (ob := .row e (l ++ ys) false) k2 (fun b hb => by rw [k3] at hb; cases hb; exact Nat.le_refl _) k4
  exact ⟨_, c, _, k1, j, hS', k5 _ _, h⟩
theorem runs_grow_dead {s : St} (hS : Sim s) (ht : P.underlying t = some (.slice te)) (he : tyb P e te = true) (h2 : NotInt P t2) (hby : (P.info? te).map (·.bytes) = some bytes) (hb0 : bytes ≠ 0)
    {base : Option Addr} {sLen sCap : Nat} {l : List e.T} {olds : List Value} (hold : Src P s e (.slice base sLen sCap) l olds) (hl : l.length = sLen) {xv : Value} {ys : List e.T} {news : List Value} (hsrc : Src P s e xv ys news)
    (hgrow : sCap < sLen + ys.length) (hroom : (sLen + ys.length) * bytes ≤ 140737488355328) {id : Nat} {m0 : Meta} (hlive : isLive (Sto.get s.σ id) = true) (hm0 : s.ρ id = some m0) {K : AV → Sto → Prop} (h : newRow (Sto.put s.σ id .dead) e (l ++ ys) false K) :
    Runs P s (Builtin.append_ #[t, t2] ty #[.slice base sLen sCap, xv]) K := by
  obtain ⟨m, w', c, k1, k2, k3, k4, k5⟩ := app_grow (ty := ty) hS ht he h2 hby hb0 hold hl hsrc hgrow hroom
  obtain ⟨hS', j⟩ := hS.repl (id := id) (m0 := m0) (m := m) (ob := .row e (l ++ ys) false) hlive hm0 (k2.mono fun _ h => h.elim) (fun b hb => by rw [k3] at hb; cases hb; exact .inr (Nat.le_refl _)) k4
  unfold newRow at h
  rw [length_put] at h
  exact ⟨_, c, _, k1, j, hS', k5 _ _, h⟩
theorem runs_room_dead {s : St} (hS : Sim s) (ht : P.underlying t = some (.slice te)) (he : tyb P e te = true) (h2 : NotInt P t2)
    {id : Nat} {m : Meta} {xs : List e.T} {ex : Bool} (hg : Sto.get s.σ id = .row e xs ex) (hm : s.ρ id = some m) {b sLen sCap : Nat} (hb : m.blk = some b) (hlen : sLen ≤ xs.length) (hcap : sCap ≤ m.tot)
    {xv : Value} {ys : List e.T} {news : List Value} (hsrc : Src P s e xv ys news) (hroom : sLen + ys.length ≤ sCap) {K : AV → Sto → Prop} (h : newRow (Sto.put s.σ id .dead) e (xs.take sLen ++ ys) false K) :
    Runs P s (Builtin.append_ #[t, t2] ty #[.slice (some ⟨b, 0, none⟩) sLen sCap, xv]) K := by
  have ho := hS.obj id
  rw [hg] at ho
  obtain ⟨m', k1, k2, k3, k4, k5, k6⟩ := ho
  rw [hm] at k1; cases k1
  rcases k6 with ⟨k6, _⟩ | ⟨b', cc, el, cs, j1, j2, j3, j4, j5⟩
  · rw [hb] at k6; cases k6
  rw [hb] at j1; cases j1
  have hrun := app_room (ty := ty) (o := 0) hS ht he h2 j2 hsrc hroom (tot := m.tot) (by omega) j3
  rw [Nat.zero_mul, Nat.zero_add] at hrun
  have hcl : cs.length = xs.length * e.csz := ImmL.length (fun _ _ h => Imm.length h) j4
  obtain ⟨r, hr⟩ := j5
  have htake : cc.toList.take (sLen * e.csz) = cs.take (sLen * e.csz) := by
    rw [← hr, List.take_append_of_le_length (by rw [hcl]; exact Nat.mul_le_mul_right _ hlen)]
  have hsame : Same s.F s.w (s.w.setRow b (cc.toList.take (sLen * e.csz) ++ news ++ cc.toList.drop (sLen * e.csz + news.length)).toArray) := fun b1 hb1 => setRow_other _ _ _ _ (by
    rintro rfl
    exact hS.notF b1 (St.own_of (id := id) (m := m) (by rw [hg]; rfl) hm hb) hb1)
  have hfit : (sLen + ys.length) * e.csz ≤ cc.size := Nat.le_trans (Nat.mul_le_mul_right _ (by omega)) j3
  obtain ⟨hS', j⟩ := hS.repl (id := id) (m0 := m) (m := ⟨some b, sLen + ys.length, sCap, e, by have := m.lt; omega⟩) (ob := .row e (xs.take sLen ++ ys) false) (by rw [hg]; rfl) hm (w' := s.w.setRow b (cc.toList.take (sLen * e.csz) ++ news ++ cc.toList.drop (sLen * e.csz + news.length)).toArray)
    (keep_setRow hb) (fun b1 hb1 => .inl (by cases hb1; exact hb)) (by
      refine ⟨⟨some b, sLen + ys.length, sCap, e, by have := m.lt; omega⟩, by simp [upd], rfl, ?_, hroom, (fun h => by cases h), .inr ⟨b, _, el, cs.take (sLen * e.csz) ++ news, rfl, setRow_heap _ _ _ _ _ _ j2, ?_, ?_, ?_⟩⟩
      · rw [List.length_append, List.length_take, Nat.min_eq_left hlen]
      · simp only [List.size_toArray, List.length_append, List.length_take, List.length_drop, Array.length_toList, hsrc.length]
        rw [Nat.add_mul] at hfit
        have h1 : sCap * e.csz ≤ cc.size := Nat.le_trans (Nat.mul_le_mul_right _ hcap) j3
        rw [Nat.min_eq_left (by omega)]
        omega
      · exact ImmL.append (ImmL.mono (fun _ _ _ h => h.mono hsame (fun _ h => h)) (ImmL.take (fun _ _ h => Imm.length h) sLen j4)) (ImmL.mono (fun _ _ _ h => h.mono hsame (fun _ h => h)) hsrc.imm)
      · rw [htake]
        exact ⟨List.drop (sLen * e.csz + news.length) cc.toList, by simp⟩)
  unfold newRow at h
  rw [length_put] at h
  refine ⟨_, _, _, hrun, j, hS', ?_, h⟩
  exact VV_vecI (m := ⟨some b, sLen + ys.length, sCap, e, by have := m.lt; omega⟩) (by simp [upd]) hroom (.inr ⟨b, rfl, rfl⟩)
theorem runs_room_off {s : St} (hS : Sim s) (ht : P.underlying t = some (.slice te)) (he : tyb P e te = true) (h2 : NotInt P t2)
    {id : Nat} {m : Meta} {xs : List e.T} {ex : Bool} (hg : Sto.get s.σ id = .row e xs ex) (hm : s.ρ id = some m) {b off sLen sCap : Nat} (hb : m.blk = some b) (hlen : off + sLen ≤ xs.length) (hcap : off + sCap ≤ m.tot)
    {xv : Value} {ys : List e.T} {news : List Value} (hsrc : Src P s e xv ys news) (hroom : sLen + ys.length ≤ sCap) {K : AV → Sto → Prop}
    (h : K (.sl s.σ.length off (sLen + ys.length) (sLen + ys.length) false) (Sto.put s.σ id .dead ++ [.row e (xs.take (off + sLen) ++ ys) false])) :
    Runs P s (Builtin.append_ #[t, t2] ty #[.slice (some ⟨b, off * e.csz, none⟩) sLen sCap, xv]) K := by
  have ho := hS.obj id
  rw [hg] at ho
  obtain ⟨m', k1, k2, k3, k4, k5, k6⟩ := ho
  rw [hm] at k1; cases k1
  rcases k6 with ⟨k6, _⟩ | ⟨b', cc, el, cs, j1, j2, j3, j4, j5⟩
  · rw [hb] at k6; cases k6
  rw [hb] at j1; cases j1
  have hrun := app_room (ty := ty) (o := off) hS ht he h2 j2 hsrc hroom (tot := m.tot) hcap j3
  have hcl : cs.length = xs.length * e.csz := ImmL.length (fun _ _ h => Imm.length h) j4
  obtain ⟨r, hr⟩ := j5
  have htake : cc.toList.take ((off + sLen) * e.csz) = cs.take ((off + sLen) * e.csz) := by
    rw [← hr, List.take_append_of_le_length (by rw [hcl]; exact Nat.mul_le_mul_right _ hlen)]
  have hsame : Same s.F s.w (s.w.setRow b (cc.toList.take ((off + sLen) * e.csz) ++ news ++ cc.toList.drop ((off + sLen) * e.csz + news.length)).toArray) := fun b1 hb1 => setRow_other _ _ _ _ (by
    rintro rfl
    exact hS.notF b1 (St.own_of (id := id) (m := m) (by rw [hg]; rfl) hm hb) hb1)
  have hfit : (off + sLen + ys.length) * e.csz ≤ cc.size := Nat.le_trans (Nat.mul_le_mul_right _ (by omega)) j3
  have hlt : off + sCap ≤ 9223372036854775807 := by have := m.lt; omega
  obtain ⟨hS', j⟩ := hS.repl (id := id) (m0 := m) (m := ⟨some b, off + sLen + ys.length, off + sCap, e, hlt⟩) (ob := .row e (xs.take (off + sLen) ++ ys) false) (by rw [hg]; rfl) hm (w' := s.w.setRow b (cc.toList.take ((off + sLen) * e.csz) ++ news ++ cc.toList.drop ((off + sLen) * e.csz + news.length)).toArray)
    (keep_setRow hb) (fun b1 hb1 => .inl (by cases hb1; exact hb)) (by
      refine ⟨⟨some b, off + sLen + ys.length, off + sCap, e, hlt⟩, by simp [upd], rfl, ?_, (show off + sLen + ys.length ≤ off + sCap by omega), (fun h => by cases h), .inr ⟨b, _, el, cs.take ((off + sLen) * e.csz) ++ news, rfl, setRow_heap _ _ _ _ _ _ j2, ?_, ?_, ?_⟩⟩
      · rw [List.length_append, List.length_take, Nat.min_eq_left hlen]
      · simp only [List.size_toArray, List.length_append, List.length_take, List.length_drop, Array.length_toList, hsrc.length]
        rw [Nat.add_mul] at hfit
        have h1 : (off + sCap) * e.csz ≤ cc.size := Nat.le_trans (Nat.mul_le_mul_right _ hcap) j3
        rw [Nat.min_eq_left (by omega)]
        omega
      · exact ImmL.append (ImmL.mono (fun _ _ _ h => h.mono hsame (fun _ h => h)) (ImmL.take (fun _ _ h => Imm.length h) (off + sLen) j4)) (ImmL.mono (fun _ _ _ h => h.mono hsame (fun _ h => h)) hsrc.imm)
      · rw [htake]
        exact ⟨List.drop ((off + sLen) * e.csz + news.length) cc.toList, by simp⟩)
  refine ⟨_, _, _, hrun, j, hS', ?_, h⟩
  exact VV_slI (m := ⟨some b, off + sLen + ys.length, off + sCap, e, hlt⟩) (by simp [upd]) hroom hroom (Nat.le_refl _) (show off + (sLen + ys.length) ≤ off + sLen + ys.length by omega) (fun h => by cases h) (Nat.le_refl _) (.inr ⟨b, rfl, rfl⟩)
theorem put_part {s : St} (hS : Sim s) {id : Nat} {m : Meta} {xs : List e.T} {ex : Bool} (hg : Sto.get s.σ id = .row e xs ex) (hm : s.ρ id = some m) {b : Nat} (hb : m.blk = some b) {o : Nat} {ys : List e.T} {news : List Value}
    (hfit : o + ys.length ≤ xs.length) (hi : ImmL (Imm s.w s.F e) ys news) :
    ∃ c el, s.w.heap[b]? = some (.cells c el (0, 0)) ∧ m.tot * e.csz ≤ c.size ∧ (o * e.csz + news.length ≤ c.size) ∧
      let w' := s.w.setRow b (c.toList.take (o * e.csz) ++ news ++ c.toList.drop (o * e.csz + news.length)).toArray
      let s' : St := ⟨w', s.F, s.ρ, Sto.put s.σ id (.row e (xs.take o ++ ys ++ xs.drop (o + ys.length)) ex)⟩
      Sim s' ∧ J s s' := by
  have ho := hS.obj id
  rw [hg] at ho
  obtain ⟨m', k1, k2, k3, k4, k5, k6⟩ := ho
  rw [hm] at k1; cases k1
  rcases k6 with ⟨k6, _⟩ | ⟨b', cc, el, cs, j1, j2, j3, j4, j5⟩
  · rw [hb] at k6; cases k6
  rw [hb] at j1; cases j1
  have hcl : cs.length = xs.length * e.csz := ImmL.length (fun _ _ h => Imm.length h) j4
  have hnl : news.length = ys.length * e.csz := ImmL.length (fun _ _ h => Imm.length h) hi
  have hle : o * e.csz + news.length ≤ cs.length := by
    rw [hnl, hcl, ← Nat.add_mul]
    exact Nat.mul_le_mul_right _ hfit
  obtain ⟨r, hr⟩ := j5
  have hsz : cs.length ≤ cc.size := by rw [← Array.length_toList, ← hr]; simp
  refine ⟨cc, el, j2, j3, by omega, ?_⟩
  have hsame : Same s.F s.w (s.w.setRow b (cc.toList.take (o * e.csz) ++ news ++ cc.toList.drop (o * e.csz + news.length)).toArray) := fun b1 hb1 => setRow_other _ _ _ _ (by
    rintro rfl
    exact hS.notF b1 (St.own_of (id := id) (m := m) (by rw [hg]; rfl) hm hb) hb1)
  have hnew : (cc.toList.take (o * e.csz) ++ news ++ cc.toList.drop (o * e.csz + news.length)) = (cs.take (o * e.csz) ++ news ++ cs.drop (o * e.csz + news.length)) ++ r := by
    rw [← hr, List.take_append_of_le_length (by omega), List.drop_append_of_le_length hle]
    simp
  refine hS.put (id := id) (m := m) (by rw [hg]; rfl) hm (keep_setRow hb) ?_
  refine ⟨m, hm, k2, ?_, k4, k5, .inr ⟨b, _, el, cs.take (o * e.csz) ++ news ++ cs.drop (o * e.csz + news.length), hb, setRow_heap _ _ _ _ _ _ j2, ?_, ?_, ⟨r, by rw [← hnew]⟩⟩⟩
  · show m.len = (xs.take o ++ ys ++ xs.drop (o + ys.length)).length
    rw [List.length_append, List.length_append, List.length_take, List.length_drop]; omega
  · have e1 : (cc.toList.take (o * e.csz) ++ news ++ cc.toList.drop (o * e.csz + news.length)).length = cc.size := by
      rw [List.length_append, List.length_append, List.length_take, List.length_drop, Array.length_toList]
      omega
    refine Nat.le_trans j3 (Nat.le_of_eq ?_)
    rw [List.size_toArray]
    exact e1.symm
  · have hk : (o + ys.length) * e.csz = o * e.csz + news.length := by rw [hnl, Nat.add_mul]
    refine ImmL.append (ImmL.append ?_ (ImmL.mono (fun _ _ _ h => h.mono hsame (fun _ h => h)) hi)) ?_
    · exact ImmL.mono (fun _ _ _ h => h.mono hsame (fun _ h => h)) (ImmL.take (fun _ _ h => Imm.length h) o j4)
    · have := ImmL.drop (fun _ _ h => Imm.length h) (o + ys.length) j4
      rw [hk] at this
      exact ImmL.mono (fun _ _ _ h => h.mono hsame (fun _ h => h)) this
theorem appK_sound {s : St} (hS : Sim s) (ht : P.underlying t = some (.slice te)) (he : tyb P e te = true) (h2 : NotInt P t2) (hby : (P.info? te).map (·.bytes) = some bytes) (hb0 : bytes ≠ 0)
    {sv : AV} {sc : Value} (hs : s.vv sv sc) {xv : Value} {ys : List e.T} {news : List Value} (hsrc : Src P s e xv ys news) {K : AV → Sto → Prop} (h : appK (fun _ => False) And s.σ e bytes sv ys K) :
    Runs P s (Builtin.append_ #[t, t2] ty #[sc, xv]) K := by
  unfold appK at h
  split at h
  · rename_i u
    have hc := VV_nils hs
    subst hc
    cases hu : u == e with
    | false => rw [hu] at h; exact h.elim
    | true =>
      rw [hu] at h
      rw [beq_iff_eq] at hu
      subst hu
      dsimp only [cond_true] at h
      rcases br_prop h with ⟨h0, h⟩ | ⟨h0, h⟩
      · exact ⟨_, _, s, app_none ht he h2 (Nat.le_refl _) hsrc h0, .refl s, hS, hs, h⟩
      · rcases br_prop h with ⟨h1, h⟩ | ⟨_, h⟩
        · exact runs_grow_new hS ht he h2 hby hb0 (l := []) (olds := []) (src_slice rfl rfl (.inl rfl)) rfl hsrc (by have := isEmpty_false h0; omega) (by simpa using roomB_le h1) (by simpa using h)
        · exact h.elim
  · rename_i u xs
    split at h
    · rename_i hu
      have hu' : u = e := by simpa using hu
      subst hu'
      obtain ⟨a, len, rfl, hi⟩ := VV_dx hs
      dsimp only [cst] at h
      rcases br_prop h with ⟨h0, h⟩ | ⟨h0, h⟩
      · exact ⟨_, _, s, app_none ht he h2 (Nat.le_refl _) hsrc h0, .refl s, hS, hs, h⟩
      · rcases br_prop h with ⟨h1, h⟩ | ⟨_, h⟩
        · obtain ⟨olds, hold⟩ := vv_src_dx (P := P) hi
          have hl : xs.length = len := hi.1.symm
          exact runs_grow_new hS ht he h2 hby hb0 hold hl hsrc (by have := isEmpty_false h0; omega) (by have := roomB_le h1; rwa [hl] at this) h
        · exact h.elim
    · exact h.elim
  · rename_i id
    split at h
    · rename_i u xs ex hg
      split at h
      · rename_i hu
        have hu' : u = e := by simpa using hu
        subst hu'
        obtain ⟨m, a, rfl, hm, hle, ha⟩ := VV_vec hs
        dsimp only [cst] at h
        rcases br_prop h with ⟨h0, h⟩ | ⟨h0, h⟩
        · exact ⟨_, _, s, app_none ht he h2 hle hsrc h0, .refl s, hS, hs, h⟩
        · rcases br_prop h with ⟨h1, h⟩ | ⟨_, h⟩
          · have ho := hS.obj id
            rw [hg] at ho
            obtain ⟨m', k1, k2, k3, k4, k5, k6⟩ := ho
            rw [hm] at k1; cases k1
            have hlen : xs.length = m.len := k3.symm
            have hr := roomB_le h1
            rw [hlen] at hr
            have hpos := isEmpty_false h0
            obtain ⟨_, r1, cs, r2, r3⟩ := row_at hS hg hm (off := 0) (len := m.len) (a := a) (by omega) (by
              rcases ha with h3 | ⟨b, h3, h4⟩
              · left; omega
              · right; exact ⟨b, h3, by rw [h4, Nat.zero_mul]⟩)
            have hx : (xs.drop 0).take m.len = xs := by rw [List.drop_zero, k3, List.take_length]
            rw [hx] at r2 r1
            have hold : Src P s u (.slice a m.len m.tot) xs cs := src_slice r2 r1.symm (r3.imp (fun h => by omega) (fun h => h))
            cases ex with
            | true =>
              exact runs_grow_new hS ht he h2 hby hb0 hold hlen hsrc (by have := k5 rfl; omega) hr h
            | false =>
              by_cases hroom : m.len + ys.length ≤ m.tot
              · rcases ha with ha | ⟨b, hb, hab⟩
                · omega
                · subst hab
                  exact runs_room_dead hS ht he h2 hg hm hb (by omega) (Nat.le_refl _) hsrc hroom (by rw [← hlen, List.take_length]; exact h)
              · exact runs_grow_dead hS ht he h2 hby hb0 hold hlen hsrc (by omega) hr (by rw [hg]; rfl) hm h
          · exact h.elim
      · exact h.elim
    · exact h.elim
  · rename_i id off len cap ex
    split at h
    · rename_i u xs rx hg
      split at h
      · rename_i hu
        have hu' : u = e := by simpa using hu
        subst hu'
        obtain ⟨m, a, cap', rfl, hm, h3, h4, h5, h6, h7, h8, h9⟩ := VV_sl hs
        have ho := hS.obj id
        rw [hg] at ho
        obtain ⟨m', k1, k2, k3, k4, k5, k6⟩ := ho
        rw [hm] at k1; cases k1
        subst k2
        dsimp only [cst] at h
        rcases br_prop h with ⟨hf, h⟩ | ⟨hf, h⟩
        · have hfit := of_decide_eq_true hf
          rcases h9 with h9 | ⟨b, hb, hab⟩
          · -- nothing fits: nothing is appended
            have hy : ys = [] := List.eq_nil_of_length_eq_zero (by omega)
            subst hy
            have hnn : (xs.take (off + len) ++ [] ++ xs.drop (off + len + ([] : List m.ty.T).length)) = xs := by simp
            rw [hnn] at h
            obtain ⟨hS', j⟩ := hS.put (id := id) (m := m) (w' := s.w) (ob := .row m.ty xs rx) (by rw [hg]; rfl) hm (.refl _ _) (by have := hS.obj id; rwa [hg] at this)
            exact ⟨.sl id off (len + ([] : List m.ty.T).length) cap ex, _, ⟨s.w, s.F, s.ρ, Sto.put s.σ id (.row m.ty xs rx)⟩, app_none ht he h2 h3 hsrc rfl, j, hS', VV_slI hm (by simpa using h3) h4 h5 h6 h7 (by simpa using h8) (.inl h9), h⟩
          · subst hab
            obtain ⟨c, el, p1, p2, p3, p4, p5⟩ := put_part hS hg hm hb (o := off + len) (ys := ys) (by omega) hsrc.imm
            have hrun := app_room (ty := ty) (o := off) hS ht he h2 p1 hsrc (sLen := len) (sCap := cap') (by omega) (tot := m.tot) h5 p2
            exact ⟨_, _, _, hrun, p5, p4, VV_slI (m := m) hm (by omega) h4 h5 h6 h7 (by omega) (.inr ⟨b, hb, rfl⟩), h⟩
        · have hnf : ¬ len + ys.length ≤ cap := of_decide_eq_false hf
          rcases br_prop h with ⟨h1, hk⟩ | ⟨_, hk⟩
          · clear h
            have hr := roomB_le h1
            obtain ⟨_, r1, cs, r2, r3⟩ := row_at hS hg hm (off := off) (len := len) (a := a) (by omega) (by
              rcases h9 with h9 | h9
              · left; omega
              · right; exact h9)
            have hold : Src P s m.ty (.slice a len cap') ((xs.drop off).take len) cs := src_slice r2 r1.symm (r3.imp (fun h => by rw [r1]; exact h) (fun h => h))
            cases ex with
            | true =>
              have := h7 rfl
              exact runs_grow_new hS ht he h2 hby hb0 hold r1 hsrc (by omega) hr hk
            | false =>
              dsimp only [cond_false] at hk
              rcases br_prop hk with ⟨ho, hk⟩ | ⟨_, hk⟩
              rotate_left
              · by_cases hroom : len + ys.length ≤ cap'
                · rcases h9 with h9 | ⟨b, hb, hab⟩
                  · omega
                  · subst hab
                    exact runs_room_off hS ht he h2 hg hm hb (by omega) h5 hsrc hroom hk.2
                · exact runs_grow_dead hS ht he h2 hby hb0 hold r1 hsrc (by omega) hr (by rw [hg]; rfl) hm hk.1
              have := of_decide_eq_true ho
              subst this
              rw [List.drop_zero] at r2 r1 hold
              by_cases hroom : len + ys.length ≤ cap'
              · rcases h9 with h9 | ⟨b, hb, hab⟩
                · omega
                · rw [Nat.zero_mul] at hab
                  subst hab
                  exact runs_room_dead hS ht he h2 hg hm hb (by omega) (by omega) hsrc hroom hk
              · exact runs_grow_dead hS ht he h2 hby hb0 hold r1 hsrc (by omega) hr (by rw [hg]; rfl) hm hk
          · exact hk.elim
      · exact h.elim
    · exact h.elim
  · exact h.elim
end
end Go.Abs
