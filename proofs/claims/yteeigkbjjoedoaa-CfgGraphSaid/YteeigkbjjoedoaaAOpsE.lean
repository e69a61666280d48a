/- The evaluator's single operations against the model's: copy, clear, makeSlice, literals of slices, variables, numbers. -/
import Derived.Test.YteeigkbjjoedoaaAOpsD
import Derived.Laws.BitsLemmas
set_option linter.unusedVariables false
set_option linter.unusedSimpArgs false
namespace Go.Abs
section
variable {P : Program}
theorem putRow_sound {s : St} (hS : Sim s) {e : Ty} {dv : AV} {dc : Value} (hd : s.vv dv dc) {f : Nat → List e.T} (hf : ∀ n, (f n).length ≤ n) {g : Nat → List Value} (hg : ∀ n, ImmL (Imm s.w s.F e) (f n) (g n)) {K : Nat → Sto → Prop}
    (h : putRow (fun _ => False) s.σ e dv f K) : ∃ base len cap s', dc = .slice base len cap ∧ J s s' ∧ Sim s' ∧ K (f len).length s'.σ ∧ (∀ a, base = some a → (storeCells a (g len)).run P s.w = .ok () s'.w) ∧ (base = none → s'.w = s.w) ∧ ((f len).length = 0 → s'.w = s.w) := by
  have hgl : ∀ n, (g n).length = (f n).length * e.csz := fun n => ImmL.length (fun _ _ h => Imm.length h) (hg n)
  unfold putRow at h
  split at h
  · have hc := VV_nils hd
    subst hc
    have h0 : (f 0).length = 0 := Nat.le_zero.1 (hf 0)
    exact ⟨none, 0, 0, s, rfl, .refl s, hS, by rw [h0]; exact h, (fun a ha => by cases ha), fun _ => rfl, fun _ => rfl⟩
  · rename_i id
    split at h
    · rename_i u xs ex hgt
      split at h
      · rename_i hu
        have hu' : u = e := by simpa using hu
        subst hu'
        obtain ⟨m, a, rfl, hm, hle, ha⟩ := VV_vec hd
        dsimp only [cst] at h
        have ho := hS.obj id
        rw [hgt] at ho
        obtain ⟨m', k1, k2, k3, k4, k5, k6⟩ := ho
        rw [hm] at k1; cases k1
        rw [← k3] at h
        rcases ha with ha | ⟨b, hb, hab⟩
        · have h0 : (f m.len).length = 0 := by have := hf m.len; omega
          have h1 : f m.len = [] := List.eq_nil_of_length_eq_zero h0
          have h2 : g m.len = [] := List.eq_nil_of_length_eq_zero (by rw [hgl, h0]; omega)
          obtain ⟨hS', j⟩ := hS.put (id := id) (m := m) (w' := s.w) (ob := .row u xs ex) (by rw [hgt]; rfl) hm (.refl _ _) (by have := hS.obj id; rwa [hgt] at this)
          refine ⟨a, m.len, m.tot, _, rfl, j, hS', ?_, fun ad _ => ?_, fun _ => rfl, fun _ => rfl⟩
          · rw [h1] at h
            rw [h1]
            simpa using h
          · rw [h2]; rfl
        · subst hab
          have hfit : 0 + (f m.len).length ≤ xs.length := by have := hf m.len; omega
          obtain ⟨c, el, p1, p2, p3, p4, p5⟩ := put_part hS hgt hm hb (o := 0) (ys := f m.len) hfit (hg m.len)
          refine ⟨_, m.len, m.tot, _, rfl, p5, p4, ?_, fun ad had => ?_, (fun h => by cases h), fun h0 => ?_⟩
          · simpa using h
          · cases had
            have := run_storeCells_at P b 0 el (g m.len) 0 c s.w p1 (by omega) (ImmL.one (fun _ _ h => Imm.one h) (hg m.len))
            simpa using this
          · have h2 : g m.len = [] := List.eq_nil_of_length_eq_zero (by rw [hgl, h0]; omega)
            have hself := setRow_self s.w b c el (0, 0) p1
            simp only [h2]
            simpa using hself
      · exact h.elim
    · exact h.elim
  · rename_i id off len cap ex
    split at h
    · rename_i u xs rx hgt
      split at h
      · rename_i hu
        have hu' : u = e := by simpa using hu
        subst hu'
        obtain ⟨m, a, cap', rfl, hm, h3, h4, h5, h6, h7, h8, h9⟩ := VV_sl hd
        dsimp only [cst] at h
        have ho := hS.obj id
        rw [hgt] at ho
        obtain ⟨m', k1, k2, k3, k4, k5, k6⟩ := ho
        rw [hm] at k1; cases k1
        rcases h9 with h9 | ⟨b, hb, hab⟩
        · have h0 : (f len).length = 0 := by have := hf len; omega
          have h1 : f len = [] := List.eq_nil_of_length_eq_zero h0
          have h2 : g len = [] := List.eq_nil_of_length_eq_zero (by rw [hgl, h0]; omega)
          obtain ⟨hS', j⟩ := hS.put (id := id) (m := m) (w' := s.w) (ob := .row u xs rx) (by rw [hgt]; rfl) hm (.refl _ _) (by have := hS.obj id; rwa [hgt] at this)
          refine ⟨a, len, cap', _, rfl, j, hS', ?_, fun ad _ => ?_, fun _ => rfl, fun _ => rfl⟩
          · rw [h1] at h
            rw [h1]
            simpa using h
          · rw [h2]; rfl
        · subst hab
          have hfit : off + (f len).length ≤ xs.length := by have := hf len; omega
          obtain ⟨c, el, p1, p2, p3, p4, p5⟩ := put_part hS hgt hm hb (o := off) (ys := f len) hfit (hg len)
          refine ⟨_, len, cap', _, rfl, p5, p4, h, fun ad had => ?_, (fun h => by cases h), fun h0 => ?_⟩
          · cases had
            have := run_storeCells_at P b (off * m.ty.csz) el (g len) 0 c s.w p1 (by rw [k2]; omega) (ImmL.one (fun _ _ h => Imm.one h) (hg len))
            rw [k2] at this ⊢
            simpa using this
          · have h2 : g len = [] := List.eq_nil_of_length_eq_zero (by rw [hgl, h0]; omega)
            have hself := setRow_self s.w b c el (0, 0) p1
            simp only [h2]
            simpa using hself
      · exact h.elim
    · exact h.elim
  · exact h.elim
theorem copy_sound {s : St} (hS : Sim s) {t t2 ty te : TypeId} {e : Ty} (ht : P.underlying t = some (.slice te)) (he : tyb P e te = true) {dv : AV} {dc xv : Value} (hd : s.vv dv dc) {ys : List e.T} {news : List Value} (hsrc : Src P s e xv ys news) {K : AV → Sto → Prop}
    (h : putRow (fun _ => False) s.σ e dv (fun n => ys.take n) fun n σ' => K (.d (.int .i64) (n : Int)) σ') : Runs P s (Builtin.copy_ #[t, t2] ty #[dc, xv]) K := by
  obtain ⟨base, len, cap, s', rfl, j, hS', hK, h1, h2, h3⟩ := putRow_sound (P := P) hS hd (f := fun n => ys.take n) (fun n => List.length_take_le n ys) (g := fun n => news.take (n * e.csz))
    (fun n => ImmL.take (fun _ _ h => Imm.length h) n hsrc.imm) h
  refine ⟨_, .int .i64 (((ys.take len).length : Nat) : Int), s', ?_, j, hS', VV_intI _ _, hK⟩
  have hn : Nat.min ys.length len ≤ ys.length := Nat.min_le_left _ _
  have hcells := hsrc.cells (Nat.min ys.length len) s.w hn (fun _ => rfl)
  have hnews : news.take (Nat.min ys.length len * e.csz) = news.take (len * e.csz) := by
    by_cases hc : len ≤ ys.length
    · rw [show Nat.min ys.length len = len from Nat.min_eq_right hc]
    · rw [show Nat.min ys.length len = ys.length from Nat.min_eq_left (by omega)]
      rw [List.take_of_length_le (Nat.le_of_eq hsrc.length), List.take_of_length_le (Nat.le_trans (Nat.le_of_eq hsrc.length) (Nat.mul_le_mul_right _ (by omega)))]
  have hlen : (List.take len ys).length = Nat.min ys.length len := by rw [List.length_take, Nat.min_comm]
  unfold Builtin.copy_
  simp only [List.getElem?_toArray, List.getElem?_cons_zero, List.getElem?_cons_succ, Sem.run_bind, run_underlying ht s.w, Result.andThen_ok, hsrc.len s.w, run_sizeOf' he s.w, hcells, hnews]
  cases base with
  | none => simp [h2 rfl, goInt, hlen]
  | some a => simp [h1 a rfl, goInt, hlen]
theorem clear_sound {s : St} (hS : Sim s) {t ty te : TypeId} {e : Ty} (ht : P.underlying t = some (.slice te)) (he : tyb P e te = true) (hpos : e.csz ≠ 0) {dv : AV} {dc : Value} (hd : s.vv dv dc) {K : AV → Sto → Prop}
    (h : putRow (fun _ => False) s.σ e dv (fun n => List.replicate n e.zero) fun _ σ' => K (.tup []) σ') : Runs P s (Builtin.clear_ #[t] ty #[dc]) K := by
  obtain ⟨base, len, cap, s', rfl, j, hS', hK, h1, h2, h3⟩ := putRow_sound (P := P) hS hd (f := fun n => List.replicate n e.zero) (fun n => by simp) (g := fun n => (List.replicate n (zcells e)).flatten) (fun n => zero_imms e n) h
  refine ⟨.tup [], .tuple #[], s', ?_, j, hS', (show s'.vv (.tup []) (.tuple #[]) from ⟨[], rfl, trivial⟩), hK⟩
  have hz : zcells e ≠ [] := fun h0 => hpos (by rw [← zcells_len, h0]; rfl)
  unfold Builtin.clear_
  cases base with
  | none =>
    have := h2 rfl
    simp [run_underlying ht s.w, this]
  | some a =>
    cases len with
    | zero =>
      have := h3 (by simp)
      simp [run_underlying ht s.w, this]
    | succ n =>
      have hst := h1 a rfl
      have hzc : Builtin.zeroCells (toV e (zcells e)).cells (n + 1) = (List.replicate (n + 1) (zcells e)).flatten.toArray := by
        rw [toV_cells (zcells_len e) (zcells_one e)]
        unfold Builtin.zeroCells
        exact range_mod hz
      simp only [List.getElem?_toArray, List.getElem?_cons_zero, Sem.run_bind, run_underlying ht s.w, Result.andThen_ok, run_zeroValue' he s.w, hzc, hst]
      rfl
theorem wrap_i64 {n : Int} (h0 : 0 ≤ n) (h1 : n ≤ 4611686018427387904) : IntKind.i64.wrap n = n := by
  rw [IntKind.wrap_i64]
  omega
theorem asInt_int {k : IntKind} {n : Int} {w : World} : (asInt (.int k n)).run P w = .ok n w := rfl
theorem makeSlice_sound {s : St} (hS : Sim s) {t te : TypeId} {e : Ty} {bytes : Nat} (ht : P.underlying t = some (.slice te)) (he : tyb P e te = true) (hpos : e.csz ≠ 0) (hby : (P.info? te).map (·.bytes) = some bytes) (hb0 : bytes ≠ 0) {k k' : IntKind} {l c : Int}
    (h0 : 0 ≤ l) (h1 : l ≤ c) (h2 : c * bytes ≤ 140737488355328) {K : AV → Sto → Prop}
    (h : K (.sl s.σ.length 0 l.toNat c.toNat true) (s.σ ++ [.row e (List.replicate c.toNat e.zero) true]) ∨ (l = c ∧ Abs.newRow s.σ e (List.replicate c.toNat e.zero) true K)) : Runs P s (Instr.makeSlice t (.int k l) (.int k' c)) K := by
  obtain ⟨inf, hi, hib⟩ : ∃ inf, P.info? te = some inf ∧ inf.bytes = bytes := by
    cases hi : P.info? te with
    | none => rw [hi] at hby; cases hby
    | some inf => rw [hi] at hby; exact ⟨inf, rfl, by simpa using hby⟩
  have hz : zcells e ≠ [] := fun h0 => hpos (by rw [← zcells_len, h0]; rfl)
  have hcl : c ≤ 140737488355328 := by
    have hb1 : (1 : Int) ≤ bytes := by omega
    have := Int.mul_le_mul_of_nonneg_left hb1 (Int.le_trans h0 h1)
    omega
  have hwl : IntKind.i64.wrap l = l := wrap_i64 h0 (by omega)
  have hwc : IntKind.i64.wrap c = c := wrap_i64 (by omega) (by omega)
  have hbig : ¬ ((bytes : Int) * c > 2 ^ 48) := by rw [Int.mul_comm]; omega
  obtain ⟨q1, q2, q3, q4, q5⟩ := newRow_ok (P := P) hS (e := e) (te := te) (zero_imms e c.toNat) (by rw [List.length_replicate]; omega)
  have hrun : (Instr.makeSlice t (.int k l) (.int k' c)).run P s.w = .ok (.slice (some ⟨s.w.heap.size, 0, none⟩) l.toNat c.toNat) (s.w.alloc (.cells (List.replicate c.toNat (zcells e)).flatten.toArray te)) := by
    unfold Instr.makeSlice
    have hc0 : ¬ c < 0 := by omega
    have hl0 : ¬ l < 0 := by omega
    have hlc : ¬ l > c := by omega
    have hti : (typeInfo te).run P s.w = .ok inf s.w := by simp [typeInfo, hi]
    have hcond : (decide (c < 0) || decide ((inf.bytes : Int) * c > 2 ^ 48) || decide (l < 0) || decide (l > c)) = false := by
      rw [decide_eq_false hc0, decide_eq_false hl0, decide_eq_false hlc, decide_eq_false (by rw [hib]; exact hbig)]
      rfl
    simp only [Sem.run_bind, run_underlying ht s.w, Result.andThen_ok, asInt_int, hti, hwl, hwc]
    simp only [hcond, Bool.false_eq_true, if_false, Sem.run_bind, run_askRoom, Result.andThen_ok, run_sizeOf' he s.w]
    by_cases hn : c.toNat * e.csz = 0
    · have hn0 : c.toNat = 0 := by
        rcases Nat.mul_eq_zero.1 hn with h | h
        · exact h
        · exact (hpos h).elim
      have harr : ∀ zero : Array Value, Array.map (fun x => zero[x % zero.size]!) (Array.range 0) = #[] := fun zero => by simp
      simp only [hn0, Nat.zero_mul, if_true, Sem.run_bind, Sem.run_pure, Result.andThen_ok, harr]
      rfl
    · simp only [hn, if_false, Sem.run_bind, run_zeroValue' he s.w, Result.andThen_ok, Sem.run_pure, toV_cells (zcells_len e) (zcells_one e)]
      rw [← zcells_len, range_mod hz]
      rfl
  rcases h with h | ⟨rfl, h⟩
  · exact ⟨_, _, _, hrun, q2, q3, q5 l.toNat c.toNat (by omega) (by simp), h⟩
  · exact ⟨_, _, _, hrun, q2, q3, by simpa using q4, h⟩
theorem buildSlice_sound {s : St} (hS : Sim s) {t te : TypeId} {e : Ty} (ht : P.underlying t = some (.slice te)) (he : tyb P e te = true) (hpos : e.csz ≠ 0) {n : Nat} (hn : n * e.csz ≤ 16777216) {ps : List (Nat × AV)} {qs : List (Nat × Value)} (hq : PartsV s ps qs) {l : List e.T}
    (hl : litD s.σ e (List.replicate n e.zero) ps = some l) {K : AV → Sto → Prop} (h : Abs.newRow (kill s.σ (ps.flatMap fun p => p.2.ids depth)) e l true K) : Runs P s (Instr.buildSlice t n qs.toArray) K := by
  have hz : zcells e ≠ [] := fun h0 => hpos (by rw [← zcells_len, h0]; rfl)
  obtain ⟨hS1, j1⟩ := St.kill_sim (ps.flatMap fun p => p.2.ids depth) hS
  obtain ⟨r1, cs', r2, r3⟩ := fill_row hS (F' := (s.kill (ps.flatMap fun p => p.2.ids depth)).F) (fun b hb => St.kill_F _ hb) hl hq (zero_imms e n) (fun p hp id hid hlive m b hm hb => St.kill_blk _ (List.mem_flatMap.2 ⟨p, hp, hid⟩) hlive m b hm hb)
  have hI : ImmL (Imm (s.kill (ps.flatMap fun p => p.2.ids depth)).w (s.kill (ps.flatMap fun p => p.2.ids depth)).F e) l cs' := by rw [St.kill_w]; exact r3
  have hln : l.length = n := by rw [r1]; simp
  obtain ⟨q1, q2, q3, q4, q5⟩ := newRow_ok (P := P) hS1 (te := te) hI (by have := Nat.mul_le_mul_left n (Nat.one_le_iff_ne_zero.2 hpos); rw [hln]; omega)
  refine ⟨_, _, _, ?_, j1.trans q2, q3, q4, ?_⟩
  · rw [St.kill_w] at q1 ⊢
    have hbig : ¬ n * e.csz > 2 ^ 24 := by omega
    unfold Instr.buildSlice
    simp only [Sem.run_bind, run_underlying ht s.w, Result.andThen_ok, run_sizeOf' he s.w, hbig, if_false]
    by_cases hn0 : n * e.csz = 0
    · have hn1 : n = 0 := by
        rcases Nat.mul_eq_zero.1 hn0 with h | h
        · exact h
        · exact (hpos h).elim
      have harr : ∀ zero : Array Value, Array.map (fun x => zero[x % zero.size]!) (Array.range 0) = #[] := fun zero => by simp
      subst hn1
      have r2' : Instr.fill (fun i => some (i * e.csz, e.csz)) #[] qs = some cs'.toArray := by simpa using r2
      simp only [Nat.zero_mul, if_true, Sem.run_bind, Sem.run_pure, Result.andThen_ok, harr, r2', q1, hln]
    · simp only [hn0, if_false, Sem.run_bind, run_zeroValue' he s.w, Result.andThen_ok, Sem.run_pure, toV_cells (zcells_len e) (zcells_one e)]
      have r2' := r2
      rw [← range_mod hz, zcells_len] at r2'
      simp only [r2', Sem.run_bind, q1, Result.andThen_ok, hln]
      rfl
  · rw [← St.kill_σ] at h
    exact h
theorem var_sound {s : St} (hS : Sim s) {ty : Ty} {te : TypeId} {v : AV} {cs : List Value} (hv : VR s.w s.F s.ρ ty v cs) {K : AV → Sto → Prop} (h : K (.ptr s.σ.length 0 []) (s.σ ++ [.one ty v])) :
    Runs P s (do pure (.pointer (some (← newVar te (toV ty cs))))) K := by
  have hk : Keep (fun _ => False) s.w (s.w.alloc (.cells cs.toArray te)) := keep_alloc
  have hsame : Same s.F s.w (s.w.alloc (.cells cs.toArray te)) := fun b hb => hk.block b (hS.inF b hb) id
  have hmono : ∀ id m', s.ρ id = some m' → upd s.ρ s.σ.length ⟨some s.w.heap.size, 1, 1, ty, by decide⟩ id = some m' := upd_mono hS _
  obtain ⟨hS', j⟩ := hS.new (m := ⟨some s.w.heap.size, 1, 1, ty, by decide⟩) (ob := .one ty v) hk (fun b hb => by cases hb; exact Nat.le_refl _)
    ⟨⟨some s.w.heap.size, 1, 1, ty, by decide⟩, s.w.heap.size, cs.toArray, te, by simp [upd], rfl, rfl, rfl, rfl, heap_alloc_new _ _, by simpa using hv.mono hsame (fun _ h => h) hmono⟩
  refine ⟨_, .pointer (some ⟨s.w.heap.size, 0 * ty.csz + offP ty [], none⟩), _, ?_, j, hS', VV_ptrI (m := ⟨some s.w.heap.size, 1, 1, ty, by decide⟩) (by simp [upd]) rfl, h⟩
  simp only [newVar, cells_toV hv, offP_nil, Nat.zero_mul, Nat.add_zero]
  rfl
end
end Go.Abs
