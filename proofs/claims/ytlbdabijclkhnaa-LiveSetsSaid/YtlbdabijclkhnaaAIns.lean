/- slices.Insert over whole numbers: the kit's laws of it, over the evaluator's states. -/
import Derived.Test.YtlbdabijclkhnaaAOpsJ
import Derived.Shelf.Spec.SlicesInsertGrow
set_option linter.unusedVariables false
set_option linter.unusedSimpArgs false
namespace Go.Abs
theorem setCells_row (b : Nat) (t : TypeId) : ∀ (vs : List Value) (o : Nat) (cur : Array Value) (w : World), w.heap[b]? = some (.cells cur t (0, 0)) → o + vs.length ≤ cur.size →
    w.setCells b o vs = w.setRow b (cur.toList.take o ++ vs ++ cur.toList.drop (o + vs.length)).toArray
  | [], o, cur, w, hg, _ => by
    rw [World.setCells, List.append_nil, List.length_nil, Nat.add_zero, List.take_append_drop, Array.toArray_toList, setRow_self w b cur t (0, 0) hg]
  | v :: rest, o, cur, w, hg, hl => by
    rw [World.setCells, setCell_eq_setRow w b o cur t (0, 0) v hg]
    have ih := setCells_row b t rest (o + 1) (cur.setIfInBounds o v) (w.setRow b (cur.setIfInBounds o v)) (setRow_heap w b cur _ t _ hg) (by simp at hl ⊢; omega)
    rw [ih, setRow_setRow]
    congr 2
    have e := list_seg_step cur.toList o v rest (by simp at hl ⊢; omega)
    simpa [Array.toList_setIfInBounds, Nat.add_assoc] using e
theorem immL_int {w : World} {F : Nat → Prop} : ∀ {xs : List Int} {cs : List Value}, ImmL (Imm w F (.int .i64)) xs cs → cs = xs.map (Value.int .i64)
  | [], cs, h => h
  | x :: xs, cs, ⟨c, r, e, h1, h2⟩ => by
    have h1' : c = [.int .i64 x] := h1
    rw [e, h1', immL_int h2]; rfl
theorem immL_int_of {w : World} {F : Nat → Prop} : ∀ (xs : List Int), ImmL (Imm w F (.int .i64)) xs (xs.map (Value.int .i64))
  | [] => rfl
  | x :: xs => ⟨[.int .i64 x], _, rfl, rfl, immL_int_of xs⟩
theorem one_int (xs : List Int) : ∀ v ∈ xs.map (Value.int .i64), v.oneCell' = true := by
  intro v hv
  obtain ⟨x, _, rfl⟩ := List.mem_map.1 hv
  rfl
section
variable {P : Program}
theorem fin_repl {s : St} (hS : Sim s) {id : Nat} {m0 : Meta} (hl : isLive (Sto.get s.σ id) = true) (hm : s.ρ id = some m0) {w' : World} {b : Nat} (hb : m0.blk = some b ∨ s.w.heap.size ≤ b) (hk : Keep (fun b => m0.blk = some b) s.w w')
    {cc : Array Value} {el : TypeId} (hw : w'.heap[b]? = some (.cells cc el (0, 0))) {zs : List Int} (hz : zs.map (Value.int .i64) <+: cc.toList) {tot : Nat} (h1 : zs.length ≤ tot) (h2 : tot ≤ cc.size) (h3 : tot ≤ 9223372036854775807)
    {K : AV → Sto → Prop} (h : newRow (Sto.put s.σ id .dead) (.int .i64) zs false K) :
    ∃ v c s', Ending.returned (Value.slice (some ⟨b, 0, none⟩) zs.length tot) = .returned c ∧ s'.w = w' ∧ J s s' ∧ Sim s' ∧ s'.vv v c ∧ K v s'.σ := by
  obtain ⟨hS', j⟩ := hS.repl (id := id) (m0 := m0) (m := ⟨some b, zs.length, tot, .int .i64, h3⟩) (w' := w') (ob := .row (.int .i64) zs false) hl hm hk
    (fun b1 hb1 => by cases hb1; exact hb)
    ⟨⟨some b, zs.length, tot, .int .i64, h3⟩, by simp [upd], rfl, rfl, h1, (fun h => by cases h), .inr ⟨b, cc, el, _, rfl, hw, by simpa [Ty.csz] using h2, immL_int_of zs, hz⟩⟩
  unfold newRow at h
  rw [length_put] at h
  exact ⟨_, _, _, rfl, rfl, j, hS', VV_vecI (m := ⟨some b, zs.length, tot, .int .i64, h3⟩) (by simp [upd]) h1 (.inr ⟨b, rfl, rfl⟩), h⟩
theorem fin_repl' {s : St} (hS : Sim s) {id : Nat} {m0 : Meta} (hl : isLive (Sto.get s.σ id) = true) (hm : s.ρ id = some m0) {w' : World} {b : Nat} (hb : m0.blk = some b) (hk : Keep (fun b => m0.blk = some b) s.w w')
    {cc : Array Value} {el : TypeId} (hw : w'.heap[b]? = some (.cells cc el (0, 0))) {zs : List Int} {tot n : Nat} (hn : zs.length = n) (hz : zs.map (Value.int .i64) <+: cc.toList) (h1 : n ≤ tot) (h2 : tot ≤ cc.size) (h3 : tot ≤ 9223372036854775807)
    {K : AV → Sto → Prop} (h : newRow (Sto.put s.σ id .dead) (.int .i64) zs false K) :
    ∃ v c s', Ending.returned (Value.slice (some ⟨b, 0, none⟩) n tot) = .returned c ∧ s'.w = w' ∧ J s s' ∧ Sim s' ∧ s'.vv v c ∧ K v s'.σ := by
  subst hn
  exact fin_repl hS hl hm (.inl hb) hk hw hz h1 h2 h3 h
theorem fin_new {s : St} (hS : Sim s) {w' : World} {b : Nat} (hb : s.w.heap.size ≤ b) (hk : Keep (fun _ => False) s.w w')
    {cc : Array Value} {el : TypeId} (hw : w'.heap[b]? = some (.cells cc el (0, 0))) {zs : List Int} (hz : zs.map (Value.int .i64) <+: cc.toList) {tot : Nat} (h1 : zs.length ≤ tot) (h2 : tot ≤ cc.size) (h3 : tot ≤ 9223372036854775807)
    {K : AV → Sto → Prop} (h : newRow s.σ (.int .i64) zs false K) :
    ∃ v c s', Ending.returned (Value.slice (some ⟨b, 0, none⟩) zs.length tot) = .returned c ∧ s'.w = w' ∧ J s s' ∧ Sim s' ∧ s'.vv v c ∧ K v s'.σ := by
  obtain ⟨hS', j⟩ := hS.new (m := ⟨some b, zs.length, tot, .int .i64, h3⟩) (w' := w') (ob := .row (.int .i64) zs false) hk
    (fun b1 hb1 => by cases hb1; exact hb)
    ⟨⟨some b, zs.length, tot, .int .i64, h3⟩, by simp [upd], rfl, rfl, h1, (fun h => by cases h), .inr ⟨b, cc, el, _, rfl, hw, by simpa [Ty.csz] using h2, immL_int_of zs, hz⟩⟩
  exact ⟨_, _, _, rfl, rfl, j, hS', VV_vecI (m := ⟨some b, zs.length, tot, .int .i64, h3⟩) (by simp [upd]) h1 (.inr ⟨b, rfl, rfl⟩), h⟩
theorem row_blk {s : St} (hS : Sim s) {id : Nat} {xs : List Int} {ex : Bool} (hg : Sto.get s.σ id = .row (.int .i64) xs ex) {m : Meta} (hm : s.ρ id = some m) (ht : m.tot ≠ 0) :
    ∃ b cc el, m.blk = some b ∧ s.w.heap[b]? = some (.cells cc el (0, 0)) ∧ m.tot ≤ cc.size ∧ xs.map (Value.int .i64) <+: cc.toList := by
  have ho := hS.obj id
  rw [hg] at ho
  obtain ⟨m', k1, k2, k3, k4, k5, k6⟩ := ho
  rw [hm] at k1; cases k1
  rcases k6 with ⟨_, k6⟩ | ⟨b', cc, el, cs, j1, j2, j3, j4, j5⟩
  · exact (ht k6).elim
  · refine ⟨b', cc, el, j1, j2, by simpa [Ty.csz] using j3, ?_⟩
    rw [← immL_int j4]; exact j5
theorem pre_at {w : World} {b : Nat} {cc : Array Value} {el : TypeId} {cs : List Value} (hw : w.heap[b]? = some (.cells cc el (0, 0))) (hp : cs <+: cc.toList) : ∀ j v, cs[j]? = some v → w.cell? ⟨b, 0 + j, none⟩ = some v := by
  intro j v hj
  have := at_of_prefix hw hp j v hj
  rwa [add_eq] at this
theorem ins_shift {cs vs sp : List Value} {i : Nat} (hi : i ≤ cs.length) (h : vs.length ≤ sp.length) :
    ((((cs ++ sp).take (i + vs.length) ++ cs.drop i ++ (cs ++ sp).drop (i + vs.length + (cs.drop i).length)).take i) ++ vs ++
      (((cs ++ sp).take (i + vs.length) ++ cs.drop i ++ (cs ++ sp).drop (i + vs.length + (cs.drop i).length)).drop (i + vs.length))) = (cs.take i ++ vs ++ cs.drop i) ++ sp.drop vs.length := by
  have e1 : ((cs ++ sp).take (i + vs.length)).length = i + vs.length := by rw [List.length_take, List.length_append]; omega
  have e2 : (((cs ++ sp).take (i + vs.length) ++ cs.drop i ++ (cs ++ sp).drop (i + vs.length + (cs.drop i).length)).take i) = cs.take i := by
    rw [List.append_assoc, List.take_append_of_le_length (by omega), List.take_take, Nat.min_eq_left (by omega), List.take_append_of_le_length hi]
  have e3 : (((cs ++ sp).take (i + vs.length) ++ cs.drop i ++ (cs ++ sp).drop (i + vs.length + (cs.drop i).length)).drop (i + vs.length)) = cs.drop i ++ sp.drop vs.length := by
    rw [List.append_assoc, List.drop_append_of_le_length (by omega), List.drop_eq_nil_of_le (by omega), List.nil_append]
    congr 1
    rw [List.length_drop, List.drop_append, List.drop_eq_nil_of_le (by omega), List.nil_append]
    congr 1
    omega
  rw [e2, e3]
  simp
theorem shape_of {w : World} {b : Nat} {cc : Array Value} {el : TypeId} (h : w.heap[b]? = some (.cells cc el (0, 0))) : w.shape? b = some (el, cc.size) := by
  unfold World.shape?; rw [h]
theorem frz_of {w : World} {b : Nat} {cc : Array Value} {el : TypeId} (h : w.heap[b]? = some (.cells cc el (0, 0))) (o : Nat) : w.frozen? ⟨b, o, none⟩ = false := by
  unfold World.frozen?; rw [h]; simp
theorem cell_of {w : World} {b : Nat} {cc : Array Value} {el : TypeId} (h : w.heap[b]? = some (.cells cc el (0, 0))) {o : Nat} (ho : o < cc.size) : (w.cell? ⟨b, o, none⟩).isSome = true := by
  unfold World.cell?; rw [h]; simp [ho]
theorem zc_len (n : Nat) : (Builtin.zeroCells (Value.int .i64 0).cells n).size = n := by
  rw [size_zeroCells]; simp [Value.cells]
theorem insA_sound {ρ : Go.Shelf.Ren} (L : Go.Proofs.Lays2.n21 P ρ) {s : St} (hS : Sim s) {v : Nat} {ys : List Int} {ex3 : Bool} (hg3 : Sto.get s.σ v = .row (.int .i64) ys ex3) (hypos : 0 < ys.length) {m3 : Meta} (hm3 : s.ρ v = some m3) (hle3 : m3.len ≤ m3.tot) {a3 : Option Addr} (ha3 : m3.tot = 0 ∨ ∃ b, m3.blk = some b ∧ a3 = some ⟨b, 0, none⟩) {i : Int} {K : AV → Sto → Prop} (h : insA (fun _ => False) s.σ ys i K) :
    Calls P (ρ.f 21) #[.slice none 0 0, .int .i64 i, .slice a3 m3.len m3.tot] s.w fun e w' => ∃ v c s', e = .returned c ∧ s'.w = w' ∧ J s s' ∧ Sim s' ∧ s'.vv v c ∧ K v s'.σ := by
  unfold insA at h
  have hlen3 : m3.len = ys.length := by
    have ho := hS.obj v
    rw [hg3] at ho
    obtain ⟨m', k1, _, k3, _⟩ := ho
    rw [hm3] at k1; cases k1
    exact k3
  obtain ⟨vb, vcc, vel, hb3, hh3, hs3, hp3⟩ := row_blk hS hg3 hm3 (by omega)
  have ha3' : a3 = some ⟨vb, 0, none⟩ := by
    rcases ha3 with h | ⟨b, h1, h2⟩
    · omega
    · rw [hb3] at h1; cases h1; exact h2
  subst ha3'
  have hvs := pre_at hh3 hp3
  have hvl : (ys.map (Value.int .i64)).length = m3.len := by rw [List.length_map]; exact hlen3.symm
  rcases br_prop h with ⟨hi0, h1⟩ | ⟨_, h1⟩
  rotate_left
  · exact h1.elim
  clear h
  have := of_decide_eq_true hi0
  subst this
  rcases br_prop h1 with ⟨hr, h⟩ | ⟨_, h⟩
  rotate_left
  · exact h.elim
  have hr := roomB_le hr
  refine Calls.mono (Go.Proofs.Any2.slices_Insert_int_end_grow L none 0 0 vb 0 m3.len m3.tot [] (ys.map (Value.int .i64)) s.w (by omega) (by omega) (by omega) (by omega) rfl hvl (fun _ => rfl) (fun a ha => by cases ha) hvs (one_int ys)) ?_
  rintro e w' ⟨rfl, rfl⟩
  have hk : Keep (fun _ => False) s.w (s.w.drew.alloc (.cells (([] ++ ys.map (Value.int .i64)).toArray ++ Builtin.zeroCells (Value.int .i64 0).cells (grownCap s.w (0 + m3.len) 0 (ρ.t 3) - (0 + m3.len))) (ρ.t 3))) := (keep_drew (O := fun _ => False)).trans keep_alloc
  have hge := grownCap_ge s.w (0 + m3.len) 0 (ρ.t 3)
  have hml := grownCap_le_maxLen s.w (0 + m3.len) 0 (ρ.t 3) (by unfold maxLen; omega)
  have := fin_new hS (b := s.w.heap.size) (Nat.le_refl _) hk (heap_alloc_new s.w.drew _) (zs := ys) (tot := grownCap s.w (0 + m3.len) 0 (ρ.t 3)) ⟨(Builtin.zeroCells (Value.int .i64 0).cells (grownCap s.w (0 + m3.len) 0 (ρ.t 3) - (0 + m3.len))).toList, by simp⟩ (by omega) (by
    rw [Array.size_append, zc_len]; simp; omega) hml h
  rwa [show 0 + m3.len = ys.length by omega] at this ⊢
theorem insB_sound {ρ : Go.Shelf.Ren} (L : Go.Proofs.Lays2.n21 P ρ) {s : St} (hS : Sim s) {v : Nat} {ys : List Int} {ex3 : Bool} (hg3 : Sto.get s.σ v = .row (.int .i64) ys ex3) (hypos : 0 < ys.length) {m3 : Meta} (hm3 : s.ρ v = some m3) (hle3 : m3.len ≤ m3.tot) {a3 : Option Addr} (ha3 : m3.tot = 0 ∨ ∃ b, m3.blk = some b ∧ a3 = some ⟨b, 0, none⟩) {id : Nat} (hne : id ≠ v) {xs : List Int} {ex1 : Bool} (hg1 : Sto.get s.σ id = .row (.int .i64) xs ex1) {m1 : Meta} (hm1 : s.ρ id = some m1) (hle1 : m1.len ≤ m1.tot) {a1 : Option Addr} (ha1 : m1.tot = 0 ∨ ∃ b, m1.blk = some b ∧ a1 = some ⟨b, 0, none⟩)
    {i : Int} {K : AV → Sto → Prop} (h : insB (fun _ => False) s.σ id xs ys i K) :
    Calls P (ρ.f 21) #[.slice a1 m1.len m1.tot, .int .i64 i, .slice a3 m3.len m3.tot] s.w fun e w' => ∃ v c s', e = .returned c ∧ s'.w = w' ∧ J s s' ∧ Sim s' ∧ s'.vv v c ∧ K v s'.σ := by
  unfold insB at h
  have hlen3 : m3.len = ys.length := by
    have ho := hS.obj v
    rw [hg3] at ho
    obtain ⟨m', k1, _, k3, _⟩ := ho
    rw [hm3] at k1; cases k1
    exact k3
  obtain ⟨vb, vcc, vel, hb3, hh3, hs3, hp3⟩ := row_blk hS hg3 hm3 (by omega)
  have ha3' : a3 = some ⟨vb, 0, none⟩ := by
    rcases ha3 with h | ⟨b, h1, h2⟩
    · omega
    · rw [hb3] at h1; cases h1; exact h2
  subst ha3'
  have hvs := pre_at hh3 hp3
  have hvl : (ys.map (Value.int .i64)).length = m3.len := by rw [List.length_map]; exact hlen3.symm
  rcases br_prop h with ⟨hi0, h⟩ | ⟨_, h⟩
  rotate_left
  · exact h.elim
  have hi0 := of_decide_eq_true hi0
  rcases br_prop h with ⟨hr, h⟩ | ⟨_, h⟩
  rotate_left
  · exact h.elim
  have hr := roomB_le hr
  have hlen1 : m1.len = xs.length := by
    have ho := hS.obj id
    rw [hg1] at ho
    obtain ⟨m', k1, _, k3, _⟩ := ho
    rw [hm1] at k1; cases k1
    exact k3
  have hlv1 : isLive (Sto.get s.σ id) = true := by rw [hg1]; rfl
  have hlv3 : isLive (Sto.get s.σ v) = true := by rw [hg3]; rfl
  obtain ⟨n, rfl⟩ : ∃ n : Nat, i = (n : Int) := ⟨i.toNat, by omega⟩
  rw [Int.toNat_natCast] at h
  have hn : n ≤ xs.length := by omega
  have hcl : (xs.map (Value.int .i64)).length = m1.len := by rw [List.length_map]; exact hlen1.symm
  have hmt := m1.lt
  have hzs : (List.take n xs ++ ys ++ List.drop n xs).map (Value.int .i64) = (xs.map (Value.int .i64)).take n ++ ys.map (Value.int .i64) ++ (xs.map (Value.int .i64)).drop n := by simp [List.map_take, List.map_drop]
  have hzl : (List.take n xs ++ ys ++ List.drop n xs).length = m1.len + m3.len := by simp; omega
  by_cases hroom : m1.len + m3.len ≤ m1.tot
  · -- room: in place
    obtain ⟨b, cc, el, hb1, hh1, hs1, hp1⟩ := row_blk hS hg1 hm1 (by omega)
    have ha1' : a1 = some ⟨b, 0, none⟩ := by
      rcases ha1 with h | ⟨b', h1, h2⟩
      · omega
      · rw [hb1] at h1; cases h1; exact h2
    subst ha1'
    have hvb : vb ≠ b := fun e => by
      subst e
      exact hne (hS.sep id v m1 m3 vb hlv1 hlv3 hm1 hm3 hb1 hb3)
    have hcs := pre_at hh1 hp1
    obtain ⟨sp, hsp⟩ := hp1
    have hccl : cc.size = m1.len + sp.length := by
      rw [← Array.length_toList, ← hsp, List.length_append, hcl]
    by_cases hend : n = xs.length
    · -- at the end
      have hne1 : (n : Int) = (m1.len : Int) := by omega
      rw [hne1]
      refine Calls.mono (Go.Proofs.Any2.slices_Insert_int_end_room L b 0 m1.len m1.tot vb 0 m3.len m3.tot (ys.map (Value.int .i64)) s.w (by omega) hroom hmt hvl (fun j hj => cell_of hh1 (by omega)) (fun j _ => frz_of hh1 _) hvs (one_int ys)) ?_
      rintro e w' ⟨rfl, rfl⟩
      rw [setCells_row b el _ _ cc s.w hh1 (by rw [hvl]; omega)]
      have hk : Keep (fun b => m1.blk = some b) s.w (s.w.setRow b (cc.toList.take (0 + m1.len) ++ ys.map (Value.int .i64) ++ cc.toList.drop (0 + m1.len + (ys.map (Value.int .i64)).length)).toArray) := keep_setRow hb1
      have := fin_repl hS hlv1 hm1 (.inl hb1) hk (setRow_heap _ _ _ _ _ _ hh1) (zs := List.take n xs ++ ys ++ List.drop n xs) (tot := m1.tot) (by
        rw [hzs, hend, show xs.length = (xs.map (Value.int .i64)).length by rw [List.length_map], List.take_length, List.drop_length, List.append_nil, ← hsp, Nat.zero_add, ← hcl, List.take_left]
        exact ⟨_, rfl⟩) (by omega) (by
        rw [List.size_toArray]; simp only [List.length_append, List.length_take, List.length_drop, Array.length_toList, hvl]; omega) hmt h
      rwa [hzl] at this
    · refine Calls.mono (Go.Proofs.Any2.slices_Insert_int_shift L b 0 m1.len m1.tot n vb 0 m3.len m3.tot (xs.map (Value.int .i64)) (ys.map (Value.int .i64)) s.w (by omega) (by omega) hroom hmt hvb hcl hvl hcs (fun j hj => cell_of hh1 (by omega)) (fun j _ => frz_of hh1 _) hvs (one_int xs) (one_int ys) vel el vcc.size cc.size (shape_of hh3) (shape_of hh1) (by omega) (frz_of hh3 _) (frz_of hh3 _)) ?_
      rintro e w' ⟨rfl, rfl⟩
      have hh1' : s.w.drew.heap[b]? = some (.cells cc el (0, 0)) := hh1
      rw [setCells_row b el _ _ cc s.w.drew hh1' (by rw [List.length_drop, hcl]; omega), setCells_row b el _ _ _ _ (setRow_heap _ _ _ _ _ _ hh1') (by
        rw [List.size_toArray]; simp only [List.length_append, List.length_take, List.length_drop, Array.length_toList, hvl, hcl]; omega), setRow_setRow]
      refine fin_repl' hS hlv1 hm1 hb1 ?_ (setRow_heap _ _ _ _ _ _ hh1') (zs := List.take n xs ++ ys ++ List.drop n xs) (tot := m1.tot) (n := m1.len + m3.len) hzl ?_ (by omega) ?_ hmt h
      · exact (keep_drew (O := fun b => m1.blk = some b)).trans (keep_setRow hb1)
      · rw [hzs, Nat.zero_add, Nat.zero_add, ← hsp, ← hvl]
        rw [List.toList_toArray]
        have := ins_shift (cs := xs.map (Value.int .i64)) (vs := ys.map (Value.int .i64)) (sp := sp) (i := n) (by omega) (by omega)
        rw [this]
        exact ⟨_, rfl⟩
      · rw [List.size_toArray]; simp only [List.length_append, List.length_take, List.length_drop, List.toList_toArray, Array.length_toList, hvl, hcl]; omega
  · have hbig : (m1.len + m3.len) * 8 ≤ 140737488355328 := by rw [hlen1, hlen3]; exact hr
    have hml := grownCap_le_maxLen s.w (m1.len + m3.len) m1.tot (ρ.t 3) (by unfold maxLen; omega)
    have hge := grownCap_ge s.w (m1.len + m3.len) m1.tot (ρ.t 3)
    by_cases hend : n = xs.length
    · -- at the end, a new row
      have hne1 : (n : Int) = (m1.len : Int) := by omega
      rw [hne1]
      refine Calls.mono (Go.Proofs.Any2.slices_Insert_int_end_grow L a1 m1.len m1.tot vb 0 m3.len m3.tot (xs.map (Value.int .i64)) (ys.map (Value.int .i64)) s.w (by omega) hle1 (by omega) hbig hcl hvl (fun ha => by
        rcases ha1 with h | ⟨b', h1, h2⟩
        · omega
        · rw [ha] at h2; cases h2) (fun a ha j u hj => by
        have hj2 := (List.getElem?_eq_some_iff.1 hj).1
        obtain ⟨b, cc, el, hb1, hh1, hs1, hp1⟩ := row_blk hS hg1 hm1 (by omega)
        rcases ha1 with h | ⟨b', h1, h2⟩
        · omega
        · rw [hb1] at h1; cases h1
          rw [ha] at h2; cases h2
          exact at_of_prefix hh1 hp1 j u hj) hvs (one_int ys)) ?_
      rintro e w' ⟨rfl, rfl⟩
      have hk : Keep (fun b => m1.blk = some b) s.w (s.w.drew.alloc (.cells ((xs.map (Value.int .i64) ++ ys.map (Value.int .i64)).toArray ++ Builtin.zeroCells (Value.int .i64 0).cells (grownCap s.w (m1.len + m3.len) m1.tot (ρ.t 3) - (m1.len + m3.len))) (ρ.t 3))) := (keep_drew (O := fun b => m1.blk = some b)).trans keep_alloc
      have := fin_repl hS hlv1 hm1 (.inr (Nat.le_refl _)) hk (heap_alloc_new s.w.drew _) (zs := List.take n xs ++ ys ++ List.drop n xs) (tot := grownCap s.w (m1.len + m3.len) m1.tot (ρ.t 3)) (by
        rw [hend, List.take_length, List.drop_length, List.append_nil]
        exact ⟨(Builtin.zeroCells (Value.int .i64 0).cells (grownCap s.w (m1.len + m3.len) m1.tot (ρ.t 3) - (m1.len + m3.len))).toList, by simp⟩) (by omega) (by
        rw [Array.size_append, zc_len]; simp; omega) hml h
      rwa [hzl] at this
    · obtain ⟨b, cc, el, hb1, hh1, hs1, hp1⟩ := row_blk hS hg1 hm1 (by omega)
      have ha1' : a1 = some ⟨b, 0, none⟩ := by
        rcases ha1 with h | ⟨b', h1, h2⟩
        · omega
        · rw [hb1] at h1; cases h1; exact h2
      subst ha1'
      refine Calls.mono (Go.Proofs.Any2.slices_Insert_int_grow L b 0 m1.len m1.tot n vb 0 m3.len m3.tot (xs.map (Value.int .i64)) (ys.map (Value.int .i64)) s.w (by omega) (by omega) hle1 (by omega) hbig hcl hvl (pre_at hh1 hp1) hvs (one_int xs) (one_int ys)) ?_
      rintro e w' ⟨rfl, rfl⟩
      generalize hZ : (Builtin.zeroCells (Value.int .i64 0).cells (m1.len + m3.len - n)) = Z1
      generalize hZ2 : (Builtin.zeroCells (Value.int .i64 0).cells (grownCap s.w (m1.len + m3.len) m1.tot (ρ.t 3) - (m1.len + m3.len))) = Z2
      have hz1 : Z1.size = m1.len + m3.len - n := by rw [← hZ, zc_len]
      have hz2 : Z2.size = grownCap s.w (m1.len + m3.len) m1.tot (ρ.t 3) - (m1.len + m3.len) := by rw [← hZ2, zc_len]
      generalize hA : (((xs.map (Value.int .i64)).take n).toArray ++ Z1 ++ Z2) = A
      have hAl : A.toList = (xs.map (Value.int .i64)).take n ++ (Z1.toList ++ Z2.toList) := by rw [← hA]; simp
      have htl : ((xs.map (Value.int .i64)).take n).length = n := by rw [List.length_take, hcl]; omega
      have hAs : A.size = grownCap s.w (m1.len + m3.len) m1.tot (ρ.t 3) := by
        rw [← Array.length_toList, hAl]; simp only [List.length_append, htl, Array.length_toList, hz1, hz2]; omega
      have g1 : (s.w.alloc (.cells A (ρ.t 3))).drew.heap[s.w.heap.size]? = some (.cells A (ρ.t 3) (0, 0)) := heap_alloc_new s.w _
      rw [setCells_row _ _ _ _ _ _ g1 (by rw [hvl, hAs]; omega)]
      generalize hB : (A.toList.take n ++ ys.map (Value.int .i64) ++ A.toList.drop (n + (ys.map (Value.int .i64)).length)).toArray = B
      have hBl : B.toList = ((xs.map (Value.int .i64)).take n ++ ys.map (Value.int .i64)) ++ (Z1.toList ++ Z2.toList).drop m3.len := by
        rw [← hB, List.toList_toArray, hAl]
        have e1 : ((xs.map (Value.int .i64)).take n ++ (Z1.toList ++ Z2.toList)).take n = (xs.map (Value.int .i64)).take n := by rw [List.take_append_of_le_length (by omega), List.take_of_length_le (by omega)]
        have e2 : ((xs.map (Value.int .i64)).take n ++ (Z1.toList ++ Z2.toList)).drop (n + (ys.map (Value.int .i64)).length) = (Z1.toList ++ Z2.toList).drop m3.len := by
          rw [hvl, List.drop_append, List.drop_eq_nil_of_le (by omega), List.nil_append]
          congr 1; omega
        rw [e1, e2]
      have hBs : B.size = grownCap s.w (m1.len + m3.len) m1.tot (ρ.t 3) := by
        rw [← Array.length_toList, hBl]; simp only [List.length_append, List.length_drop, htl, hvl, Array.length_toList, hz1, hz2]; omega
      have g2 : (((s.w.alloc (.cells A (ρ.t 3))).drew.setRow s.w.heap.size B).drew).heap[s.w.heap.size]? = some (.cells B (ρ.t 3) (0, 0)) := setRow_heap _ _ _ _ _ _ g1
      rw [setCells_row _ _ _ _ _ _ g2 (by rw [List.length_drop, hcl, hBs]; omega)]
      have hkz : Keep (fun b => m1.blk = some b) s.w ((((s.w.alloc (.cells A (ρ.t 3))).drew.setRow s.w.heap.size B).drew).setRow s.w.heap.size (B.toList.take (n + m3.len) ++ (xs.map (Value.int .i64)).drop n ++ B.toList.drop (n + m3.len + ((xs.map (Value.int .i64)).drop n).length)).toArray) := by
        have k0 : Keep (fun _ => False) s.w ((((s.w.alloc (.cells A (ρ.t 3))).drew.setRow s.w.heap.size B).drew).setRow s.w.heap.size (B.toList.take (n + m3.len) ++ (xs.map (Value.int .i64)).drop n ++ B.toList.drop (n + m3.len + ((xs.map (Value.int .i64)).drop n).length)).toArray) := by
          have q1 : Keep (fun _ => False) s.w (s.w.alloc (.cells A (ρ.t 3))).drew := (keep_alloc (O := fun _ => False)).trans keep_drew
          refine ⟨q1.os, q1.tape, q1.output, ?_, fun k hk _ => ?_, fun a ha => ?_⟩
          · have := q1.size
            simp only [setRow_size, World.drew]
            exact this
          · rw [setRow_other _ _ _ _ (by omega)]
            show (((s.w.alloc (.cells A (ρ.t 3))).drew.setRow s.w.heap.size B)).heap[k]? = _
            rw [setRow_other _ _ _ _ (by omega)]
            exact q1.block k hk fun h => h
          · rw [frz_setRow]
            show (((s.w.alloc (.cells A (ρ.t 3))).drew.setRow s.w.heap.size B)).frozen? a = _
            rw [frz_setRow]
            exact q1.frz a ha
        exact k0.mono fun _ h => h.elim
      have := fin_repl hS hlv1 hm1 (.inr (Nat.le_refl _)) hkz (setRow_heap _ _ _ _ _ _ g2) (zs := List.take n xs ++ ys ++ List.drop n xs) (tot := grownCap s.w (m1.len + m3.len) m1.tot (ρ.t 3)) (by
        rw [hzs, List.toList_toArray]
        have e1 : B.toList.take (n + m3.len) = (xs.map (Value.int .i64)).take n ++ ys.map (Value.int .i64) := by
          rw [hBl, List.take_append_of_le_length (by rw [List.length_append, htl, hvl]; omega), List.take_of_length_le (by rw [List.length_append, htl, hvl]; omega)]
        rw [e1]
        exact ⟨_, rfl⟩) (by omega) (by
        rw [List.size_toArray]; simp only [List.length_append, List.length_take, List.length_drop, Array.length_toList, hcl, hBs]; omega) hml h
      rwa [hzl] at this
theorem insK_sound {f : FuncId} (hf : InsOK P f) {args : List AV} {σ : Sto} {K : AV → Sto → Prop} (h : insK (fun _ => False) σ args K) : SC P f args σ K := by
  obtain ⟨ρ, rfl, L⟩ := hf
  intro s cs hσ hS hv
  subst hσ
  unfold insK at h
  split at h
  rotate_left
  · exact h.elim
  rename_i sv i v
  match cs, hv with
  | [], hv => exact hv.elim
  | [_], hv => exact hv.2.elim
  | [_, _], hv => exact hv.2.2.elim
  | _ :: _ :: _ :: _ :: _, hv => exact hv.2.2.2.elim
  | [c1, c2, c3], ⟨hv1, hv2, hv3, _⟩ =>
  have hc2 : c2 = .int .i64 i := VV_int (VV_of_VV1 hv2)
  subst hc2
  obtain ⟨m3, a3, rfl, hm3, hle3, ha3⟩ := VV_vec (VV_of_VV1 hv3)
  split at h
  rotate_left
  · exact h.elim
  rename_i ys ex3 hg3
  rcases br_prop h with ⟨_, h1⟩ | ⟨hy0, h1⟩
  · exact h1.elim
  clear h
  have hypos := isEmpty_false hy0
  split at h1
  · have hc1 := VV_nils (VV_of_VV1 hv1)
    subst hc1
    exact insA_sound L hS hg3 hypos hm3 hle3 ha3 h1
  · rename_i id
    cases hidv : Nat.beq id v with
    | true => rw [hidv] at h1; exact h1.elim
    | false =>
    rw [hidv] at h1
    have hne : id ≠ v := fun e => by rw [beq_eq.2 e] at hidv; cases hidv
    dsimp only [cond_false] at h1
    split at h1
    rotate_left
    · exact h1.elim
    rename_i xs ex1 hg1
    obtain ⟨m1, a1, rfl, hm1, hle1, ha1⟩ := VV_vec (VV_of_VV1 hv1)
    exact insB_sound L hS hg3 hypos hm3 hle3 ha3 hne hg1 hm1 hle1 ha1 h1
  · exact h1.elim
end
end Go.Abs
