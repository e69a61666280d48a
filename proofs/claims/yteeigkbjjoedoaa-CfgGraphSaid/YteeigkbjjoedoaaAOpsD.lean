/- The evaluator's single operations against the model's: struct and slice literals, variables, rows of zeros. -/
import Derived.Test.YteeigkbjjoedoaaAOpsC
set_option linter.unusedVariables false
set_option linter.unusedSimpArgs false
namespace Go.Abs
section
variable {P : Program}
theorem fdb_all {P : Program} : ∀ {t : Ty} {fs : List Field} {off : Nat}, fdb P t fs off = true → ∀ f ∈ fs, ∃ n, (∀ w, (sizeOf f.type).run P w = .ok n w) ∧ (P.info? f.type).map (·.size) = some n := by
  intro t
  induction t with
  | pair a b iha ihb =>
    intro fs off h f hf
    cases fs with
    | nil => simp [fdb] at h
    | cons g fs =>
      simp only [fdb, Bool.and_eq_true] at h
      rcases List.mem_cons.1 hf with rfl | hf
      · obtain ⟨i, hi, hs, _⟩ := tyb_info h.1.1.1.2
        exact ⟨a.csz, fun w => run_sizeOf' h.1.1.1.2 w, by rw [hi]; simp [hs]⟩
      · exact ihb h.2 f hf
  | unit =>
    intro fs off h f hf
    simp only [fdb, List.isEmpty_iff] at h
    subst h
    simp at hf
  | _ => intro fs off h; simp [fdb] at h
inductive PartsS (s : St) (ty : Ty) : List (Nat × AV) → List (Nat × Value) → Prop
  | nil : PartsS s ty [] []
  | cons {i v c u r q} : fieldTy ty i = some u → conf s.σ depth u v = true → s.vv v c → PartsS s ty r q → PartsS s ty ((i, v) :: r) ((i, c) :: q)
theorem fill_struct {s : St} (hS : Sim s) {ty : Ty} {fs : List Field} (hf : fdb P ty fs 0 = true) : ∀ {ps : List (Nat × AV)} {qs : List (Nat × Value)} {l : List AV} {cs : List Value}, PartsS s ty ps qs → VR s.w s.F s.ρ ty (.agg l) cs →
    ∃ cs', Instr.fill (fun i => (fs.map fun f => (f.offset, ((P.info? f.type).map (·.size)).getD 0))[i]?) cs.toArray qs = some cs'.toArray ∧ VR s.w s.F s.ρ ty (.agg (fillL l ps)) cs' := by
  intro ps qs l cs hp
  induction hp generalizing l cs with
  | nil => intro hv; exact ⟨cs, rfl, hv⟩
  | @cons i v c u r q h1 h2 h3 _ ih =>
    intro hv
    obtain ⟨cv, k1, k2⟩ := vv_conf hS h3 h2
    obtain ⟨pre, c', post, e, j1, j2, j3⟩ := setL_VR hv h1 k1
    obtain ⟨f, f1, f2, f3, f4, f5⟩ := fdb_get hf h1
    obtain ⟨inf, g1, g2, _⟩ := tyb_info f3
    obtain ⟨cs', i1, i2⟩ := ih j3
    subst e
    have hpl : (fs.map fun f => (f.offset, ((P.info? f.type).map (·.size)).getD 0))[i]? = some (pre.length, cv.length) := by
      rw [List.getElem?_map, f1]
      simp [f2, j1, g1, g2, k1.length]
    refine ⟨cs', ?_, i2⟩
    rw [fill_step (off := pre.length) (size := cv.length) hpl (by rw [k2]; exact cells_toV k1) rfl (by simp only [List.length_append]; omega)]
    have := splice_eq (pre := pre) (c := c') (post := post) (r := []) (cv := cv) j2
    simp only [List.append_nil] at this
    rw [this]
    exact i1
theorem build_sound {s : St} (hS : Sim s) {ty : Ty} {t : TypeId} (ht : tyb P ty t = true) (hr : isRec ty = true) (hpos : ty.csz ≠ 0) {ps : List (Nat × AV)} {qs : List (Nat × Value)} (hp : PartsS s ty ps qs) {l : List AV} (hl : VR s.w s.F s.ρ ty (.agg l) (zcells ty)) {K : AV → Sto → Prop}
    (h : K (mkAgg (fillL l ps)) s.σ) : Runs P s (Instr.build t qs.toArray) K := by
  have hzc : (toV ty (zcells ty)).cells = (zcells ty).toArray := toV_cells (zcells_len ty) (zcells_one ty)
  cases ty with
  | pair a b =>
    obtain ⟨fs, hu, hf, _⟩ := pair_under ht
    obtain ⟨cs', i1, i2⟩ := fill_struct (P := P) hS hf hp hl
    refine .same hS ?_ (mkAgg_VV i2) h
    have hm := mapM_places (P := P) (w := s.w) (fs := fs.toList) (fun f hf' => by
      obtain ⟨n, h1, h2⟩ := fdb_all hf f hf'
      exact ⟨n, h1 s.w, h2⟩)
    have hm' : (fs.mapM (fun f => do pure (f.offset, ← sizeOf f.type) : Field → Sem (Nat × Nat))).run P s.w = .ok (fs.toList.map fun f => (f.offset, ((P.info? f.type).map (·.size)).getD 0)).toArray s.w := by
      rw [Array.mapM_eq_mapM_toList]
      simp only [Sem.run_map, hm, Result.andThen_ok]
    simp only [Instr.build, Sem.run_bind, run_zeroValue' ht s.w, Result.andThen_ok, run_underlying hu s.w, hm', hzc]
    simp only [List.getElem?_toArray, i1]
    rfl
  | unit => exact (hpos rfl).elim
  | _ => simp [isRec] at hr
inductive PartsV (s : St) : List (Nat × AV) → List (Nat × Value) → Prop
  | nil : PartsV s [] []
  | cons {i v c r q} : s.vv v c → PartsV s r q → PartsV s ((i, v) :: r) ((i, c) :: q)
theorem fill_row {s : St} (hS : Sim s) {F' : Nat → Prop} (hF : ∀ b, s.F b → F' b) {e : Ty} : ∀ {ps : List (Nat × AV)} {qs : List (Nat × Value)} {l l' : List e.T} {cs : List Value},
    litD s.σ e l ps = some l' → PartsV s ps qs → ImmL (Imm s.w F' e) l cs → (∀ p ∈ ps, ∀ id ∈ AV.ids depth p.2, isLive (Sto.get s.σ id) = true → ∀ m b, s.ρ id = some m → m.blk = some b → F' b) →
    l'.length = l.length ∧ ∃ cs', Instr.fill (fun i => some (i * e.csz, e.csz)) cs.toArray qs = some cs'.toArray ∧ ImmL (Imm s.w F' e) l' cs' := by
  intro ps
  induction ps with
  | nil =>
    intro qs l l' cs h hq hI _
    cases hq
    simp only [litD, Option.some.injEq] at h
    subst h
    exact ⟨rfl, cs, rfl, hI⟩
  | cons p ps ih =>
    intro qs l l' cs h hq hI hids
    obtain ⟨i, v⟩ := p
    cases hq with
    | @cons _ _ c _ qs hv hq =>
      simp only [litD] at h
      split at h
      · rename_i x hx
        cases hlt : Nat.blt i l.length with
        | false => rw [hlt] at h; cases h
        | true =>
          rw [hlt] at h
          have hi : i < l.length := by simpa [Nat.blt_eq] using hlt
          have hv1 : ∃ u cv, VR s.w s.F s.ρ u v cv ∧ c = toV u cv := by
            cases v <;> first
              | exact hv
              | (simp [toD, depth] at hx; done)
          obtain ⟨u, cv, g1, g2⟩ := hv1
          obtain ⟨e2, g3⟩ := toD_imm hS hF depth depth (Nat.le_refl _) hx g1 (fun id hid => hids (i, v) (by simp) id hid)
          subst e2
          have hx' : l[i]? = some l[i] := by simp [hi]
          obtain ⟨pre, c0, post, f1, f2, f3, f4⟩ := ImmL.focus (fun _ _ h => Imm.length h) hI hx'
          have hnew := f4 x cv g3
          obtain ⟨r1, cs', r2, r3⟩ := ih (l := l.set i x) h hq hnew (fun p hp => hids p (by simp [hp]))
          refine ⟨by rw [r1, List.length_set], cs', ?_, r3⟩
          subst f1
          have hcl : c0.length = cv.length := by rw [f3.length, g1.length]
          rw [fill_step (off := pre.length) (size := cv.length) (by rw [f2, g1.length]) (by rw [g2]; exact cells_toV g1) rfl (by simp only [List.length_append]; omega)]
          have := splice_eq (pre := pre) (c := c0) (post := post) (r := []) (cv := cv) hcl
          simp only [List.append_nil] at this
          rw [this]
          exact r2
      · cases h
theorem range_mod {z : List Value} {n : Nat} (hz : z ≠ []) : ((Array.range (n * z.length)).map (fun i => z.toArray[i % z.toArray.size]!)) = (List.replicate n z).flatten.toArray := by
  apply Array.ext'
  simp only [Array.toList_map, Array.toList_range]
  induction n with
  | zero => simp
  | succ n ih =>
    rw [Nat.add_mul, Nat.one_mul, List.range_add, List.map_append, ih, List.replicate_succ', List.flatten_append]
    congr 1
    simp only [List.map_map, List.flatten_cons, List.flatten_nil, List.append_nil]
    apply List.ext_getElem?
    intro j
    have hpos : 0 < z.length := List.length_pos_iff.2 hz
    by_cases hj : j < z.length
    · simp only [List.getElem?_map, List.getElem?_range hj, Option.map_some, Function.comp_apply, List.size_toArray]
      have : (n * z.length + j) % z.length = j := by rw [Nat.add_comm, Nat.mul_comm, Nat.add_mul_mod_self_left, Nat.mod_eq_of_lt hj]
      rw [this]
      simp [hj]
    · rw [List.getElem?_eq_none (by simpa using hj), List.getElem?_eq_none (by omega)]
theorem newRow_ok {s : St} (hS : Sim s) {e : Ty} {te : TypeId} {xs : List e.T} {cs : List Value} (hi : ImmL (Imm s.w s.F e) xs cs) (hlt : xs.length ≤ 9223372036854775807) :
    let m : Meta := ⟨some s.w.heap.size, xs.length, xs.length, e, hlt⟩
    let s' : St := ⟨s.w.alloc (.cells cs.toArray te), s.F, upd s.ρ s.σ.length m, s.σ ++ [.row e xs true]⟩
    (Go.newRow te cs.toArray).run P s.w = .ok ⟨s.w.heap.size, 0, none⟩ s'.w ∧ J s s' ∧ Sim s' ∧ s'.vv (.vec s.σ.length) (.slice (some ⟨s.w.heap.size, 0, none⟩) xs.length xs.length) ∧
      ∀ l c, l ≤ c → c = xs.length → s'.vv (.sl s.σ.length 0 l c true) (.slice (some ⟨s.w.heap.size, 0, none⟩) l c) := by
  dsimp only
  have hk : Keep (fun _ => False) s.w (s.w.alloc (.cells cs.toArray te)) := keep_alloc
  have hsame : Same s.F s.w (s.w.alloc (.cells cs.toArray te)) := fun b hb => hk.block b (hS.inF b hb) id
  obtain ⟨hS', j⟩ := hS.new (m := ⟨some s.w.heap.size, xs.length, xs.length, e, hlt⟩) (ob := .row e xs true) hk (fun b hb => by cases hb; exact Nat.le_refl _)
    ⟨⟨some s.w.heap.size, xs.length, xs.length, e, hlt⟩, by simp [upd], rfl, rfl, Nat.le_refl _, (fun _ => rfl), .inr ⟨s.w.heap.size, cs.toArray, te, cs, rfl, heap_alloc_new _ _, by
      show xs.length * e.csz ≤ cs.toArray.size
      have := ImmL.length (fun _ _ h => Imm.length h) hi
      simp only [List.size_toArray]
      omega, ImmL.mono (fun _ _ _ h => h.mono hsame (fun _ h => h)) hi, by simp⟩⟩
  refine ⟨rfl, j, hS', VV_vecI (m := ⟨some s.w.heap.size, xs.length, xs.length, e, hlt⟩) (by simp [upd]) (Nat.le_refl _) (.inr ⟨_, rfl, rfl⟩), fun l c hl hc => ?_⟩
  exact VV_slI (m := ⟨some s.w.heap.size, xs.length, xs.length, e, hlt⟩) (by simp [upd]) hl (Nat.le_refl _) (by simp [hc]) (by simp [hc]) (fun _ => rfl) hl (.inr ⟨_, rfl, by simp⟩)
end
end Go.Abs
