/- The evaluator's single operations against the model's: append, copy, clear, make. -/
import Derived.Test.YteeigkbjjoedoaaAOps4
set_option linter.unusedVariables false
set_option linter.unusedSimpArgs false
namespace Go.Abs
def NotInt (P : Program) (t : TypeId) : Prop := ∃ d, P.underlying t = some d ∧ ∀ k, d ≠ .int k
theorem notInt_of {P : Program} {E : Env} (hE : EnvOK P E) {t : TypeId} (h : srcTy (E.tyOf t) = true) : NotInt P t := by
  unfold Env.tyOf at h
  cases he : E.ty t with
  | none => rw [he] at h; cases h
  | some p =>
    obtain ⟨ty, b⟩ := p
    rw [he] at h
    have ht := (hE.ty t ty b he).tok
    cases ty with
    | sl e =>
      simp only [tyb, Bool.and_eq_true] at ht
      have h2 := ht.2
      split at h2
      · rename_i hu; exact ⟨_, hu, fun k => by simp⟩
      · cases h2
    | str =>
      simp only [tyb, Bool.and_eq_true] at ht
      have h2 := ht.2
      split at h2
      · rename_i hu; exact ⟨_, hu, fun k => by simp⟩
      · cases h2
    | _ => cases h
theorem slice_under {P : Program} {E : Env} (hE : EnvOK P E) {t te : TypeId} (h : E.elem t = some te) : P.underlying t = some (.slice te) := by
  have := hE.elem t te h
  unfold elOKb at this
  split at this
  · rename_i e hu; rw [beq_iff_eq] at this; exact this ▸ hu
  · cases this
section
variable {P : Program} {w : World} {t t2 ty te : TypeId} {e : Ty} {base : Option Addr} {sLen sCap n : Nat} {xv : Value} {news : List Value}
theorem zeros_no (h2 : NotInt P t2) (w : World) : (do pure ((← underlying t2) matches .int _) : Sem Bool).run P w = .ok false w := by
  obtain ⟨d, hd, hk⟩ := h2
  simp only [Sem.run_bind, run_underlying hd w, Result.andThen_ok, Sem.run_pure]
theorem run_append_room' (ht : P.underlying t = some (.slice te)) (he : tyb P e te = true) (h2 : NotInt P t2)
    (hlen : (Builtin.lenOf xv).run P w = .ok n w) (hcells : (Builtin.firstCells e.csz n xv).run P w = .ok news.toArray w) (hroom : sLen + n ≤ sCap) {w' : World}
    (hst : ∀ a, base = some a → (storeCells (a.add (sLen * e.csz)) news).run P w = .ok () w') (hnone : base = none → w' = w) :
    (Builtin.append_ #[t, t2] ty #[.slice base sLen sCap, xv]).run P w = .ok (.slice base (sLen + n) sCap) w' := by
  have hz := zeros_no h2 w
  obtain ⟨d, hd, hk⟩ := h2
  unfold Builtin.append_
  simp only [List.getElem?_toArray, List.getElem?_cons_zero, List.getElem?_cons_succ, Sem.run_bind, run_underlying ht w, Result.andThen_ok, run_sizeOf' he w, run_underlying hd w, Sem.run_pure]
  have hm : (match (generalizing := false) d with | .int _ => true | _ => false) = false := by cases d <;> first | rfl | exact (hk _ rfl).elim
  simp only [hm, Bool.false_eq_true, if_false, Bool.not_false, if_true, hlen, Result.andThen_ok, hroom, Sem.run_bind, hcells]
  cases base with
  | none => simp [hnone rfl]
  | some a => simp [hst a rfl]
theorem zcells_len : ∀ (t : Ty), (zcells t).length = t.csz
  | .int _ | .bool | .str | .opq _ | .sl _ | .unit => rfl
  | .pair a b => by rw [zcells, List.length_append, zcells_len a, zcells_len b]; rfl
  | .arr n e => by
    rw [zcells, List.length_flatten]
    simp [zcells_len e, Ty.csz]
theorem zcells_one : ∀ (t : Ty), ∀ v ∈ zcells t, v.oneCell' = true
  | .int _, v, h => by simp [zcells] at h; subst h; rfl
  | .bool, v, h => by simp [zcells] at h; subst h; rfl
  | .str, v, h => by simp [zcells] at h; subst h; rfl
  | .opq z, v, h => by simp [zcells] at h; subst h; cases z <;> rfl
  | .sl _, v, h => by simp [zcells] at h; subst h; rfl
  | .unit, v, h => by simp [zcells] at h
  | .pair a b, v, h => by
    rw [zcells] at h
    rcases List.mem_append.1 h with h | h
    · exact zcells_one a v h
    · exact zcells_one b v h
  | .arr n e, v, h => by
    rw [zcells] at h
    obtain ⟨l, hl, hv⟩ := List.mem_flatten.1 h
    rw [List.mem_replicate] at hl
    exact zcells_one e v (hl.2 ▸ hv)
theorem toV_cells {t : Ty} {cs : List Value} (hl : cs.length = t.csz) (h1 : ∀ v ∈ cs, v.oneCell' = true) : (toV t cs).cells = cs.toArray := by
  unfold toV
  cases hA : t.isA with
  | true => rfl
  | false =>
    obtain ⟨u, rfl⟩ := single_of_len (hl.trans (csz_one hA))
    have := h1 u (by simp)
    cases u <;> first | rfl | cases this
theorem cut_le {need old : Nat} {e : TypeId} {x : Nat} (h : need ≤ 140737488355328) : (Question.appendCap need old e).cut x ≤ 9223372036854775807 := by
  have hlt := Nat.mod_lt x (show 0 < 2 ^ 63 - need by omega)
  simp only [Question.cut]
  omega
theorem run_append_grow' (ht : P.underlying t = some (.slice te)) (he : tyb P e te = true) (h2 : NotInt P t2) {bytes : Nat} (hby : (P.info? te).map (·.bytes) = some bytes) (hb0 : bytes ≠ 0)
    (hlen : (Builtin.lenOf xv).run P w = .ok n w) (hcells : (Builtin.firstCells e.csz n xv).run P w.drew = .ok news.toArray w.drew) (hgrow : sCap < sLen + n)
    (hbytes : (sLen + n) * bytes ≤ 140737488355328) {olds : List Value} (holds : (Builtin.firstCells e.csz sLen (.slice base sLen sCap)).run P w.drew = .ok olds.toArray w.drew) :
    ∃ (c : Nat) (zs : List Value), sLen + n ≤ c ∧ c ≤ 9223372036854775807 ∧ zs.length = (c - (sLen + n)) * e.csz ∧
      (Builtin.append_ #[t, t2] ty #[.slice base sLen sCap, xv]).run P w = .ok (.slice (some ⟨w.heap.size, 0, none⟩) (sLen + n) c) (w.drew.alloc (.cells (olds ++ news ++ zs).toArray te)) := by
  obtain ⟨d, hd, hk⟩ := h2
  obtain ⟨i, hi, hsz, hzero⟩ := tyb_info he
  have hbi : i.bytes = bytes := by rw [hi] at hby; simpa using hby
  have hm : (match (generalizing := false) d with | .int _ => true | _ => false) = false := by cases d <;> first | rfl | exact (hk _ rfl).elim
  have hfit := growslice_fits (bytes := bytes) hgrow hbytes
  have hzc : (toV e (zcells e)).cells.size = e.csz := by
    rw [toV_cells (zcells_len e) (zcells_one e)]
    simp [zcells_len]
  refine ⟨(Question.appendCap (sLen + n) sCap te).cut (w.tape w.drawn (.appendCap (sLen + n) sCap te)), (Builtin.zeroCells (toV e (zcells e)).cells ((Question.appendCap (sLen + n) sCap te).cut (w.tape w.drawn (.appendCap (sLen + n) sCap te)) - (sLen + n))).toList, by simp [Question.cut], cut_le (by have := Nat.mul_le_mul_left (sLen + n) (Nat.one_le_iff_ne_zero.2 hb0); omega), by simp [size_zeroCells, hzc], ?_⟩
  unfold Builtin.append_
  simp only [List.getElem?_toArray, List.getElem?_cons_zero, List.getElem?_cons_succ, Sem.run_bind, run_underlying ht w, Result.andThen_ok, run_sizeOf' he w, run_underlying hd w, Sem.run_pure]
  have hfit' : ¬ Builtin.nextslicecap (sLen + n) sCap * bytes > 2 ^ 48 := by rw [show (2 : Nat) ^ 48 = 281474976710656 from by decide]; omega
  simp only [hm, Bool.false_eq_true, if_false, Bool.not_false, if_true, hlen, Result.andThen_ok, Nat.not_le.2 hgrow, Sem.run_bind, Sem.run_ite, typeInfo, run_program, hi, Sem.run_pure, hbi, hb0, or_false, false_or, and_false, hfit',
    run_choose, Question.forced, World.drew_eq, run_askRoom, holds, hcells, zeroValue, hzero, Go.newRow, run_newObj, World.alloc_eq]
  have : (olds ++ news ++ (Builtin.zeroCells (toV e (zcells e)).cells ((Question.appendCap (sLen + n) sCap te).cut (w.tape w.drawn (.appendCap (sLen + n) sCap te)) - (sLen + n))).toList).toArray = olds.toArray ++ news.toArray ++ Builtin.zeroCells (toV e (zcells e)).cells ((Question.appendCap (sLen + n) sCap te).cut (w.tape w.drawn (.appendCap (sLen + n) sCap te)) - (sLen + n)) := by simp
  rw [this]
  rfl
end
theorem row_at {s : St} (hS : Sim s) {id : Nat} {e : Ty} {xs : List e.T} {ex : Bool} (he : Sto.get s.σ id = .row e xs ex) {m : Meta} (hm : s.ρ id = some m)
    {off len : Nat} {a : Option Addr} (h2 : off + len ≤ m.len) (h3 : len = 0 ∨ ∃ b, m.blk = some b ∧ a = some ⟨b, off * m.ty.csz, none⟩) :
    m.ty = e ∧ ((xs.drop off).take len).length = len ∧ ∃ cs, ImmL (Imm s.w s.F e) ((xs.drop off).take len) cs ∧ (len = 0 ∨ ∃ ad, a = some ad ∧ At s.w ad cs) := by
  have ho := hS.obj id
  rw [he] at ho
  obtain ⟨m', k1, k2, k3, k4, k5, k6⟩ := ho
  rw [hm] at k1; cases k1
  have hlen : ((xs.drop off).take len).length = len := by rw [List.length_take, List.length_drop]; omega
  refine ⟨k2, hlen, ?_⟩
  rcases h3 with h3 | ⟨b, h3, h4⟩
  · subst h3
    exact ⟨[], by simp [ImmL], .inl rfl⟩
  · rcases k6 with ⟨k6, _⟩ | ⟨b', cc, el, cs, j1, j2, j3, j4, j5⟩
    · rw [h3] at k6; cases k6
    rw [h3] at j1; cases j1
    refine ⟨(cs.drop (off * e.csz)).take (len * e.csz), ImmL.take (fun _ _ h => Imm.length h) len (ImmL.drop (fun _ _ h => Imm.length h) off j4), .inr ⟨_, h4, ?_⟩⟩
    have := ((at_of_prefix j2 j5).drop rfl (off * e.csz)).take (len * e.csz)
    rw [add_eq, Nat.zero_add] at this
    rw [k2]
    exact this
structure Src (P : Program) (s : St) (e : Ty) (c : Value) (ys : List e.T) (news : List Value) : Prop where
  imm : ImmL (Imm s.w s.F e) ys news
  len : ∀ w, (Builtin.lenOf c).run P w = .ok ys.length w
  cells : ∀ k w, k ≤ ys.length → (∀ a, w.cell? a = s.w.cell? a) → (Builtin.firstCells e.csz k c).run P w = .ok (news.take (k * e.csz)).toArray w
theorem Src.length {P : Program} {s : St} {e : Ty} {c : Value} {ys : List e.T} {news : List Value} (h : Src P s e c ys news) : news.length = ys.length * e.csz := ImmL.length (fun _ _ h => Imm.length h) h.imm
theorem src_slice {P : Program} {s : St} {e : Ty} {ys : List e.T} {news : List Value} {a : Option Addr} {len cap : Nat} (hi : ImmL (Imm s.w s.F e) ys news) (hl : len = ys.length) (ha : ys.length = 0 ∨ ∃ ad, a = some ad ∧ At s.w ad news) :
    Src P s e (.slice a len cap) ys news := by
  have hn : news.length = ys.length * e.csz := ImmL.length (fun _ _ h => Imm.length h) hi
  refine ⟨hi, fun w => by rw [← hl]; rfl, fun k w hk hw => ?_⟩
  by_cases h0 : k = 0
  · subst h0
    cases a <;> simp [Builtin.firstCells, loadCells, loadCellsFrom]
  · rcases ha with ha | ⟨ad, rfl, hA⟩
    · omega
    · have hlen : (news.take (k * e.csz)).length = k * e.csz := by
        rw [List.length_take, hn]
        exact Nat.min_eq_left (Nat.mul_le_mul_right _ hk)
      have := run_loadCells_list (P := P) w ad (news.take (k * e.csz)) (fun j v hj => (hw _).trans (hA.take (k * e.csz) j v hj))
      rw [hlen] at this
      simpa [Builtin.firstCells] using this
theorem srcK_sound {P : Program} {s : St} (hS : Sim s) {x : AV} {c : Value} (hx : s.vv x c) {e : Ty} {K : List e.T → Prop} (h : srcK (fun _ => False) s.σ e x K) : ∃ ys news, K ys ∧ Src P s e c ys news := by
  unfold srcK at h
  split at h
  · rename_i str
    split at h
    · rename_i he
      have he' : e = .int .u8 := by simpa using he.symm
      subst he'
      obtain ⟨ba, hc, hb⟩ := VV_str hx
      have hK : K (List.map (fun b : UInt8 => (b.toNat : Int)) str) := h
      subst hc
      have himm : ∀ (l : List UInt8), ImmL (Imm s.w s.F (.int .u8)) (l.map (fun b : UInt8 => (b.toNat : Int))) (l.map fun b => Value.int .u8 b.toNat) := by
        intro l
        induction l with
        | nil => rfl
        | cons a l ih => exact ⟨[.int .u8 a.toNat], _, rfl, rfl, ih⟩
      refine ⟨_, str.map fun b => .int .u8 b.toNat, hK, himm str, fun w => ?_, fun k w hk _ => ?_⟩
      · have : ba.size = (List.map (fun b : UInt8 => (b.toNat : Int)) str).length := by
          rw [← hb]
          exact (Array.length_toList (xs := ba.data)).symm.trans (List.length_map («as» := ba.data.toList) (fun b : UInt8 => (b.toNat : Int))).symm
        exact congrArg (fun n => (Result.ok n w : Result Nat)) this
      · simp only [Builtin.firstCells, Sem.run_pure, Ty.csz, Nat.mul_one]
        congr 1
        apply Array.ext'
        rw [← hb]
        simp [ByteArray.data_extract, List.map_take]
    · exact h.elim
  · rename_i id i path el n
    obtain ⟨t0, cs0, hv0, rfl⟩ := hx
    cases hv0 with
    | @asl _ m b _ _ _ _ hm hb =>
    obtain ⟨v, u, cs, ad, hK, had, hv, hat⟩ := loadK_sound hS (VV_ptrI (i := i) (path := path) hm hb) h
    obtain rfl : (⟨b, i * m.ty.csz + offP m.ty path, none⟩ : Addr) = ad := by simpa using had
    split at hK
    · rename_i n' e' ys
      cases hc : (decide (n' = n) && e' == el) with
      | false => rw [hc] at hK; exact hK.elim
      | true =>
      rw [hc] at hK
      dsimp only [cond_true] at hK
      simp only [Bool.and_eq_true, decide_eq_true_eq, beq_iff_eq] at hc
      split at hK
      · rename_i he
        have he' : e' = e := by simpa using he
        subst he'
        cases hv with
        | d hI =>
        obtain ⟨i1, i2⟩ := hI
        exact ⟨ys, cs, hK, src_slice i2 (by rw [← hc.1]; exact i1.symm) (.inr ⟨_, rfl, hat⟩)⟩
      · exact hK.elim
    · exact hK.elim
  · rename_i hns
    have key : ∀ {t : Ty} {v : AV} {y : t.T}, t = .sl e → toD s.σ depth t v = some y → s.vv v c → ∃ (ys : List e.T) (news : List Value), (∀ h : t = .sl e, cst h y = ys) ∧ Src P s e c ys news := by
      intro t v y ht hy hv
      subst ht
      have hd : depth = 39 + 1 := rfl
      rw [hd] at hy
      cases v with
      | d u z =>
        simp only [toD] at hy
        split at hy
        · rename_i e1
          subst e1
          obtain rfl := Option.some.inj hy
          obtain ⟨a, len, cap, rfl, h1, h2, h3⟩ := VV_dsl hv
          rcases h3 with h3 | ⟨ad, cs, h4, h5, h6, h7, h8⟩
          · exact ⟨z, [], fun _ => rfl, src_slice (by rw [show z = [] from h3]; rfl) h1 (.inl (by rw [show z = [] from h3]; rfl))⟩
          · exact ⟨z, cs, fun _ => rfl, src_slice h7 h1 (.inr ⟨ad, h4, h8⟩)⟩
        · cases hy
      | dx e2 z =>
        simp only [toD] at hy
        split at hy
        · rename_i e1
          have e1' : e2 = e := by simpa using e1
          subst e1'
          obtain rfl := Option.some.inj hy
          obtain ⟨a, len, rfl, h1, h2, h3⟩ := VV_dx hv
          rcases h3 with h3 | ⟨ad, cs, h4, h5, h6, h7, h8⟩
          · exact ⟨z, [], fun _ => rfl, src_slice (by rw [show z = [] from h3]; rfl) h1 (.inl (by rw [show z = [] from h3]; rfl))⟩
          · exact ⟨z, cs, fun _ => rfl, src_slice h7 h1 (.inr ⟨ad, h4, h8⟩)⟩
        · cases hy
      | nils e2 =>
        simp only [toD] at hy
        split at hy
        · rename_i e1
          have e1' : e2 = e := by simpa using e1
          subst e1'
          obtain rfl := Option.some.inj hy
          have := VV_nils hv
          subst this
          exact ⟨[], [], fun _ => rfl, src_slice rfl rfl (.inl rfl)⟩
        · cases hy
      | vec id =>
        simp only [toD] at hy
        split at hy
        · rename_i e2 xs ex he
          split at hy
          · rename_i e1
            have e1' : e2 = e := by simpa using e1
            subst e1'
            obtain rfl := Option.some.inj hy
            obtain ⟨m, a, rfl, h1, h2, h3⟩ := VV_vec hv
            have ho := hS.obj id
            rw [he] at ho
            obtain ⟨m', k1, k2, k3, k4, k5, k6⟩ := ho
            rw [h1] at k1; cases k1
            obtain ⟨_, r1, cs, r2, r3⟩ := row_at hS he h1 (off := 0) (len := m.len) (a := a) (by omega) (by
              rcases h3 with h3 | ⟨b, h3, h4⟩
              · left; omega
              · right; exact ⟨b, h3, by rw [h4, Nat.zero_mul]⟩)
            have hx : (xs.drop 0).take m.len = xs := by rw [List.drop_zero, k3, List.take_length]
            rw [hx] at r2 r1
            exact ⟨xs, cs, fun _ => rfl, src_slice r2 r1.symm (r3.imp (fun h => by omega) (fun h => h))⟩
          · cases hy
        · cases hy
      | sl id off len cap ex =>
        simp only [toD] at hy
        split at hy
        · rename_i e2 xs rx he
          split at hy
          · rename_i e1
            have e1' : e2 = e := by simpa using e1
            subst e1'
            obtain rfl := Option.some.inj hy
            obtain ⟨m, a, cap', rfl, h1, h2, h3, h4, h5, h6, h7, h8⟩ := VV_sl hv
            obtain ⟨_, r1, cs, r2, r3⟩ := row_at hS he h1 (off := off) (len := len) (a := a) (by omega) (by
              rcases h8 with h8 | h8
              · left; omega
              · right; exact h8)
            exact ⟨_, cs, fun _ => rfl, src_slice r2 r1.symm (r3.imp (fun h => by rw [r1]; exact h) (fun h => h))⟩
          · cases hy
        · cases hy
      | agg l =>
        simp only [toD] at hy
        cases l <;> cases hy
      | _ => simp [toD] at hy
    split at h
    · rename_i ys hys
      obtain ⟨ys', news, h1, h2⟩ := key rfl hys hx
      have : ys = ys' := h1 rfl
      subst this
      exact ⟨ys, news, h, h2⟩
    · exact h.elim
section
variable {P : Program} {t t2 ty te : TypeId} {e : Ty} {bytes : Nat}
theorem isEmpty_false {α : Type} {l : List α} (h : l.isEmpty = false) : 0 < l.length := by cases l <;> simp_all
theorem app_none {s : St} (ht : P.underlying t = some (.slice te)) (he : tyb P e te = true) (h2 : NotInt P t2) {base : Option Addr} {sLen sCap : Nat} (hc : sLen ≤ sCap) {xv : Value} {ys : List e.T} {news : List Value} (hsrc : Src P s e xv ys news) (h0 : ys.isEmpty = true) :
    (Builtin.append_ #[t, t2] ty #[.slice base sLen sCap, xv]).run P s.w = .ok (.slice base sLen sCap) s.w := by
  have hy : ys = [] := by simpa using h0
  subst hy
  have hn : news = [] := List.eq_nil_of_length_eq_zero (by simpa using hsrc.length)
  subst hn
  have := run_append_room' (ty := ty) (base := base) (sLen := sLen) (sCap := sCap) ht he h2 (hsrc.len s.w) (news := []) (by have := hsrc.cells 0 s.w (Nat.le_refl _) (fun _ => rfl); simpa using this) (by simpa using hc) (w' := s.w) (fun a _ => rfl) (fun _ => rfl)
  simpa using this
theorem app_grow {s : St} (hS : Sim s) (ht : P.underlying t = some (.slice te)) (he : tyb P e te = true) (h2 : NotInt P t2) (hby : (P.info? te).map (·.bytes) = some bytes) (hb0 : bytes ≠ 0)
    {base : Option Addr} {sLen sCap : Nat} {l : List e.T} {olds : List Value} (hold : Src P s e (.slice base sLen sCap) l olds) (hl : l.length = sLen) {xv : Value} {ys : List e.T} {news : List Value} (hsrc : Src P s e xv ys news)
    (hgrow : sCap < sLen + ys.length) (hroom : (sLen + ys.length) * bytes ≤ 140737488355328) :
    ∃ (m : Meta) (w' : World) (c : Value), (Builtin.append_ #[t, t2] ty #[.slice base sLen sCap, xv]).run P s.w = .ok c w' ∧ Keep (fun _ => False) s.w w' ∧ m.blk = some s.w.heap.size ∧
      ObR w' s.F (upd s.ρ s.σ.length m) s.σ.length (.row e (l ++ ys) false) ∧ ∀ F' σ', (⟨w', F', upd s.ρ s.σ.length m, σ'⟩ : St).vv (.vec s.σ.length) c := by
  have hc1 : (Builtin.firstCells e.csz ys.length xv).run P s.w.drew = .ok news.toArray s.w.drew := by
    have := hsrc.cells ys.length s.w.drew (Nat.le_refl _) (fun _ => rfl)
    rwa [List.take_of_length_le (by rw [hsrc.length]; exact Nat.le_refl _)] at this
  have hc2 : (Builtin.firstCells e.csz sLen (.slice base sLen sCap)).run P s.w.drew = .ok olds.toArray s.w.drew := by
    have := hold.cells sLen s.w.drew (by omega) (fun _ => rfl)
    rwa [List.take_of_length_le (by rw [hold.length, hl]; exact Nat.le_refl _)] at this
  obtain ⟨c, zs, h3, hclt, h4, h5⟩ := run_append_grow' (ty := ty) ht he h2 hby hb0 (hsrc.len s.w) hc1 hgrow hroom hc2
  have hk : Keep (fun _ => False) s.w (s.w.drew.alloc (.cells (olds ++ news ++ zs).toArray te)) := (keep_drew (O := fun _ => False)).trans keep_alloc
  have hsame : Same s.F s.w (s.w.drew.alloc (.cells (olds ++ news ++ zs).toArray te)) := fun b hb => hk.block b (hS.inF b hb) id
  refine ⟨⟨some s.w.heap.size, sLen + ys.length, c, e, hclt⟩, _, _, h5, hk, rfl, ?_, ?_⟩
  · refine ⟨⟨some s.w.heap.size, sLen + ys.length, c, e, hclt⟩, by simp [upd], rfl, by rw [List.length_append, hl], h3, (fun h => by cases h), .inr ⟨s.w.heap.size, _, te, olds ++ news, rfl, heap_alloc_new s.w.drew _, ?_, ?_, ⟨zs, by simp⟩⟩⟩
    · simp only [List.size_toArray, List.length_append, hold.length, hl, hsrc.length, h4, ← Nat.add_mul]
      exact Nat.mul_le_mul_right _ (by omega)
    · exact ImmL.append (ImmL.mono (fun _ _ _ h => h.mono hsame (fun _ h => h)) hold.imm) (ImmL.mono (fun _ _ _ h => h.mono hsame (fun _ h => h)) hsrc.imm)
  · intro F' σ'
    exact VV_vecI (m := ⟨some s.w.heap.size, sLen + ys.length, c, e, hclt⟩) (by simp [upd]) h3 (.inr ⟨s.w.heap.size, rfl, rfl⟩)
theorem app_room {s : St} (hS : Sim s) (ht : P.underlying t = some (.slice te)) (he : tyb P e te = true) (h2 : NotInt P t2) {b sLen sCap o tot : Nat} {c : Array Value} {el : TypeId}
    (hb : s.w.heap[b]? = some (.cells c el (0, 0))) {xv : Value} {ys : List e.T} {news : List Value} (hsrc : Src P s e xv ys news) (hroom : sLen + ys.length ≤ sCap) (hot : o + sCap ≤ tot) (htot : tot * e.csz ≤ c.size) :
    (Builtin.append_ #[t, t2] ty #[.slice (some ⟨b, o * e.csz, none⟩) sLen sCap, xv]).run P s.w = .ok (.slice (some ⟨b, o * e.csz, none⟩) (sLen + ys.length) sCap)
      (s.w.setRow b (c.toList.take ((o + sLen) * e.csz) ++ news ++ c.toList.drop ((o + sLen) * e.csz + news.length)).toArray) := by
  have hc1 : (Builtin.firstCells e.csz ys.length xv).run P s.w = .ok news.toArray s.w := by
    have := hsrc.cells ys.length s.w (Nat.le_refl _) (fun _ => rfl)
    rwa [List.take_of_length_le (by rw [hsrc.length]; exact Nat.le_refl _)] at this
  refine run_append_room' (ty := ty) ht he h2 (hsrc.len s.w) hc1 hroom (fun a ha => ?_) (fun h => by cases h)
  simp only [Option.some.injEq] at ha
  subst ha
  rw [add_eq, ← Nat.add_mul]
  have hfit : (o + sLen) * e.csz + 0 + news.length ≤ c.size := by
    rw [hsrc.length, Nat.add_zero, ← Nat.add_mul]
    exact Nat.le_trans (Nat.mul_le_mul_right _ (by omega)) htot
  have := run_storeCells_at P b ((o + sLen) * e.csz) el news 0 c s.w hb hfit (ImmL.one (fun _ _ h => Imm.one h) hsrc.imm)
  simpa using this
end
end Go.Abs
