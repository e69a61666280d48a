/- The evaluator's single operations against the model's: every operation. -/
import Derived.Test.YteeigkbjjoedoaaAOpsHe
import Derived.Test.YteeigkbjjoedoaaAOpsZ
import Derived.Lib.ConvBytes
set_option linter.unusedVariables false
set_option linter.unusedSimpArgs false
namespace Go.Abs
section
variable {P : Program}
theorem not_match {b : Bool} {x : Prop} (h : bif !b then False else x) : b = true ∧ x := by
  cases b
  · exact h.elim
  · exact ⟨rfl, h⟩
theorem bif_prop {b : Bool} {x : Prop} (h : bif b then x else False) : b = true ∧ x := by
  cases b
  · exact h.elim
  · exact ⟨rfl, h⟩
theorem not_prop {b : Bool} {x : Prop} (h : bif b then False else x) : b = false ∧ x := by
  cases b
  · exact ⟨rfl, h⟩
  · exact h.elim
theorem confT {E : Env} {σ : Sto} {t : TypeId} {v : AV} (h : (match E.tyOf t with | some ty => conf σ depth ty v | none => false) = true) : ∃ ty, E.tyOf t = some ty ∧ conf σ depth ty v = true := by
  split at h
  · rename_i ty hty; exact ⟨ty, hty, h⟩
  · cases h
theorem vvs2 {w : World} {F : Nat → Prop} {ρ : Map} {x y : AV} {cs : List Value} (h : VVs w F ρ [x, y] cs) : ∃ c d, cs = [c, d] ∧ VV1 w F ρ x c ∧ VV1 w F ρ y d := by
  match cs, h with
  | [c, d], h => exact ⟨c, d, rfl, h.1, h.2.1⟩
  | [c], h => exact h.2.elim
  | c :: d :: _ :: _, h => exact h.2.2.elim
theorem vvs1 {w : World} {F : Nat → Prop} {ρ : Map} {x : AV} {cs : List Value} (h : VVs w F ρ [x] cs) : ∃ c, cs = [c] ∧ VV1 w F ρ x c := by
  match cs, h with
  | [c], h => exact ⟨c, rfl, h.1⟩
  | c :: _ :: _, h => exact h.2.elim
theorem elem_slice {E : Env} (hE : EnvOK P E) {t : TypeId} {e : Ty} {bytes : Nat} (h : (E.elem t).bind E.ty = some (e, bytes)) : ∃ te, E.elem t = some te ∧ TyOK P te e bytes := by
  cases he : E.elem t with
  | none => rw [he] at h; cases h
  | some te => rw [he] at h; exact ⟨te, rfl, hE.ty te e bytes h⟩
theorem slice_of_vv {s : St} {v : AV} {e : Ty} {c : Value} (hv : s.vv v c) (h : v = .nils e ∨ (∃ id, v = .vec id) ∨ (∃ a b c d x, v = .sl a b c d x) ∨ ∃ xs, v = .dx e xs) : ∃ a n k, c = .slice a n k := by
  rcases h with rfl | ⟨id, rfl⟩ | ⟨a, b, c, d, x, rfl⟩ | ⟨xs, rfl⟩
  · exact ⟨_, _, _, VV_nils hv⟩
  · obtain ⟨m, a, rfl, _⟩ := VV_vec hv; exact ⟨_, _, _, rfl⟩
  · obtain ⟨m, a, k, rfl, _⟩ := VV_sl hv; exact ⟨_, _, _, rfl⟩
  · obtain ⟨a, n, rfl, _⟩ := VV_dx hv; exact ⟨_, _, _, rfl⟩
theorem builtinK_sound {E : Env} (hE : EnvOK P E) {call} {s : St} (hS : Sim s) {b : Builtin} {ts : List TypeId} {args : List AV} {cs : List Value} (hv : VVs s.w s.F s.ρ args cs) {ty : TypeId} {consts : Array Bool} {K : AV → Sto → Prop}
    (h : builtinK (PA call) E b ts args s.σ K) : OpRuns P s (Go.builtin b ts.toArray ty consts cs.toArray) K := by
  unfold builtinK at h
  split at h
  · -- len
    rename_i t x
    obtain ⟨c, rfl, hx⟩ := vvs1 hv
    obtain ⟨hc, h⟩ := not_match h
    obtain ⟨tp, htp, hc⟩ := confT hc
    exact (lenK_sound hS (hE.of htp).1 (VV_of_VV1 hx) hc h).op
  · rename_i t x
    obtain ⟨c, rfl, hx⟩ := vvs1 hv
    obtain ⟨hc, h⟩ := not_match h
    obtain ⟨tp, htp, hc⟩ := confT hc
    exact (capK_sound hS (hE.of htp).1 (VV_of_VV1 hx) hc h).op
  · rename_i k a r
    cases cs with
    | nil => exact hv.elim
    | cons c cs =>
      have hc := VV_int hv.1
      subst hc
      obtain ⟨b', h1, h2⟩ := foldMax h hv.2
      exact Runs.op (.same hS (by simpa [Builtin.max_] using h2 s.w) (VV_intI _ _) h1)
  · rename_i k a r
    cases cs with
    | nil => exact hv.elim
    | cons c cs =>
      have hc := VV_int hv.1
      subst hc
      obtain ⟨b', h1, h2⟩ := foldMin h hv.2
      exact Runs.op (.same hS (by simpa [Builtin.min_] using h2 s.w) (VV_intI _ _) h1)
  · -- append
    rename_i t t2 sv xv
    obtain ⟨c, d, rfl, hx, hy⟩ := vvs2 hv
    cases hsrc : srcTy (E.tyOf t2) with
    | false =>
      rw [hsrc] at h
      simp only [Bool.not_false, cond_true] at h
      cases hit : intTy (E.tyOf t2) with
      | false => rw [hit] at h; exact h.elim
      | true =>
        rw [hit] at h
        cases hdp : E.dp t with
        | true => rw [hdp] at h; exact h.elim
        | false =>
          rw [hdp] at h
          simp only [Bool.not_false, Bool.true_and, cond_true] at h
          split at h
          · rename_i e bytes hel
            obtain ⟨te, he, htok⟩ := elem_slice hE hel
            obtain ⟨kn, hu2⟩ := intTy_under hE hit
            exact (appZ_sound (ty := ty) hS (slice_under hE he) htok.tok hu2 htok.byt htok.bpos htok.pos (VV_of_VV1 hx) (VV_of_VV1 hy) h).op
          · exact h.elim
    | true =>
    rw [hsrc] at h
    simp only [Bool.not_true, cond_false] at h
    have hni := notInt_of hE hsrc
    split at h
    · rename_i e bytes hel
      obtain ⟨te, he, htok⟩ := elem_slice hE hel
      cases hdp : E.dp t with
      | true =>
        rw [hdp] at h
        simp only [cond_true] at h
        split at h
        · exact (appD_sound (ty := ty) hS (slice_under hE he) htok.tok hni htok.byt htok.bpos (VV_of_VV1 hx) (VV_of_VV1 hy) h).op
        · exact h.elim
      | false =>
      rw [hdp] at h
      simp only [cond_false] at h
      obtain ⟨ys, news, h, hsr⟩ := srcK_sound (P := P) hS (VV_of_VV1 hy) h
      exact (appK_sound (ty := ty) hS (slice_under hE he) htok.tok hni htok.byt htok.bpos (VV_of_VV1 hx) hsr h).op
    · exact h.elim
  · rename_i t t2 dv xv
    obtain ⟨c, d, rfl, hx, hy⟩ := vvs2 hv
    obtain ⟨hsrc, h⟩ := not_match h
    split at h
    · rename_i e bytes hel
      obtain ⟨te, he, htok⟩ := elem_slice hE hel
      obtain ⟨ys, news, h, hsr⟩ := srcK_sound (P := P) hS (VV_of_VV1 hy) h
      exact (copy_sound (t2 := t2) (ty := ty) hS (slice_under hE he) htok.tok (VV_of_VV1 hx) hsr h).op
    · exact h.elim
  · rename_i t dv
    obtain ⟨c, rfl, hx⟩ := vvs1 hv
    split at h
    · rename_i e bytes hel
      obtain ⟨te, he, htok⟩ := elem_slice hE hel
      exact (clear_sound (ty := ty) hS (slice_under hE he) htok.tok htok.pos (VV_of_VV1 hx) h).op
    · exact h.elim
  · exact h.elim
def isCall : Op → Bool
  | .call _ | .store _ _ _ | .mapUpdate _ _ _ _ => true
  | _ => false
theorem map_pairs (ps : Array (Nat × Operand)) (ρ : Operand → Value) : (ps.map fun (i, x) => (i, ρ x)) = (ps.toList.map fun p => (p.1, ρ p.2)).toArray := by
  apply Array.ext'
  simp
theorem immL_u8 {w : World} {F : Nat → Prop} : ∀ (l : List UInt8), ImmL (Imm w F (.int .u8)) (l.map fun b : UInt8 => (b.toNat : Int)) (l.map fun b => Value.int .u8 b.toNat)
  | [] => rfl
  | b :: r => ⟨[.int .u8 b.toNat], r.map fun b => Value.int .u8 b.toNat, rfl, rfl, immL_u8 r⟩
theorem bytes_sound {s : St} (hS : Sim s) {src dst te : TypeId} {x : Operand} {a : Act} {d : Option Tmp} {type : TypeId} {pos : String} {after : Array Edge} {guard : Option (Nat × Bool)} (hs : P.underlying src = some .string) (hd : P.underlying dst = some (.slice te)) (he : P.underlying te = some (.int .u8))
    {ba : ByteArray} {str : List UInt8} (hc : a.eval x = .string ba) (hb : ba.data.toList = str) {K : AV → Sto → Prop} (h : K (.d (.sl (.int .u8)) (str.map fun b : UInt8 => (b.toNat : Int))) s.σ) : OpRuns P s (execOp a.eval ⟨d, .convert src dst x, type, pos, after, guard⟩) K := by
  let w' := Lib.bytesWorld s.w te ba
  have hsz : w'.heap.size = s.w.heap.size + 1 := Lib.bytesWorld_size _ _ _
  have hk : Keep (fun _ => False) s.w w' := by
    refine ⟨?_, ?_, ?_, by omega, fun k hk _ => Lib.bytesWorld_at_old _ _ _ k hk, fun ad ha => ?_⟩
    · rfl
    · rfl
    · rfl
    · unfold World.frozen?
      rw [Lib.bytesWorld_at_old _ _ _ ad.block ha]
  obtain ⟨hS', hJ⟩ := hS.quietF (w' := w') hk (F' := fun b => s.F b ∨ b = s.w.heap.size) (fun b h => .inl h) (fun b h => h.imp id fun e => by omega)
  refine ⟨_, .slice (some ⟨s.w.heap.size, 0, none⟩) ba.size (grownCap s.w ba.size 0 te), _, ?_, hJ, hS', ?_, h⟩
  · simp only [execOp, hc, Sem.run_bind]
    rw [Lib.run_convert_string_bytes s.w src dst te ba hs hd he]
    rfl
  · refine VV_of_VR (t := .sl (.int .u8)) (cs := [.slice (some ⟨s.w.heap.size, 0, none⟩) ba.size (grownCap s.w ba.size 0 te)]) (.d (t := .sl (.int .u8)) ?_)
    refine ⟨_, _, _, rfl, ?_, ?_, ?_⟩
    · rw [← hb]
      exact ((List.length_map («as» := ba.data.toList) (fun b : UInt8 => (b.toNat : Int))).trans Array.length_toList).symm
    · exact grownCap_ge _ _ _ _
    · rw [← hb]
      refine .inr ⟨_, ba.data.toList.map fun b => Value.int .u8 b.toNat, rfl, rfl, .inr rfl, immL_u8 _, fun j v hj => ?_⟩
      rw [List.getElem?_map, Option.map_eq_some_iff] at hj
      obtain ⟨b, hj, rfl⟩ := hj
      have hlt : j < ba.size := by
        have := (List.getElem?_eq_some_iff.1 hj).1
        rwa [Array.length_toList] at this
      have := Lib.bytesWorld_cell s.w te ba j hlt
      rw [List.getD, hj] at this
      have e : (⟨s.w.heap.size, 0, none⟩ : Addr).add j = ⟨s.w.heap.size, j, none⟩ := by
        unfold Addr.add
        split
        · rename_i h0; rw [h0]
        · simp
      rw [e]
      exact this
theorem opV_sound {E : Env} (hE : EnvOK P E) {call inl} {s : St} (hS : Sim s) {fr : Fr} {a : Act} {nt : Nat} (hF : FrR s fr a nt) {o : Oper} (ho : isCall o.op = false) {K : AV → Sto → Prop}
    (h : opK (PA call) E inl o fr s.σ K) : OpRuns P s (execOp a.eval o) K := by
  obtain ⟨dst, op, type, pos, after, guard⟩ := o
  have hev := fun t x => ev_vv (E := E) hF t x
  cases op <;> simp only [opK] at h <;> try exact h.elim
  case move x => exact .same hS rfl (hev _ _) h
  case assign x => exact .same hS rfl (hev _ _) h
  case pick c x y =>
    split at h
    · rename_i b hb
      have hc := hev none c
      rw [boolOf_some hb] at hc
      have hc := VV_bool hc
      rcases br_prop h with ⟨rfl, h⟩ | ⟨rfl, h⟩
      · exact .same hS (c := a.eval x) (by simp [execOp, hc, asBool]) (hev _ _) h
      · exact .same hS (c := a.eval y) (by simp [execOp, hc, asBool]) (hev _ _) h
    · exact h.elim
  case alloc t =>
    split at h
    · rename_i ty b hty
      have htok := hE.ty _ _ _ hty
      have := var_sound (P := P) (te := t) hS (zz_VR (w := s.w) (F := s.F) (ρ := s.ρ) ty).1 h
      refine Runs.op (x := Instr.alloc t true (.tuple #[])) ?_
      obtain ⟨v, c, s', h1, h2⟩ := this
      refine ⟨v, c, s', ?_, h2⟩
      unfold Instr.alloc
      rw [Sem.run_bind, run_zeroValue' htok.tok s.w, Result.andThen_ok]
      exact h1
    · exact h.elim
  case box t x =>
    split at h
    · rename_i ty b hty
      obtain ⟨hc, h⟩ := bif_prop h
      obtain ⟨cs, hv, hcv⟩ := vv_conf hS (hev (some t) x) hc
      have := var_sound (P := P) (te := t) hS hv h
      refine Runs.op (x := Instr.box t (a.eval x)) ?_
      rw [hcv]
      exact this
    · exact h.elim
  case build t parts =>
    rw [show execOp a.eval ⟨dst, .build t parts, type, pos, after, guard⟩ = (do pure (.value (← Instr.build t (parts.map fun (i, x) => (i, a.eval x))))) from rfl, map_pairs]
    split at h
    · rename_i n el b hty
      obtain ⟨hf, h⟩ := bif_prop h
      split at h
      · rename_i l hl
        exact (buildArr_sound hS (hE.ty _ _ _ hty).tok hf (parts_pv hF none parts.toList) hl h).op
      · exact h.elim
    · rename_i ty b hna hty
      obtain ⟨hc, h⟩ := bif_prop h
      rw [Bool.and_eq_true] at hc
      have htok := hE.ty _ _ _ hty
      have hzz := zz_VR (w := s.w) (F := s.F) (ρ := s.ρ) ty
      have hl : VR s.w s.F s.ρ ty (.agg (match zeroAV ty with | .agg l => l | .d u x => explode u x | _ => [])) (zcells ty) := by
        have h1 := hzz.1
        change VR s.w s.F s.ρ ty (zeroAV ty) (zcells ty) at h1
        generalize zeroAV ty = z at h1 ⊢
        generalize zcells ty = zc at h1 ⊢
        cases h1 with
        | d hI => exact explode_VR hc.1 hI
        | unit => exact .unit
        | pair h1 h2 => exact .pair h1 h2
        | _ => cases hc.1
      exact (build_sound hS htok.tok hc.1 htok.pos (parts_ps hF parts.toList hc.2) hl h).op
    · exact h.elim
  case buildSlice t n parts =>
    rw [show execOp a.eval ⟨dst, .buildSlice t n parts, type, pos, after, guard⟩ = (do pure (.value (← Instr.buildSlice t n (parts.map fun (i, x) => (i, a.eval x))))) from rfl, map_pairs]
    split at h
    · rename_i te el b hte hel
      cases hdp : E.dp t with
      | true =>
        rw [hdp] at h
        simp only [cond_true] at h
        have htok := hE.ty _ _ _ (by rw [hte] at hel; exact hel)
        split at h
        · obtain ⟨hc, h⟩ := not_prop h
          simp only [Bool.not_eq_false', Bool.and_eq_true] at hc
          split at h
          · rename_i hs hl
            exact (buildDeep_sound hS (slice_under hE hte) htok.tok (Nat.le_of_ble_eq_true hc.2) (parts_pv hF (some te) parts.toList) hc.1 hl h).op
          · exact h.elim
        · exact h.elim
      | false =>
      rw [hdp] at h
      simp only [cond_false] at h
      obtain ⟨hn, h⟩ := bif_prop h
      have htok := hE.ty _ _ _ (by rw [hte] at hel; exact hel)
      split at h
      · rename_i l hl
        exact (buildSlice_sound hS (slice_under hE hte) htok.tok htok.pos (Nat.le_of_ble_eq_true hn) (parts_pv hF (some te) parts.toList) hl h).op
      · exact h.elim
    · exact h.elim
  case load t x =>
    split at h
    · rename_i ty hty
      have plainL : (loadK (fun _ => False) s.σ (ev E fr none x) fun v => bif conf s.σ depth ty v then K v s.σ else False) → OpRuns P s (execOp a.eval ⟨dst, .load t x, type, pos, after, guard⟩) K := by
        intro h
        obtain ⟨v, u, cs, ad, h1, h2, h3, h4⟩ := loadK_sound hS (hev none x) h
        obtain ⟨hc, hk⟩ := bif_prop h1
        have hu : u = ty := (conf_ty hS h3 hc).symm
        subst hu
        refine .same hS (c := toV u cs) ?_ (VV_of_VR h3) hk
        have hcx : a.eval x = .pointer (some ad) := h2
        simp [execOp, Instr.loadAt, hcx, Instr.sureAddr, run_loadVar_at (hE.of hty).1 h3.length h4]
      cases hdl : E.dl t with
      | false => rw [hdl] at h; exact plainL h
      | true =>
        rw [hdl] at h
        simp only [cond_true] at h
        split at h
        · rename_i id i hx
          split at h
          · rename_i u xs hs hg
            obtain ⟨hc, hk⟩ := bif_prop h
            clear h
            rw [beq_iff_eq] at hc
            subst hc
            obtain ⟨y, hy, hk⟩ := need_prop hk
            have hv := hev none x
            rw [hx] at hv
            obtain ⟨m, b, hcx, hm, hb⟩ := VV_ptr hv
            have ho := hS.obj id
            rw [hg] at ho
            obtain ⟨m', k1, k2, _⟩ := ho
            rw [hm] at k1; cases k1
            have e : i * m.ty.csz + offP m.ty [] = i := by rw [k2, offP_nil]; show i * 1 + 0 = i; omega
            rw [e] at hcx
            have hcx : a.eval x = .pointer (some ⟨b, i, none⟩) := hcx
            obtain ⟨v, c, s', g1, g2⟩ := borrowK_sound (P := P) hS (hE.of hty).1 hg hm hb (fun p hp => hp) (fun p hp hn => (hn hp).elim) (List.getElem?_eq_some_iff.1 hy).1 hk
            refine ⟨v, c, s', ?_, g2⟩
            simp [execOp, Instr.loadAt, hcx, Instr.sureAddr, g1]
          · exact plainL h
        · exact plainL h
    · exact h.elim
  case store => cases ho
  case mapUpdate => cases ho
  case call => cases ho
  case nilCheck x =>
    have hx := hev none x
    split at h
    · rename_i id i path he
      rw [he] at hx
      obtain ⟨m, b, hc, _⟩ := VV_ptr hx
      exact .same hS (c := a.eval x) (by simp [execOp, hc]) (by rw [hc] at hx ⊢; exact hx) h
    · rename_i t y he
      rw [he] at hx
      obtain ⟨ad, cs, hc, _⟩ := VV_dp hx
      exact .same hS (c := a.eval x) (by simp [execOp, hc]) (by rw [hc] at hx ⊢; exact hx) h
    · rename_i f xs ys he
      rw [he] at hx
      obtain ⟨tf, tc, fs, cs, hc, _⟩ := VV_fn hx
      exact .same hS (c := a.eval x) (by simp [execOp, hc]) (by rw [hc] at hx ⊢; exact hx) h
    · exact h.elim
  case binOp op xt x y yt =>
    cases hsl : isSlTy (E.tyOf xt) with
    | false =>
      rw [hsl] at h
      exact (binK_sound hS hE (hev (some xt) x) (hev (some yt) y) (fun ty hty => (hE.of hty).2.2) h).op
    | true =>
      rw [hsl] at h
      obtain ⟨e0, he0⟩ : ∃ e0, E.tyOf xt = some (.sl e0) := by
        unfold isSlTy at hsl
        split at hsl
        · rename_i e0 he0; exact ⟨e0, he0⟩
        · cases hsl
      obtain ⟨te, ht, _⟩ := sl_under (hE.of he0).1
      exact (slCmp_sound hS ht (hev (some xt) x) (hev (some yt) y) h).op
  case unOp op _ x =>
    have hx := hev none x
    split at h
    · rename_i b he
      rw [he] at hx
      exact .same hS (c := .bool (!b)) (by simp [execOp, VV_bool hx, Op.unary]) (VV_boolI _) h
    · rename_i k n he
      rw [he] at hx
      obtain ⟨v, c, h1, h2, h3⟩ := intOp_run (P := P) (by constructor <;> simp) h
      refine .same hS (c := c) ?_ (h3 s) h1
      have := h2 0 s.w
      simp only [binOp, ne_eq, not_true_eq_false, if_false] at this
      simp [execOp, VV_int hx, Op.unary, this]
    · rename_i k n he
      rw [he] at hx
      obtain ⟨v, c, h1, h2, h3⟩ := intOp_run (P := P) (by constructor <;> simp) h
      refine .same hS (c := c) ?_ (h3 s) h1
      have := h2 0 s.w
      simp only [binOp, ne_eq, not_true_eq_false, if_false] at this
      simp only [execOp, VV_int hx, Op.unary, Sem.run_bind, this]
      rfl
    · exact h.elim
  case convert src dst x =>
    have hx := hev none x
    split at h
    · rename_i ts k k' n hs hd he
      rw [he] at hx
      obtain ⟨d, hd'⟩ := tyb_under (hE.of hs).1
      exact .same hS (c := .int k (k.wrap n)) (by simp [execOp, VV_int hx, convert, run_underlying hd', run_underlying (int_under (hE.of hd).1), Conv.intToInt]) (VV_intI _ _) h
    · rename_i ts str hs hd he
      rw [he] at hx
      obtain ⟨d, hd'⟩ := tyb_under (hE.of hs).1
      obtain ⟨ba, hc, hb⟩ := VV_str hx
      exact .same hS (c := .string ba) (by simp [execOp, hc, convert, run_underlying hd', run_underlying (str_under (hE.of hd).1)]) (VV_strI hb) h
    · rename_i str hs hd he
      rw [he] at hx
      have hs' := str_under (hE.of hs).1
      obtain ⟨te, hd', hte, _⟩ := sl_under (hE.of hd).1
      obtain ⟨ba, hc, hb⟩ := VV_str hx
      exact bytes_sound hS hs' hd' (int_under hte) hc hb h
    · exact h.elim
  case makeFunc fn first cap =>
    cases fn with
    | func f =>
      dsimp only at h
      obtain ⟨hc, h⟩ := bif_prop h
      rw [Bool.and_eq_true] at hc
      obtain ⟨t1, k1, k2⟩ := vvs_single (evs_vvs (E := E) hF first.toList []) hc.1
      obtain ⟨t2, k3, k4⟩ := vvs_single (evs_vvs (E := E) hF cap.toList []) hc.2
      refine .same hS (c := .func (.func f) (first.map a.eval) (cap.map a.eval)) rfl ?_ h
      have := VV_of_VR (VR.fn (f := f) k1 k3 k2 k4)
      have e1 : (first.map a.eval) = (first.toList.map a.eval).toArray := Array.ext' (by rw [Array.toList_map])
      have e2 : (cap.map a.eval) = (cap.toList.map a.eval).toArray := Array.ext' (by rw [Array.toList_map])
      rw [e1, e2]
      exact this
    | _ => exact h.elim
  case makeMap t r =>
    cases r with
    | some r => exact h.elim
    | none =>
      dsimp only at h
      split at h
      · rename_i u hu
        exact (makeMap_sound (P := P) (t := t) hS h).op
      · exact h.elim
  case lookup t x ix ok =>
    split at h
    · rename_i u id k hu hx hi
      obtain ⟨te, hte, hu⟩ := Option.bind_eq_some_iff.1 hu
      obtain ⟨kt, ht, hk⟩ := kvOK_of (hE.kv _ _ hte)
      have v1 := hev none x
      rw [hx] at v1
      have v2 := hev none ix
      rw [hi] at v2
      have := (lookK_sound (P := P) hS ht hk (hE.of hu).1 v1 h).op
      rw [← VV_int v2] at this
      exact this
    · exact h.elim
  case makeSlice t l c =>
    split at h
    · rename_i el bytes l' c' hel hl hc
      obtain ⟨te, hte, htok⟩ := elem_slice hE hel
      obtain ⟨k1, e1⟩ := intOf_some hl
      obtain ⟨k2, e2⟩ := intOf_some hc
      have v1 := hev none l
      have v2 := hev none c
      rw [e1] at v1
      rw [e2] at v2
      have v1 := VV_int v1
      have v2 := VV_int v2
      cases hdp : E.dp t with
      | true =>
        rw [hdp] at h
        simp only [cond_true] at h
        cases el with
        | sl u =>
          dsimp only at h
          rcases br_prop h with ⟨hb, h⟩ | ⟨_, h⟩
          · rcases br_prop h with ⟨hb2, h⟩ | ⟨_, h⟩
            · obtain ⟨b0, b1, b2⟩ := of_decide_eq_true hb2
              have := (makeDeep_sound (P := P) (k := k1) (k' := k2) hS (slice_under hE hte) htok.tok htok.byt htok.bpos (of_decide_eq_true hb) b0 b1 b2 h).op
              rw [← v1, ← v2] at this
              exact this
            · exact h.elim
          · exact h.elim
        | _ => exact h.elim
      | false =>
      rw [hdp] at h
      simp only [cond_false] at h
      rcases br_prop h with ⟨hb, hh⟩ | ⟨hb, hh⟩
      · obtain ⟨b0, b1, b2⟩ := of_decide_eq_true hb
        clear h
        have hk : K (.sl s.σ.length 0 l'.toNat c'.toNat true) (s.σ ++ [.row el (List.replicate c'.toNat el.zero) true]) ∨ (l' = c' ∧ Abs.newRow s.σ el (List.replicate c'.toNat el.zero) true K) := by
          cases l with
          | tmp i =>
            cases c with
            | tmp j =>
              dsimp only at hh
              cases hij : Nat.beq i j with
              | false => rw [hij] at hh; exact .inl hh
              | true =>
                rw [hij] at hh
                have hij := beq_eq.1 hij
                subst hij
                rw [v1] at v2
                cases v2
                exact .inr ⟨rfl, hh⟩
            | _ => exact .inl hh
          | const i =>
            cases c with
            | const j =>
              dsimp only at hh
              cases hlc : decide (l' = c') with
              | false => rw [hlc] at hh; exact .inl hh
              | true => rw [hlc] at hh; exact .inr ⟨of_decide_eq_true hlc, hh⟩
            | _ => exact .inl hh
          | _ => exact .inl hh
        have := (makeSlice_sound (P := P) (k := k1) (k' := k2) hS (slice_under hE hte) htok.tok htok.pos htok.byt htok.bpos b0 b1 b2 hk).op
        rw [← v1, ← v2] at this
        exact this
      · exact hh.elim
    · exact h.elim
  case slice t x lo hi mx =>
    split at h
    · rename_i n el id i path hty hx
      split at h
      · rename_i u hu
        obtain ⟨hc, h⟩ := bif_prop h
        have hv := hev none x
        rw [hx] at hv
        obtain ⟨m, b, hc2, hm, hb⟩ := VV_ptr hv
        exact (sliceArr_sound hS (hE.of hty).1 hc2 hm hb h).op
      · exact h.elim
    obtain ⟨hc, h⟩ := not_prop h
    rw [Bool.or_eq_false_iff, Bool.not_eq_false'] at hc
    obtain ⟨tp, htp, hcf⟩ := confT hc.1
    obtain ⟨lo', h, hl1, hl2⟩ := optI_prop hF h
    obtain ⟨hi', h, hh1, hh2⟩ := optI_prop hF h
    obtain ⟨mx', h, hm1, hm2⟩ := optI_prop hF h
    refine (sliceK_sound hS (hE.of htp).1 (hev none x) hcf hl1 hh1 hm1 (fun hm => ?_) h).op
    rw [hm2] at hm
    rw [hh2]
    have := hc.2
    rw [hm] at this
    simpa using this
  case fieldAddr st x f =>
    have hx := hev none x
    refine Runs.op (x := Instr.fieldAt st (a.eval x) f) ?_
    split at h
    · rename_i ty id i path hty he
      rw [he] at hx
      exact fieldAddr_sound hS (hE.of hty).1 hx h
    · rename_i ty u y hty he
      rw [he] at hx
      exact fieldAddr_sound hS (hE.of hty).1 hx h
    · exact h.elim
  case field st x f =>
    obtain ⟨hc, h⟩ := not_match h
    obtain ⟨tp, htp, hcf⟩ := confT hc
    exact (field_sound hS (hE.of htp).1 (hev none x) hcf h).op
  case indexAddr t x ix =>
    have hx := hev none x
    refine Runs.op (x := Instr.indexAt t (a.eval x) (a.eval ix)) ?_
    split at h
    · rename_i i hi
      obtain ⟨ki, e1⟩ := intOf_some hi
      have v1 := hev none ix
      rw [e1] at v1
      rw [VV_int v1]
      generalize ev E fr none x = xv at h hx
      have key : ∀ xv, s.vv xv (a.eval x) → idxOk s.σ (E.tyOf t) xv = true → (idxK (fun _ => False) s.σ xv i fun v => K v s.σ) → Runs P s (Instr.indexAt t (a.eval x) (.int ki i)) K := by
        intro xv hx hc h
        cases hty : E.tyOf t with
        | none => rw [hty] at hc; cases xv <;> cases hc
        | some ty =>
          rw [hty] at hc
          refine idxK_sound hS (hE.of hty).1 hx ?_ h
          cases xv <;> exact hc
      cases xv with
      | ptr id k path =>
        dsimp only at h
        cases ho : (obTy (Sto.get s.σ id)).bind (placeTy · path) with
        | none => rw [ho] at h; exact h.elim
        | some u =>
          cases hty : E.tyOf t with
          | none => rw [ho, hty] at h; exact h.elim
          | some ty =>
            rw [ho, hty] at h
            cases ty with
            | arr n el =>
              dsimp only at h
              obtain ⟨hu, h3⟩ := not_match h
              clear h
              rw [beq_iff_eq] at hu
              subst hu
              rcases br_prop h3 with ⟨hb, h4⟩ | ⟨hb, h4⟩
              · obtain ⟨b0, b1⟩ := of_decide_eq_true hb
                exact indexArr_sound hS (hE.of hty).1 hx ho b0 b1 h4
              · exact h4.elim
            | _ => exact h.elim
      | _ =>
        obtain ⟨hc, h⟩ := not_match h
        exact key _ hx hc h
    · exact h.elim
  case index t x ix =>
    obtain ⟨hc, h⟩ := not_match h
    obtain ⟨tp, htp, hcf⟩ := confT hc
    refine Runs.op (x := Instr.index t (a.eval x) (a.eval ix)) ?_
    have hx := hev none x
    split at h
    · rename_i i n el xs hi he
      obtain ⟨ki, e1⟩ := intOf_some hi
      have v1 := hev none ix
      rw [e1] at v1
      rw [VV_int v1]
      rw [he] at hx hcf
      exact index_sound hS (hE.of htp).1 hx hcf h
    · rename_i i str hi he
      obtain ⟨ki, e1⟩ := intOf_some hi
      have v1 := hev none ix
      rw [e1] at v1
      rw [VV_int v1]
      rw [he] at hx hcf
      exact index_sound hS (hE.of htp).1 hx hcf h
    · exact h.elim
  case extract x i =>
    have hx := hev none x
    split at h
    · rename_i l he
      rw [he] at hx
      obtain ⟨cs, hc, hvs⟩ := hx
      split at h
      · rename_i v hv
        obtain ⟨c, h1, h2⟩ := VVs_get hvs hv
        exact .same hS (c := c) (by simp [execOp, hc, Instr.extract, h1]) (VV_of_VV1 h2) h
      · exact h.elim
    · exact h.elim
end
end Go.Abs
