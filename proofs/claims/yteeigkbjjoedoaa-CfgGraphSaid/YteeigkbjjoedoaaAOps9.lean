/- The evaluator's single operations against the model's: parts of slices and strings; comparisons. -/
import Derived.Test.YteeigkbjjoedoaaAOps8
set_option linter.unusedVariables false
set_option linter.unusedSimpArgs false
namespace Go.Abs
section
variable {P : Program}
theorem add_zero' (a : Addr) : a.add 0 = a := rfl
theorem immSl_part {s : St} {e : Ty} {xs : List e.T} {a : Option Addr} {len cap : Nat} (hi : ImmSl s.w s.F (Imm s.w s.F e) xs a len cap) {l h m : Nat} (h1 : l ≤ h) (h2 : h ≤ xs.length) (h3 : h ≤ m) (h4 : m ≤ cap) :
    ImmSl s.w s.F (Imm s.w s.F e) ((xs.take h).drop l) (if m = l then a else a.map (·.add (l * e.csz))) (h - l) (m - l) := by
  obtain ⟨k1, k2, k3⟩ := hi
  refine ⟨by rw [List.length_drop, List.length_take]; omega, by omega, ?_⟩
  rcases k3 with k3 | ⟨ad, cs, k4, k5, k6, k7, k8⟩
  · left; rw [k3]; simp
  · by_cases hl : h = l
    · left
      apply List.eq_nil_of_length_eq_zero
      rw [List.length_drop, List.length_take]; omega
    · right
      rw [if_neg (by omega), k4]
      refine ⟨ad.add (l * e.csz), (cs.take (h * e.csz)).drop (l * e.csz), rfl, add_spot k5 _, by rw [add_block]; exact k6, ?_, ?_⟩
      · exact ImmL.drop (fun _ _ h => Imm.length h) l (ImmL.take (fun _ _ h => Imm.length h) h k7)
      · exact (k8.take (h * e.csz)).drop k5 (l * e.csz)
theorem sliceK_sound {s : St} (hS : Sim s) {tp : Ty} {t : TypeId} (ht : tyb P tp t = true) {x : AV} {c : Value} (hx : s.vv x c) {n : Nat} (hc : conf s.σ n tp x = true) {lo hi mx : Option Int} {clo chi cmx : Option Value}
    (h1 : OptV lo clo) (h2 : OptV hi chi) (h3 : OptV mx cmx) (hmx : mx.isSome = true → hi.isSome = true) {K : AV → Sto → Prop} (h : sliceK (fun _ => False) s.σ x lo hi mx fun v => K v s.σ) :
    Runs P s (Instr.sliceAt t c clo chi cmx) K := by
  obtain ⟨cs, hv, hcv⟩ := vv_conf hS hx hc
  unfold sliceK at h
  dsimp only at h
  split at h
  · have := conf_d hc
    subst this
    have hu := str_under ht
    rename_i str
    obtain ⟨ba, e, hb⟩ := VV_str hx
    have hl : List.length str = ba.size := by rw [← hb]; exact Array.length_toList
    split at h
    · exact h.elim
    · rcases br_prop h with ⟨hb', h⟩ | ⟨_, h⟩
      · obtain ⟨a1, a2, a3⟩ := of_decide_eq_true hb'
        rw [hl] at a2 a3
        have hcm : cmx = none := by cases cmx with | none => rfl | some _ => exact h3.elim
        subst hcm
        have hb2 := bounds_run (P := P) (isS := false) (len := ba.size) (cap := ba.size) (w := s.w) h1 h2 (show OptV none none from trivial) (fun h => by cases h) a1 a2 a3 (Int.le_refl _)
        rw [e]
        refine .same hS (c := .string (ba.extract (lo.getD 0).toNat (hi.getD (ba.size : Int)).toNat)) ?_ (VV_strI ?_) (by rw [hl] at h; exact h)
        · simp [Instr.sliceAt, run_underlying hu, Instr.slice, hb2]
        · have hex : ∀ (x y : Nat), (ba.extract x y).data.toList = (ba.data.toList.take y).drop x := fun x y => by
            rw [ByteArray.data_extract, Array.toList_extract, List.extract_eq_take_drop, List.drop_take]
          rw [hex, hb]
      · exact h.elim
  · have := conf_d hc
    subst this
    rename_i e xs
    obtain ⟨te, hu, he, _⟩ := sl_under ht
    obtain ⟨a, len, cap, e1, hI⟩ := VV_dsl hx
    have hlen : (List.length xs) = len := hI.1.symm
    have hcap := hI.2.1
    split at h
    · rename_i m
      rcases br_prop h with ⟨hb, h⟩ | ⟨_, h⟩
      · obtain ⟨a1, a2, a3, a4⟩ := of_decide_eq_true hb
        rw [hlen] at a2 a3 a4 h
        have hr := slice_run (P := P) hu he (a := a) (len := len) (cap := cap) (w := s.w) h1 h2 h3 hmx a1 a2 (by simpa using a3) (by simp; omega)
        simp only [Option.getD_some] at hr
        have hp := immSl_part hI (l := (lo.getD 0).toNat) (h := (hi.getD (len : Int)).toNat) (m := m.toNat) (by omega) (by rw [hlen]; omega) (by omega) (by omega)
        rw [e1]
        rcases br_prop h with ⟨hq, h⟩ | ⟨hq, h⟩
        · have hq' : hi.getD (len : Int) = m := by simpa using hq
          rw [hq'] at hp hr h
          exact .same hS hr (VV_dxI hp) h
        · exact .same hS hr (VV_dslI hp) h
      · exact h.elim
    · rcases br_prop h with ⟨hb, h⟩ | ⟨_, h⟩
      · obtain ⟨a1, a2, a3⟩ := of_decide_eq_true hb
        rw [hlen] at a2 a3 h
        have hr := slice_run (P := P) hu he (a := a) (len := len) (cap := cap) (w := s.w) h1 h2 h3 hmx a1 a2 (by simp; omega) (by simp)
        simp only [Option.getD_none, Int.toNat_natCast] at hr
        have hp := immSl_part hI (l := (lo.getD 0).toNat) (h := (hi.getD (len : Int)).toNat) (m := cap) (by omega) (by rw [hlen]; omega) (by omega) (by omega)
        rw [e1]
        exact .same hS hr (VV_dslI hp) h
      · exact h.elim
  · rename_i e xs
    have htp : tp = .sl e := by cases hv; rfl
    subst htp
    obtain ⟨te, hu, he, _⟩ := sl_under ht
    obtain ⟨a, len, e1, hI⟩ := VV_dx hx
    have hlen : (List.length xs) = len := hI.1.symm
    rcases br_prop h with ⟨hb, h⟩ | ⟨_, h⟩
    · obtain ⟨a1, a2, a3, a4⟩ := of_decide_eq_true hb
      rw [hlen] at a2 a3 a4 h
      have hr := slice_run (P := P) hu he (a := a) (len := len) (cap := len) (w := s.w) h1 h2 h3 hmx a1 a2 a3 a4
      have hp := immSl_part hI (l := (lo.getD 0).toNat) (h := (hi.getD (len : Int)).toNat) (m := (mx.getD (len : Int)).toNat) (by omega) (by rw [hlen]; omega) (by omega) (by omega)
      rw [e1]
      rcases br_prop h with ⟨hq, h⟩ | ⟨hq, h⟩
      · have hq' : hi.getD (len : Int) = mx.getD (len : Int) := by simpa using hq
        rw [hq'] at hp hr h
        exact .same hS hr (VV_dxI hp) h
      · exact .same hS hr (VV_dslI hp) h
    · exact h.elim
  · rename_i e
    have htp : tp = .sl e := by cases hv; rfl
    subst htp
    obtain ⟨te, hu, he, _⟩ := sl_under ht
    rcases br_prop h with ⟨hb, h⟩ | ⟨_, h⟩
    · obtain ⟨a1, a2, a3⟩ := of_decide_eq_true hb
      have e1 := VV_nils hx
      have hr := slice_run (P := P) hu he (a := none) (len := 0) (cap := 0) (w := s.w) h1 h2 h3 hmx (by omega) (by simp; omega) (by simp; omega) (by simp; omega)
      rw [e1]
      refine .same hS hr ?_ h
      have e2 : hi.getD ((0 : Nat) : Int) = 0 := by simpa using a2
      have e3 : mx.getD ((0 : Nat) : Int) = 0 := by simpa using a3
      rw [e2, e3, a1]
      exact VV_nilsI
    · exact h.elim
  · rename_i id
    split at h
    · rename_i e xs ex hg
      obtain ⟨m, a, e1, hm, hle, ha⟩ := VV_vec hx
      have htp : tp = .sl m.ty := by
        cases hv with
        | vec g1 => rw [hm] at g1; cases g1; rfl
      subst htp
      obtain ⟨te, hu, he, _⟩ := sl_under ht
      have ho := hS.obj id
      rw [hg] at ho
      obtain ⟨m', k1, k2, k3, k4, k5, _⟩ := ho
      rw [hm] at k1; cases k1
      have hlen : xs.length = m.len := k3.symm
      have hx' := hx
      rw [e1]
      have gen : ∀ (h : br (decide (0 ≤ lo.getD 0 ∧ lo.getD 0 ≤ hi.getD (xs.length : Int) ∧ hi.getD (xs.length : Int) ≤ mx.getD (xs.length : Int) ∧ mx.getD (xs.length : Int) ≤ (xs.length : Int)))
          (K (.sl id (lo.getD 0).toNat (hi.getD (xs.length : Int) - lo.getD 0).toNat (mx.getD (xs.length : Int) - lo.getD 0).toNat (ex || mx.isSome)) s.σ) False), Runs P s (Instr.sliceAt t (.slice a m.len m.tot) clo chi cmx) K := by
        intro h
        rcases br_prop h with ⟨hb, h⟩ | ⟨_, h⟩
        · obtain ⟨a1, a2, a3, a4⟩ := of_decide_eq_true hb
          rw [hlen] at a2 a3 a4 h
          have hmm : mx.getD (m.len : Int) ≤ mx.getD (m.tot : Int) := by cases mx <;> simp; omega
          have hmt : mx.getD (m.tot : Int) ≤ (m.tot : Int) := by cases mx <;> simp at a4 ⊢; omega
          have hr := slice_run (P := P) hu he (a := a) (len := m.len) (cap := m.tot) (w := s.w) h1 h2 h3 hmx a1 a2 (by omega) hmt
          have e2 : (hi.getD (m.len : Int)).toNat - (lo.getD 0).toNat = (hi.getD (m.len : Int) - lo.getD 0).toNat := by omega
          rw [e2] at hr
          refine .same hS hr (VV_slI (m := m) hm (by omega) (by omega) (by omega) (by omega) ?_ (by omega) ?_) h
          · intro hex
            cases mx with
            | some m' => simp; omega
            | none =>
              have := k5 (by simpa using hex)
              simp; omega
          · by_cases hz : (mx.getD (m.tot : Int)).toNat = (lo.getD 0).toNat
            · left; omega
            · right
              rw [if_neg hz]
              rcases ha with ha | ⟨b, hb, hab⟩
              · omega
              · exact ⟨b, hb, by rw [hab]; simp [add_eq]⟩
        · exact h.elim
      split at h
      · -- the whole slice
        have hcl : clo = none := by cases clo with | none => rfl | some _ => exact h1.elim
        have hch : chi = none := by cases chi with | none => rfl | some _ => exact h2.elim
        have hcm : cmx = none := by cases cmx with | none => rfl | some _ => exact h3.elim
        subst hcl; subst hch; subst hcm
        have hr := slice_run (P := P) hu he (a := a) (len := m.len) (cap := m.tot) (lo := none) (hi := none) (mx := none) (clo := none) (chi := none) (cmx := none) (w := s.w) trivial trivial trivial (fun h => by cases h) (by simp) (by simp) (by simp; omega) (by simp)
        simp only [Option.getD_none, Int.toNat_natCast, Int.toNat_zero, Nat.sub_zero, Nat.zero_mul, add_zero'] at hr
        have e3 : (if m.tot = 0 then a else a.map fun x => x) = a := by cases a <;> simp
        rw [e3] at hr
        rw [e1] at hx
        exact .same hS hr hx h
      · exact gen h
    · exact h.elim
  · rename_i id off len cap ex
    split at h
    · rename_i e xs rx hg
      rcases br_prop h with ⟨hb, h⟩ | ⟨_, h⟩
      · obtain ⟨a1, a2, a3, a4⟩ := of_decide_eq_true hb
        obtain ⟨m, a, cap', e1, hm, g2, g3, g4, g5, g6, g7, g8⟩ := VV_sl hx
        have htp : tp = .sl m.ty := by
          cases hv with
          | sl g1 => rw [hm] at g1; cases g1; rfl
        subst htp
        obtain ⟨te, hu, he, _⟩ := sl_under ht
        rw [e1]
        have hmm : mx.getD (cap : Int) ≤ mx.getD (cap' : Int) := by cases mx <;> simp; omega
        have hmt : mx.getD (cap' : Int) ≤ (cap' : Int) := by cases mx <;> simp at a4 ⊢; omega
        have hr := slice_run (P := P) hu he (a := a) (len := len) (cap := cap') (w := s.w) h1 h2 h3 hmx a1 a2 (by omega) hmt
        have e2 : (hi.getD (len : Int)).toNat - (lo.getD 0).toNat = (hi.getD (len : Int) - lo.getD 0).toNat := by omega
        rw [e2] at hr
        refine .same hS hr (VV_slI (m := m) hm (by omega) (by omega) (by omega) (by omega) ?_ (by omega) ?_) h
        · intro hex
          cases mx with
          | some m' => simp; omega
          | none =>
            have := g6 (by simpa using hex)
            simp; omega
        · by_cases hz : (mx.getD (cap' : Int)).toNat = (lo.getD 0).toNat
          · left; omega
          · right
            rw [if_neg hz]
            rcases g8 with g8 | ⟨b, hb, hab⟩
            · omega
            · exact ⟨b, hb, by rw [hab]; simp [add_eq, Nat.add_mul]⟩
      · exact h.elim
    · exact h.elim
  · exact h.elim
theorem sliceArr_sound {s : St} (hS : Sim s) {n : Nat} {el : Ty} {t : TypeId} (ht : tyb P (.arr n el) t = true) {c : Value} {id i : Nat} {path : List Nat} {m : Meta} {b : Nat} (hc : c = .pointer (some ⟨b, i * m.ty.csz + offP m.ty path, none⟩)) (hm : s.ρ id = some m) (hb : m.blk = some b) {K : AV → Sto → Prop}
    (h : K (.asl id i path el n) s.σ) : Runs P s (Instr.sliceAt t c none none none) K := by
  obtain ⟨te, hu, he, _⟩ := arr_under ht
  subst hc
  refine .same hS (c := .slice (some ⟨b, i * m.ty.csz + offP m.ty path, none⟩) n n) ?_ (VV_of_VR (t := .sl el) (.asl hm hb)) h
  have hadd : (⟨b, i * m.ty.csz + offP m.ty path, none⟩ : Addr).add (0 * el.csz) = ⟨b, i * m.ty.csz + offP m.ty path, none⟩ := by rw [Nat.zero_mul, add_eq, Nat.add_zero]
  simp only [Instr.sliceAt, Sem.run_bind, run_underlying hu s.w, Result.andThen_ok, Instr.sureAddr, Instr.sliceBounds, Sem.run_pure, run_sizeOf' he s.w, hadd, ite_self, Nat.sub_zero]
end
end Go.Abs
