/- The evaluator's single operations against the model's: lengths, places, slices. -/
import Derived.Test.YteeigkbjjoedoaaAOps6
set_option linter.unusedVariables false
set_option linter.unusedSimpArgs false
namespace Go.Abs
theorem Runs.same {P : Program} {s : St} (hS : Sim s) {x : Sem Value} {K : AV → Sto → Prop} {v : AV} {c : Value} (hr : x.run P s.w = .ok c s.w) (hv : s.vv v c) (h : K v s.σ) : Runs P s x K :=
  ⟨v, c, s, hr, .refl s, hS, hv, h⟩
section
variable {P : Program}
theorem sl_under {e : Ty} {t : TypeId} (h : tyb P (.sl e) t = true) : ∃ te, P.underlying t = some (.slice te) ∧ tyb P e te = true ∧ e.csz ≠ 0 := by
  simp only [tyb, Bool.and_eq_true] at h
  have h2 := h.2
  split at h2
  · rename_i te hu
    simp only [Bool.and_eq_true, Bool.not_eq_true', beq_eq_false_iff_ne] at h2
    exact ⟨te, hu, h2.1, h2.2⟩
  · cases h2
theorem arr_under' {n : Nat} {e : Ty} {t : TypeId} (h : tyb P (.arr n e) t = true) : ∃ te, P.underlying t = some (.array n te) ∧ tyb P e te = true ∧ e.csz ≠ 0 ∧ (eqOk (.arr n e) = true → P.eqGuardType P.depth t = false) := by
  simp only [tyb, Bool.and_eq_true] at h
  have h2 := h.2
  split at h2
  · rename_i m te hu
    rw [Bool.and_eq_true] at h2
    obtain ⟨h3, h4⟩ := h2
    simp only [Bool.and_eq_true, Bool.not_eq_true', beq_eq_false_iff_ne, beq_iff_eq] at h3
    refine ⟨te, h3.1.1 ▸ hu, h3.1.2, h3.2, fun he => ?_⟩
    rw [he] at h4
    simpa using h4
  · cases h2
theorem arr_under {n : Nat} {e : Ty} {t : TypeId} (h : tyb P (.arr n e) t = true) : ∃ te, P.underlying t = some (.array n te) ∧ tyb P e te = true ∧ e.csz ≠ 0 :=
  let ⟨te, h1, h2, h3, _⟩ := arr_under' h
  ⟨te, h1, h2, h3⟩
theorem str_under {t : TypeId} (h : tyb P .str t = true) : P.underlying t = some .string := by
  simp only [tyb, Bool.and_eq_true] at h
  have h2 := h.2
  split at h2
  · rename_i hu; exact hu
  · cases h2
theorem pair_under {a b : Ty} {t : TypeId} (h : tyb P (.pair a b) t = true) : ∃ fs, P.underlying t = some (.struct fs) ∧ fdb P (.pair a b) fs.toList 0 = true ∧ (eqOk (.pair a b) = true → P.stoodInHeld t = false ∧ P.eqGuardType P.depth t = false) := by
  simp only [tyb, Bool.and_eq_true] at h
  have h2 := h.2
  split at h2
  · rename_i fs hu
    rw [Bool.and_eq_true] at h2
    have hfd : fdb P (.pair a b) fs.toList 0 = true := by
      have h4 := h2.1
      cases hfs : fs.toList with
      | nil => rw [hfs] at h4; cases h4
      | cons f r => rw [hfs] at h4; simp only [fdb]; exact h4
    refine ⟨fs, hu, hfd, fun he => ?_⟩
    have h3 := h2.2
    rw [he] at h3
    simpa using h3
  · cases h2
theorem len_run_slice {t ty te : TypeId} {a : Option Addr} {n c : Nat} {w : World} (hu : P.underlying t = some (.slice te)) : (Builtin.len_ #[t] ty #[.slice a n c]).run P w = .ok (.int .i64 n) w := by
  simp [Builtin.len_, run_underlying hu, goInt]
theorem cap_run_slice {t ty te : TypeId} {a : Option Addr} {n c : Nat} {w : World} (hu : P.underlying t = some (.slice te)) : (Builtin.cap_ #[t] ty #[.slice a n c]).run P w = .ok (.int .i64 c) w := by
  simp [Builtin.cap_, run_underlying hu, goInt]
theorem conf_d {σ : Sto} {n : Nat} {t u : Ty} {x : u.T} (h : conf σ n t (.d u x) = true) : t = u := by
  cases n with
  | zero => simp [conf] at h
  | succ n => simp only [conf, beq_iff_eq] at h; exact h.symm
theorem lenK_sound {s : St} (hS : Sim s) {tp : Ty} {t ty : TypeId} (ht : tyb P tp t = true) {x : AV} {c : Value} (hx : s.vv x c) {n : Nat} (hc : conf s.σ n tp x = true) {K : AV → Sto → Prop}
    (h : lenK (fun _ => False) s.σ x fun v => K v s.σ) : Runs P s (Builtin.len_ #[t] ty #[c]) K := by
  obtain ⟨cs, hv, rfl⟩ := vv_conf hS hx hc
  unfold lenK at h
  split at h
  · have := conf_d hc
    subst this
    obtain ⟨te, hu, _⟩ := sl_under ht
    obtain ⟨a, len, cap, e, h1, _⟩ := VV_dsl hx
    rw [e]
    exact .same hS (len_run_slice hu) (VV_intI _ _) (by rw [h1]; exact h)
  · have := conf_d hc
    subst this
    have hu := str_under ht
    rename_i str
    obtain ⟨ba, e, hb⟩ := VV_str hx
    rw [e]
    refine .same hS (c := .int .i64 (ba.size : Nat)) (by simp [Builtin.len_, run_underlying hu, goInt]) (VV_intI _ _) ?_
    have : List.length str = ba.size := by rw [← hb]; exact Array.length_toList
    rw [← this]
    exact h
  · have := conf_d hc
    subst this
    obtain ⟨te, hu, _⟩ := arr_under ht
    exact .same hS (by simp [Builtin.len_, run_underlying hu, goInt]) (VV_intI _ _) h
  · rename_i e xs
    have htp : tp = .sl e := by cases hv; rfl
    subst htp
    obtain ⟨te, hu, _⟩ := sl_under ht
    obtain ⟨a, len, e, h1, _⟩ := VV_dx hx
    rw [e]
    exact .same hS (len_run_slice hu) (VV_intI _ _) (by rw [h1]; exact h)
  · rename_i e
    cases hv with
    | nils =>
      obtain ⟨te, hu, _⟩ := sl_under ht
      exact .same hS (len_run_slice hu) (VV_intI _ _) h
  · rename_i id
    split at h
    · rename_i e xs ex hg
      cases hv with
      | vec h1 h2 h3 =>
        rename_i m a
        obtain ⟨te, hu, _⟩ := sl_under ht
        have ho := hS.obj id
        rw [hg] at ho
        obtain ⟨m', k1, k2, k3, _⟩ := ho
        rw [h1] at k1; cases k1
        exact .same hS (len_run_slice hu) (VV_intI _ _) (by rw [k3]; exact h)
    · rename_i e xs hs hg
      cases hv with
      | vec h1 h2 h3 =>
        rename_i m a
        obtain ⟨te, hu, _⟩ := sl_under ht
        have ho := hS.obj id
        rw [hg] at ho
        obtain ⟨m', k1, k2, k3, _⟩ := ho
        rw [h1] at k1; cases k1
        exact .same hS (len_run_slice hu) (VV_intI _ _) (by rw [k3]; exact h)
    · exact h.elim
  · rename_i id off len cap ex
    split at h
    · cases hv with
      | sl h1 =>
        obtain ⟨te, hu, _⟩ := sl_under ht
        exact .same hS (len_run_slice hu) (VV_intI _ _) h
    · exact h.elim
  · exact h.elim
theorem capK_sound {s : St} (hS : Sim s) {tp : Ty} {t ty : TypeId} (ht : tyb P tp t = true) {x : AV} {c : Value} (hx : s.vv x c) {n : Nat} (hc : conf s.σ n tp x = true) {K : AV → Sto → Prop}
    (h : capK (fun _ => False) s.σ x fun v => K v s.σ) : Runs P s (Builtin.cap_ #[t] ty #[c]) K := by
  obtain ⟨cs, hv, rfl⟩ := vv_conf hS hx hc
  unfold capK at h
  split at h
  · rename_i e xs
    have htp : tp = .sl e := by cases hv; rfl
    subst htp
    obtain ⟨te, hu, _⟩ := sl_under ht
    obtain ⟨a, len, e, h1, _⟩ := VV_dx hx
    rw [e]
    exact .same hS (cap_run_slice hu) (VV_intI _ _) (by rw [h1]; exact h)
  · rename_i e
    cases hv with
    | nils =>
      obtain ⟨te, hu, _⟩ := sl_under ht
      exact .same hS (cap_run_slice hu) (VV_intI _ _) h
  · rename_i id
    split at h
    · rename_i e xs hg
      cases hv with
      | vec h1 h2 h3 =>
        rename_i m a
        obtain ⟨te, hu, _⟩ := sl_under ht
        have ho := hS.obj id
        rw [hg] at ho
        obtain ⟨m', k1, k2, k3, k4, k5, _⟩ := ho
        rw [h1] at k1; cases k1
        exact .same hS (cap_run_slice hu) (VV_intI _ _) (by rw [k5 rfl, k3]; exact h)
    · exact h.elim
  · rename_i id off len cap
    split at h
    · cases hv with
      | sl h1 h2 h3 h4 h5 h6 h7 h8 =>
        obtain ⟨te, hu, _⟩ := sl_under ht
        have := h6 rfl
        subst this
        exact .same hS (cap_run_slice hu) (VV_intI _ _) h
    · exact h.elim
  · exact h.elim
theorem at?_some {α : Type} {xs : List α} {i : Int} {x : α} (h : at? xs i = some x) : 0 ≤ i ∧ i < (xs.length : Int) ∧ xs[i.toNat]? = some x := by
  unfold at? at h
  split at h
  · rename_i h0
    have := (List.getElem?_eq_some_iff.1 h).1
    exact ⟨h0, by omega, h⟩
  · cases h
theorem idx_run_slice {t te : TypeId} {e : Ty} {ad : Addr} {len cap : Nat} {k : IntKind} {i : Int} {w : World} (hu : P.underlying t = some (.slice te)) (he : tyb P e te = true) (h0 : 0 ≤ i) (h1 : i < (len : Int)) :
    (Instr.indexAt t (.slice (some ad) len cap) (.int k i)).run P w = .ok (.pointer (some (ad.add (i.toNat * e.csz)))) w := by
  simp [Instr.indexAt, asIntOf, run_underlying hu, h0, h1, run_sizeOf' he]
theorem idx_run_arr {t te : TypeId} {e : Ty} {ad : Addr} {n : Nat} {k : IntKind} {i : Int} {w : World} (hu : P.underlying t = some (.array n te)) (he : tyb P e te = true) (h0 : 0 ≤ i) (h1 : i < (n : Int)) :
    (Instr.indexAt t (.pointer (some ad)) (.int k i)).run P w = .ok (.pointer (some (ad.add (i.toNat * e.csz)))) w := by
  simp [Instr.indexAt, asIntOf, run_underlying hu, h0, h1, run_sizeOf' he, Instr.sureAddr]
theorem imm_idx {s : St} {e : Ty} {xs : List e.T} {a : Option Addr} {len cap : Nat} (hi : ImmSl s.w s.F (Imm s.w s.F e) xs a len cap) {i : Int} {y : e.T} (hy : at? xs i = some y) :
    ∃ ad c, a = some ad ∧ ad.spot = none ∧ s.F ad.block ∧ 0 ≤ i ∧ i < (len : Int) ∧ Imm s.w s.F e y c ∧ At s.w (ad.add (i.toNat * e.csz)) c := by
  obtain ⟨h0, h1, h2⟩ := at?_some hy
  obtain ⟨k1, k2, k3⟩ := hi
  rcases k3 with k3 | ⟨ad, cs, k4, k5, k6, k7, k8⟩
  · subst k3; simp at h2
  · obtain ⟨c, j1, j2⟩ := ImmL.get (fun _ _ h => Imm.length h) k7 h2
    exact ⟨ad, c, k4, k5, k6, h0, by omega, j1, Sub.at k5 j2 k8⟩
theorem idxK_sound {s : St} (hS : Sim s) {tp : Ty} {t : TypeId} (ht : tyb P tp t = true) {x : AV} {c : Value} (hx : s.vv x c) {k : IntKind} {i : Int}
    (hc : (match (generalizing := false) x with | .dp u _ => (match (generalizing := false) tp with | .arr n el => u == .arr n el | _ => false) | x => conf s.σ depth tp x) = true) {K : AV → Sto → Prop}
    (h : idxK (fun _ => False) s.σ x i fun v => K v s.σ) : Runs P s (Instr.indexAt t c (.int k i)) K := by
  unfold idxK at h
  split at h
  · have := conf_d hc
    subst this
    obtain ⟨te, hu, he, _⟩ := sl_under ht
    obtain ⟨a, len, cap, e, hi⟩ := VV_dsl hx
    obtain ⟨y, hy, h⟩ := need_prop h
    obtain ⟨ad, cy, rfl, j1, j2, j3, j4, j5, j6⟩ := imm_idx hi hy
    rw [e]
    exact .same hS (idx_run_slice hu he j3 j4) (VV_dpI (by rw [add_block]; exact j2) (add_spot j1 _) j5 j6) h
  · rename_i e xs
    obtain ⟨cs, hv, rfl⟩ := vv_conf hS hx hc
    have htp : tp = .sl e := by cases hv; rfl
    subst htp
    obtain ⟨te, hu, he, _⟩ := sl_under ht
    obtain ⟨a, len, e, hi⟩ := VV_dx hx
    obtain ⟨y, hy, h⟩ := need_prop h
    obtain ⟨ad, cy, rfl, j1, j2, j3, j4, j5, j6⟩ := imm_idx hi hy
    rw [e]
    exact .same hS (idx_run_slice hu he j3 j4) (VV_dpI (by rw [add_block]; exact j2) (add_spot j1 _) j5 j6) h
  · rename_i id
    obtain ⟨cs, hv, rfl⟩ := vv_conf hS hx hc
    split at h
    · rename_i e xs ex hg
      rcases br_prop h with ⟨hb, h⟩ | ⟨_, h⟩
      · obtain ⟨h0, h1⟩ := of_decide_eq_true hb
        cases hv with
        | vec g1 g2 g3 =>
          rename_i m a
          obtain ⟨te, hu, he, _⟩ := sl_under ht
          have ho := hS.obj id
          rw [hg] at ho
          obtain ⟨m', k1, k2, k3, k4, k5, _⟩ := ho
          rw [g1] at k1; cases k1
          rcases g3 with g3 | ⟨b, g3, rfl⟩
          · omega
          · refine .same hS (idx_run_slice hu he h0 (by omega)) ?_ h
            have := VV_ptrI (w := s.w) (F := s.F) (i := i.toNat) (path := []) g1 g3
            rw [offP_nil, Nat.add_zero] at this
            rwa [add_eq, Nat.zero_add]
      · exact h.elim
    · rename_i e xs hs hg
      rcases br_prop h with ⟨hb, h⟩ | ⟨_, h⟩
      · obtain ⟨h0, h1⟩ := of_decide_eq_true hb
        cases hv with
        | vec g1 g2 g3 =>
          rename_i m a
          obtain ⟨te, hu, he, _⟩ := sl_under ht
          have ho := hS.obj id
          rw [hg] at ho
          obtain ⟨m', k1, k2, k3, k4, _⟩ := ho
          rw [g1] at k1; cases k1
          rcases g3 with g3 | ⟨b, g3, rfl⟩
          · omega
          · refine .same hS (idx_run_slice hu he h0 (by omega)) ?_ h
            have := VV_ptrI (w := s.w) (F := s.F) (i := i.toNat) (path := []) g1 g3
            rw [offP_nil, Nat.add_zero] at this
            rwa [add_eq, Nat.zero_add]
      · exact h.elim
    · exact h.elim
  · rename_i id off len cap ex
    obtain ⟨cs, hv, rfl⟩ := vv_conf hS hx hc
    split at h
    · rcases br_prop h with ⟨hb, h⟩ | ⟨_, h⟩
      · obtain ⟨h0, h1⟩ := of_decide_eq_true hb
        cases hv with
        | sl g1 g2 g3 g4 g5 g6 g7 g8 =>
          rename_i m a cap'
          obtain ⟨te, hu, he, _⟩ := sl_under ht
          rcases g8 with g8 | ⟨b, g8, rfl⟩
          · omega
          · refine .same hS (idx_run_slice hu he h0 h1) ?_ h
            have := VV_ptrI (w := s.w) (F := s.F) (i := off + i.toNat) (path := []) g1 g8
            rw [offP_nil, Nat.add_zero, Nat.add_mul] at this
            rwa [add_eq]
      · exact h.elim
    · exact h.elim
  · rename_i n e xs
    dsimp only at hc
    split at hc
    · rename_i n' e' ht
      rw [beq_iff_eq] at hc
      cases hc
      obtain ⟨te, hu, he, _⟩ := arr_under ht
      obtain ⟨ad, cs, rfl, j1, j2, j3, j4⟩ := VV_dp hx
      obtain ⟨y, hy, h⟩ := need_prop h
      obtain ⟨h0, h1, h2⟩ := at?_some hy
      obtain ⟨c1, i1, i2⟩ := ImmL.get (fun _ _ h => Imm.length h) j3.2 h2
      have hn := j3.1
      exact .same hS (idx_run_arr hu he h0 (by rw [← hn]; exact h1)) (VV_dpI (by rw [add_block]; exact j1) (add_spot j2 _) i1 (Sub.at j2 i2 j4)) h
    · cases hc
  · exact h.elim
end
end Go.Abs
