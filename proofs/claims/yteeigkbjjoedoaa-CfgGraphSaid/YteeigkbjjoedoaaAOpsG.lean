/- The evaluator's single operations against the model's: the operations put together. -/
import Derived.Test.YteeigkbjjoedoaaAOpsF
set_option linter.unusedVariables false
set_option linter.unusedSimpArgs false
namespace Go.Abs
section
variable {P : Program}
theorem place_field {w : World} {F : Nat → Prop} {ρ : Map} : ∀ {t : Ty} {k : Nat} {u : Ty} {l : List AV} {cs : List Value}, VR w F ρ t (.agg l) cs → placeTy t [k] = some u → fieldTy t k = some u := by
  intro t k u l cs h hp
  induction k generalizing t l cs with
  | zero =>
    cases h with
    | unit => simp [placeTy] at hp
    | pair _ _ => simpa [placeTy, fieldTy] using hp
  | succ k ih =>
    cases h with
    | unit => simp [placeTy] at hp
    | pair _ h2 =>
      simp only [placeTy] at hp
      exact ih h2 hp
theorem field_val_run {t : TypeId} {ty : Ty} (ht : tyb P ty t = true) {k : Nat} {u : Ty} (hu : fieldTy ty k = some u) {cs c : List Value} (hs : Sub c (offP ty [k]) cs) (hl : c.length = u.csz) {w : World} :
    (Instr.field t (.agg cs.toArray) k).run P w = .ok (toV u c) w := by
  obtain ⟨a, b, rfl⟩ := fieldTy_pair hu
  obtain ⟨fs, hs', hf, _⟩ := pair_under ht
  obtain ⟨f, f1, f2, f3, f4, f5⟩ := fdb_get hf hu
  have f1' : fs[k]? = some f := by rw [← Array.getElem?_toList]; exact f1
  rw [Nat.zero_add] at f2
  unfold Instr.field
  simp only [Sem.run_bind, run_underlying hs' w, Result.andThen_ok, f1', asAgg, Sem.run_pure, f2]
  exact part_run f3 hl hs
theorem field_sound {s : St} (hS : Sim s) {tp : Ty} {t : TypeId} (ht : tyb P tp t = true) {x : AV} {c : Value} (hx : s.vv x c) (hc : conf s.σ depth tp x = true) {f : Nat} {K : AV → Sto → Prop}
    (h : match (generalizing := false) x with
      | .d t x => fieldD (fun _ => False) t x f fun u y => K (.d u y) s.σ
      | .agg l => (match l[f]? with | some v => K v s.σ | none => False)
      | _ => False) : Runs P s (Instr.field t c f) K := by
  cases x with
  | d u x =>
    have := conf_d hc
    subst this
    obtain ⟨cs, hI, rfl⟩ := VV_d hx
    obtain ⟨u, y, cy, h1, h2, h3, h4⟩ := fieldD_prop h hI
    obtain ⟨a, b, rfl⟩ := fieldTy_pair h4
    exact .same hS (field_val_run ht h4 h3 h2.length) (VV_dI h2) h1
  | agg l =>
    dsimp only at h
    obtain ⟨cs, hv, rfl⟩ := vv_conf hS hx hc
    split at h
    · rename_i v hv'
      have hg : getAV (fun _ => False) 2 (.agg l) [f] (fun y => K y s.σ) := by simp only [getAV, hv']; exact h
      obtain ⟨u, y, cy, h1, h2, h3, h4⟩ := getAV_prop hg hv
      have h5 := place_field hv h4
      obtain ⟨a, b, rfl⟩ := fieldTy_pair h5
      exact .same hS (field_val_run ht h5 h3 h2.length) (VV_of_VR h2) h1
    · exact h.elim
  | _ => exact h.elim
theorem fieldAddr_sound {s : St} (hS : Sim s) {tp : Ty} {t : TypeId} (ht : tyb P tp t = true) {x : AV} {c : Value} (hx : s.vv x c) {f : Nat} {K : AV → Sto → Prop}
    (h : match (generalizing := false) x with
      | .ptr id i path => (match (obTy (Sto.get s.σ id)).bind (placeTy · path) with
        | some u => bif u == tp && (fieldTy tp f).isSome then K (.ptr id i (path ++ [f])) s.σ else False
        | none => False)
      | .dp t x => bif t == tp then fieldD (fun _ => False) t x f fun u y => K (.dp u y) s.σ else False
      | _ => False) : Runs P s (Instr.fieldAt t c f) K := by
  cases x with
  | ptr id i path =>
    dsimp only at h
    split at h
    · rename_i u hu
      cases hb : u == tp && (fieldTy tp f).isSome with
      | false => rw [hb] at h; exact h.elim
      | true =>
        rw [hb] at h
        dsimp only [cond_true] at h
        rw [Bool.and_eq_true, beq_iff_eq] at hb
        obtain ⟨rfl, hf⟩ := hb
        obtain ⟨v, hv⟩ := Option.isSome_iff_exists.1 hf
        obtain ⟨m, b, rfl, hm, hb⟩ := VV_ptr hx
        cases ho : obTy (Sto.get s.σ id) with
        | none => rw [ho] at hu; cases hu
        | some ot =>
          rw [ho] at hu
          obtain ⟨m', hm', hty⟩ := obTy_map hS ho
          rw [hm] at hm'; cases hm'
          subst hty
          obtain ⟨_, p2⟩ := placeTy_snoc (k := f) hu
          refine .same hS (field_run ht hv) ?_ h
          have := VV_ptrI (w := s.w) (F := s.F) (i := i) (path := path ++ [f]) hm hb
          rw [p2] at this
          rw [add_eq, Nat.add_assoc]
          exact this
    · exact h.elim
  | dp u x =>
    dsimp only at h
    cases hb : u == tp with
    | false => rw [hb] at h; exact h.elim
    | true =>
      rw [hb] at h
      dsimp only [cond_true] at h
      rw [beq_iff_eq] at hb
      subst hb
      obtain ⟨ad, cs, rfl, h1, h2, h3, h4⟩ := VV_dp hx
      obtain ⟨v, y, cy, k1, k2, k3, k4⟩ := fieldD_prop h h3
      exact .same hS (field_run ht k4) (VV_dpI (by rw [add_block]; exact h1) (add_spot h2 _) k2 (Sub.at h2 k3 h4)) k1
  | _ => exact h.elim
theorem indexArr_sound {s : St} (hS : Sim s) {n : Nat} {el : Ty} {t : TypeId} (ht : tyb P (.arr n el) t = true) {id k : Nat} {path : List Nat} {c : Value} (hx : s.vv (.ptr id k path) c) {i : Int} {ki : IntKind}
    (hu : (obTy (Sto.get s.σ id)).bind (placeTy · path) = some (.arr n el)) (h0 : 0 ≤ i) (h1 : i < (n : Int)) {K : AV → Sto → Prop} (h : K (.ptr id k (path ++ [i.toNat])) s.σ) : Runs P s (Instr.indexAt t c (.int ki i)) K := by
  obtain ⟨te, hu', he, _⟩ := arr_under ht
  obtain ⟨m, b, rfl, hm, hb⟩ := VV_ptr hx
  cases ho : obTy (Sto.get s.σ id) with
  | none => rw [ho] at hu; cases hu
  | some ot =>
    rw [ho] at hu
    obtain ⟨m', hm', hty⟩ := obTy_map hS ho
    rw [hm] at hm'; cases hm'
    subst hty
    obtain ⟨_, p2⟩ := placeTy_snoc (k := i.toNat) hu
    refine .same hS (idx_run_arr hu' he h0 h1) ?_ h
    have := VV_ptrI (w := s.w) (F := s.F) (i := k) (path := path ++ [i.toNat]) hm hb
    rw [p2] at this
    rw [add_eq, Nat.add_assoc]
    show VV s.w s.F s.ρ _ _
    simpa [offP, offP_nil] using this
theorem bytes_get (ba : ByteArray) (i : Nat) : ba[i]? = ba.data.toList[i]? := by
  rw [Array.getElem?_toList]
  by_cases h : i < ba.size
  · rw [getElem?_pos ba i h, getElem?_pos ba.data i h]
    rfl
  · rw [getElem?_neg ba i h, getElem?_neg ba.data i h]
theorem index_sound {s : St} (hS : Sim s) {tp : Ty} {t : TypeId} (ht : tyb P tp t = true) {x : AV} {c : Value} (hx : s.vv x c) (hc : conf s.σ depth tp x = true) {ki : IntKind} {i : Int} {K : AV → Sto → Prop}
    (h : match (generalizing := false) x with
      | .d (.arr _ el) xs => need False (at? (show List el.T from xs) i) fun y => K (.d el y) s.σ
      | .d .str str => need False (at? (show List UInt8 from str) i) fun y => K (.d (.int .u8) (y.toNat : Int)) s.σ
      | _ => False) : Runs P s (Instr.index t c (.int ki i)) K := by
  cases x with
  | d u xs =>
   cases u with
   | arr n el =>
    have := conf_d hc
    subst this
    obtain ⟨te, hu, he, _⟩ := arr_under ht
    obtain ⟨cs, hI, rfl⟩ := VV_d hx
    obtain ⟨y, hy, h⟩ := need_prop h
    obtain ⟨h0, h1, h2⟩ := at?_some hy
    obtain ⟨hl, hI⟩ := hI
    obtain ⟨cy, j1, j2⟩ := ImmL.get (fun _ _ h => Imm.length h) hI h2
    refine .same hS ?_ (VV_dI j1) h
    have h1' : i < (n : Int) := by rw [← hl]; exact h1
    show (Instr.index t (.agg cs.toArray) (.int ki i)).run P s.w = _
    unfold Instr.index
    simp only [asIntOf, Sem.run_bind, Sem.run_pure, Result.andThen_ok, run_underlying hu s.w, h0, h1', and_self, if_true, run_sizeOf' he s.w]
    exact part_run he j1.length j2
   | str =>
    have := conf_d hc
    subst this
    have hu := str_under ht
    obtain ⟨ba, rfl, hb⟩ := VV_str hx
    obtain ⟨y, hy, h⟩ := need_prop h
    obtain ⟨h0, h1, h2⟩ := at?_some hy
    refine .same hS ?_ (VV_intI _ _) h
    have hg : ba[i.toNat]? = some y := by
      rw [← h2, ← hb]
      exact bytes_get ba i.toNat
    unfold Instr.index
    simp only [asIntOf, Sem.run_bind, Sem.run_pure, Result.andThen_ok, run_underlying hu s.w, h0, if_true, hg]
   | _ => exact h.elim
  | _ => exact h.elim
end
end Go.Abs
