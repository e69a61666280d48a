/- Soundness: append of zero values to nothing. -/
import Derived.Test.YteeigkbjjoedoaaAOpsHe
import Derived.Lib.AppendZerosOnto
set_option linter.unusedVariables false
set_option linter.unusedSimpArgs false
namespace Go.Abs
open Go.RowKit
section
variable {P : Program} {t t2 ty te : TypeId} {e : Ty} {bytes : Nat}
theorem intTy_under {E : Env} (hE : EnvOK P E) {t : TypeId} (h : intTy (E.tyOf t) = true) : ∃ k, P.underlying t = some (.int k) := by
  unfold Env.tyOf at h
  cases he : E.ty t with
  | none => rw [he] at h; cases h
  | some p =>
    obtain ⟨ty, b⟩ := p
    rw [he] at h
    have ht := (hE.ty t ty b he).tok
    cases ty with
    | int k =>
      simp only [tyb, Bool.and_eq_true] at ht
      have h2 := ht.2
      split at h2
      · rename_i k' hu; exact ⟨_, hu⟩
      · cases h2
    | _ => cases h
theorem flat_len (z : List Value) : ∀ m, (List.replicate m z).flatten.length = m * z.length
  | 0 => by simp
  | m + 1 => by rw [List.replicate_succ, List.flatten_cons, List.length_append, flat_len z m, Nat.add_mul]; omega
theorem appZ_sound {s : St} (hS : Sim s) (ht : P.underlying t = some (.slice te)) (he : tyb P e te = true) {kn : IntKind} (h2 : P.underlying t2 = some (.int kn)) (hby : (P.info? te).map (·.bytes) = some bytes) (hb0 : bytes ≠ 0) (hsz : e.csz ≠ 0)
    {sv xv : AV} {sc xc : Value} (hs : s.vv sv sc) (hx : s.vv xv xc) {K : AV → Sto → Prop} (h : appZ (fun _ => False) s.σ e bytes sv xv K) :
    Runs P s (Builtin.append_ #[t, t2] ty #[sc, xc]) K := by
  unfold appZ at h
  split at h
  · rename_i u kq n
    have hc := VV_nils hs
    subst hc
    have hn := VV_int hx
    subst hn
    cases hu : u == e with
    | false => rw [hu] at h; exact h.elim
    | true =>
      rw [hu] at h
      dsimp only [cond_true] at h
      rcases br_prop h with ⟨h0, h⟩ | ⟨h0, h⟩
      · have h0 : (0 : Int) < (show Int from n) ∧ (show Int from n) * (bytes : Int) ≤ 140737488355328 := @of_decide_eq_true _ _ h0
        obtain ⟨k, rfl⟩ := Int.eq_ofNat_of_zero_le (a := (show Int from n)) (Int.le_of_lt h0.1)
        have hk : 0 < k := Int.natCast_pos.1 h0.1
        have hkb : k * bytes ≤ 140737488355328 := by
          have := h0.2
          rw [← Int.natCast_mul] at this
          omega
        obtain ⟨i, hi, hisz, hiz⟩ := tyb_info he
        have hbi : i.bytes = bytes := by rw [hi] at hby; simpa using hby
        have hkl : k ≤ k * bytes := Nat.le_mul_of_pos_right _ (Nat.pos_of_ne_zero hb0)
        have hzc : (toV e (zcells e)).cells = (zcells e).toArray := toV_cells (zcells_len e) (zcells_one e)
        have hzne : zcells e ≠ [] := fun w => hsz (by rw [← zcells_len e, w]; rfl)
        have hzk : ∀ m, Builtin.zeroCells (toV e (zcells e)).cells m = (List.replicate m (zcells e)).flatten.toArray := fun m => by
          unfold Builtin.zeroCells
          rw [hzc]
          exact range_mod hzne
        have hfit := growslice_fits (need := 0 + k) (old := 0) (bytes := bytes) (by omega) (by rw [Nat.zero_add]; exact hkb)
        have hrun := Lib.run_append_grow_zeros s.w t t2 ty te i _ kq kn ht h2 hi hiz none 0 0 [] (by rfl) k hk (by rw [hisz]; exact Nat.pos_of_ne_zero hsz) (by omega) (by omega) (by rw [hbi]; omega) (by rw [hbi]; exact hfit)
        rw [hzk, hzk] at hrun
        generalize hcap : grownCap s.w (0 + k) 0 te = cap at hrun
        have hc1 : k ≤ cap := by rw [← hcap]; unfold grownCap; simp [Question.cut]
        have hc2 : cap ≤ 9223372036854775807 := by rw [← hcap]; unfold grownCap; exact cut_le (by omega)
        generalize hA : (List.replicate k (zcells e)).flatten = A at hrun
        generalize hB : (List.replicate (cap - (0 + k)) (zcells e)).flatten = B at hrun
        have hiA : ∀ {w : World}, ImmL (Imm w s.F e) (List.replicate k e.zero) A := fun {w} => by rw [← hA]; exact zero_imms e k
        have hlA : A.length = k * e.csz := by rw [← hA, flat_len, zcells_len]
        have hlB : B.length = (cap - (0 + k)) * e.csz := by rw [← hB, flat_len, zcells_len]
        have harr : (([] : List Value).toArray ++ A.toArray ++ B.toArray) = (A ++ B).toArray := by simp
        rw [harr] at hrun
        simp only [Nat.zero_add] at hrun
        have hkp : Keep (fun _ => False) s.w (s.w.drew.alloc (.cells (A ++ B).toArray te)) := (keep_drew (O := fun _ => False)).trans keep_alloc
        obtain ⟨hS', j⟩ := hS.new (m := ⟨some s.w.heap.size, k, cap, e, hc2⟩) (ob := .row e (List.replicate k e.zero) false) hkp (fun b hb => by cases hb; exact Nat.le_refl _)
          ⟨⟨some s.w.heap.size, k, cap, e, hc2⟩, by simp [upd], rfl, by rw [List.length_replicate], hc1, (fun h => by cases h), .inr ⟨s.w.heap.size, _, te, A, rfl, heap_alloc_new s.w.drew _, by
            simp only [List.size_toArray, List.length_append, hlA, hlB, ← Nat.add_mul]
            exact Nat.mul_le_mul_right _ (by omega), hiA, ⟨B, by simp⟩⟩⟩
        refine ⟨_, _, _, hrun, j, hS', ?_, h⟩
        exact VV_vecI (w := s.w.drew.alloc (.cells (A ++ B).toArray te)) (F := s.F) (m := ⟨some s.w.heap.size, k, cap, e, hc2⟩) (ρ := upd s.ρ s.σ.length ⟨some s.w.heap.size, k, cap, e, hc2⟩) (id := s.σ.length) (by simp [upd]) hc1 (.inr ⟨s.w.heap.size, rfl, rfl⟩)
      · exact h.elim
  · exact h.elim
end
end Go.Abs
