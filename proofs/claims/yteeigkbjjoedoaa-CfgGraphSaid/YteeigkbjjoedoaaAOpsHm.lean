/- Maps from whole numbers against the model's. -/
import Derived.Test.YteeigkbjjoedoaaAOpsG
set_option linter.unusedVariables false
set_option linter.unusedSimpArgs false
namespace Go.Abs
open Go.MapKept Go.ChangeMaps
section
variable {P : Program} {w : World} {F : Nat → Prop}
theorem beqI {a b : Int} : (@BEq.beq Int _ a b) = decide (a = b) := by
  by_cases h : a = b
  · subst h; simp
  · simp [h]
theorem KvR.keys {t : Ty} : ∀ {l : List (Int × t.T)} {es : List MapEntry}, KvR w F t l es → ∀ x ∈ es, IsKey (.int .i64) x.key
  | [], [], _ => by simp
  | [], _ :: _, h => h.elim
  | _ :: _, [], h => h.elim
  | p :: r, e :: es, ⟨h1, _, h3⟩ => by
    intro x hx
    rcases List.mem_cons.1 hx with rfl | hx
    · rw [h1]; rfl
    · exact KvR.keys h3 x hx
theorem KvR.find {t : Ty} (k : Int) : ∀ {l : List (Int × t.T)} {es : List MapEntry} (i : Nat), KvR w F t l es →
    (mget l k = none ∧ Instr.findNow (.int .i64) (.int .i64 k) es i = some none ∧ ∀ y cs, Imm w F t y cs → ∀ n, KvR w F t (mput l k y) (es ++ [⟨.int .i64 k, toV t cs, n⟩])) ∨
    ∃ x cs j e, mget l k = some x ∧ Imm w F t x cs ∧ e.val = toV t cs ∧ es[j]? = some e ∧ e.key = .int .i64 k ∧ Instr.findNow (.int .i64) (.int .i64 k) es i = some (some (i + j, e.val)) ∧
      ∀ y cs, Imm w F t y cs → KvR w F t (mput l k y) (es.modify j fun e => { e with key := .int .i64 k, val := toV t cs })
  | [], [], i, _ => .inl ⟨rfl, rfl, fun y cs hy n => ⟨rfl, ⟨cs, hy, rfl⟩, trivial⟩⟩
  | [], _ :: _, _, h => h.elim
  | _ :: _, [], _, h => h.elim
  | p :: r, e :: es, i, ⟨h1, ⟨cs, h2, h3⟩, h4⟩ => by
    have hs : Instr.sameNow (.int .i64) (.int .i64 k) e.key = some (k == p.1) := by rw [h1]; simp [Instr.sameNow]
    by_cases hk : p.1 = k
    · right
      subst hk
      refine ⟨p.2, cs, 0, e, ?_, h2, h3, rfl, h1, ?_, fun y cs' hy => ?_⟩
      · simp [mget]
      · simp [Instr.findNow, hs]
      · simp only [mput, beq_self_eq_true, cond_true, List.modify_zero_cons]
        exact ⟨rfl, ⟨cs', hy, rfl⟩, h4⟩
    · have hb : (p.1 == k) = false := by simpa using hk
      have hb' : (k == p.1) = false := by simpa using fun h : k = p.1 => hk h.symm
      rw [hb'] at hs
      rcases KvR.find k (i + 1) h4 with ⟨g1, g2, g3⟩ | ⟨x, cs', j, e', g1, g2, g3, g4, g5, g6, g7⟩
      · left
        refine ⟨by simpa [mget, hb] using g1, by simpa [Instr.findNow, hs] using g2, fun y cs' hy n => ?_⟩
        simp only [mput, hb, cond_false, List.cons_append]
        exact ⟨h1, ⟨cs, h2, h3⟩, g3 y cs' hy n⟩
      · right
        refine ⟨x, cs', j + 1, e', by simpa [mget, hb] using g1, g2, g3, by simpa using g4, g5, ?_, fun y cs'' hy => ?_⟩
        · simp only [Instr.findNow, hs, g6]
          congr 3
          omega
        · simp only [mput, hb, cond_false, List.modify_succ_cons]
          exact ⟨h1, ⟨cs, h2, h3⟩, g7 y cs'' hy⟩
theorem VV_mp {ρ : Map} {id : Nat} {c : Value} (h : VV w F ρ (.mp id) c) : ∃ m b, c = .map (some b) ∧ ρ id = some m ∧ m.blk = some b := by
  obtain ⟨u, cs, h, rfl⟩ := h
  cases h with
  | mp h1 h2 => exact ⟨_, _, rfl, h1, h2⟩
theorem VV_mpI {ρ : Map} {id : Nat} {m : Meta} {b : Nat} (h1 : ρ id = some m) (h2 : m.blk = some b) : VV w F ρ (.mp id) (.map (some b)) :=
  VV_of_VR (t := .opq .map) (.mp h1 h2)
end
section
variable {P : Program}
theorem makeMap_sound {s : St} (hS : Sim s) {t : TypeId} {u : Ty} {K : AV → Sto → Prop} (h : K (.mp s.σ.length) (s.σ ++ [.kv u []])) : Runs P s (Instr.makeMap t none) K := by
  have hk : Keep (fun _ => False) s.w (s.w.alloc (.map #[] 0)) := by
    refine ⟨rfl, rfl, rfl, by show s.w.heap.size ≤ (s.w.heap.push _).size; simp, fun k hk _ => heap_alloc_old s.w _ k hk, fun a ha => ?_⟩
    unfold World.frozen?
    rw [heap_alloc_old s.w _ a.block ha]
  obtain ⟨hS', j⟩ := hS.new (m := ⟨some s.w.heap.size, 1, 1, u, by decide⟩) (ob := .kv u []) hk (fun b hb => by cases hb; exact Nat.le_refl _)
    ⟨⟨some s.w.heap.size, 1, 1, u, by decide⟩, s.w.heap.size, #[], 0, by simp [upd], rfl, heap_alloc_new _ _, trivial⟩
  refine ⟨_, .map (some s.w.heap.size), _, ?_, j, hS', VV_mpI (m := ⟨some s.w.heap.size, 1, 1, u, by decide⟩) (by simp [upd]) rfl, h⟩
  simp [Instr.makeMap]
theorem bif_prop' {b : Bool} {x : Prop} (h : bif b then x else False) : b = true ∧ x := by
  cases b
  · exact h.elim
  · exact ⟨rfl, h⟩
theorem lookK_sound {s : St} (hS : Sim s) {t kt te : TypeId} (ht : P.underlying t = some (.map kt te)) (hk : P.underlying kt = some (.int .i64)) {u : Ty} (hu : tyb P u te = true)
    {id : Nat} {c : Value} (hc : s.vv (.mp id) c) {k : Int} {ok : Bool} {K : AV → Sto → Prop} (h : lookK (fun _ => False) s.σ u id k ok fun v => K v s.σ) : Runs P s (Instr.lookup t c (.int .i64 k) ok) K := by
  obtain ⟨m, b, rfl, hm, hb⟩ := VV_mp hc
  unfold lookK at h
  split at h
  · rename_i tt l hg
    obtain ⟨hut, h2⟩ := bif_prop' h
    clear h
    rw [beq_iff_eq] at hut
    subst hut
    have ho := hS.obj id
    rw [hg] at ho
    obtain ⟨m', b', es, clock, k1, k2, k3, k4⟩ := ho
    rw [hm] at k1; cases k1
    rw [hb] at k2; cases k2
    have hck : ∀ e, (Instr.checkKey e 10000 kt (.int .i64 k)).run P s.w = .ok () s.w := fun e => run_checkKey hk (by rfl) e 9999
    have fin : ∀ (x : tt.T) (cs : List Value) (hs : Bool), mval tt.zero l k = x → mhas l k = hs → Imm s.w s.F tt x cs →
        (Instr.lookup t (.map (some b)) (.int .i64 k) ok).run P s.w = .ok (if ok then .tuple #[toV tt cs, .bool hs] else toV tt cs) s.w → Runs P s (Instr.lookup t (.map (some b)) (.int .i64 k) ok) K := by
      intro x cs hs e1 e2 hI hr
      rw [e1, e2] at h2
      cases ok with
      | false => exact .same hS hr (VV_dI hI) h2
      | true => exact .same (v := .tup [.d tt x, .d .bool hs]) (c := .tuple #[toV tt cs, .bool hs]) hS hr ⟨[toV tt cs, .bool hs], rfl, ⟨tt, cs, .d hI, rfl⟩, ⟨.bool, [.bool hs], .d (t := .bool) (x := hs) rfl, rfl⟩, trivial⟩ h2
    rcases KvR.find k 0 k4 with ⟨g1, g2, _⟩ | ⟨x, cs, j, e, g1, g2, g3, g4, g5, g6, _⟩
    · refine fin tt.zero (zcells tt) false (by simp [mval, g1]) (by simp [mhas, g1]) (zero_imm tt) ?_
      unfold Instr.lookup
      simp only [Sem.run_bind, run_underlying ht, MapKept.run_getObj_map k3, hck, run_findKey hk g2, run_zeroValue' hu s.w, Result.andThen, Sem.run_pure]
    · refine fin x cs true (by simp [mval, g1]) (by simp [mhas, g1]) g2 ?_
      unfold Instr.lookup
      simp only [Sem.run_bind, run_underlying ht, MapKept.run_getObj_map k3, hck, run_findKey hk g6, Result.andThen, Sem.run_pure, g3]
  · exact h.elim
theorem mputK_sound {s : St} (hS : Sim s) {t kt te : TypeId} (ht : P.underlying t = some (.map kt te)) (hk : P.underlying kt = some (.int .i64)) {u : Ty}
    {id : Nat} {c : Value} (hc : s.vv (.mp id) c) {k : Int} {w : Ty} {y : w.T} {cv : Value} (hv : s.vv (.d w y) cv) {K : Sto → Prop} (h : mputK (fun _ => False) s.σ u id k w y K) :
    ∃ s' : St, (Instr.mapUpdate t c (.int .i64 k) cv).run P s.w = .ok () s'.w ∧ J s s' ∧ Sim s' ∧ K s'.σ := by
  obtain ⟨m, b, rfl, hm, hb⟩ := VV_mp hc
  unfold mputK at h
  split at h
  · rename_i tt l hg
    obtain ⟨hut, h2⟩ := bif_prop' h
    clear h
    split at h2
    · rename_i hw
      subst hw
      obtain ⟨cs, hI, rfl⟩ := VV_d hv
      have ho := hS.obj id
      rw [hg] at ho
      obtain ⟨m', b', es, clock, k1, k2, k3, k4⟩ := ho
      rw [hm] at k1; cases k1
      rw [hb] at k2; cases k2
      have hck : ∀ e, (Instr.checkKey e 10000 kt (.int .i64 k)).run P s.w = .ok () s.w := fun e => run_checkKey hk (by rfl) e 9999
      have fin : ∀ (es' : Array MapEntry) (clock' : Nat), KvR s.w s.F w (mput l k y) es'.toList →
          (Instr.mapUpdate t (.map (some b)) (.int .i64 k) (toV w cs)).run P s.w = .ok () (setBlock s.w b (.map es' clock')) →
          ∃ s' : St, (Instr.mapUpdate t (.map (some b)) (.int .i64 k) (toV w cs)).run P s.w = .ok () s'.w ∧ J s s' ∧ Sim s' ∧ K s'.σ := by
        intro es' clock' hR hr
        have hkeep : Keep (fun b => m.blk = some b) s.w (setBlock s.w b (.map es' clock')) := by
          refine ⟨rfl, rfl, rfl, by simp [setBlock], fun i _ hi => heap_setBlock_other k3 _ ?_, fun a _ => frozen?_setBlock k3 a⟩
          rintro rfl
          exact hi hb
        obtain ⟨hS', hJ⟩ := hS.put (id := id) (m := m) (by rw [hg]; rfl) hm (w' := setBlock s.w b (.map es' clock')) (ob := .kv w (mput l k y)) hkeep
          ⟨m, b, es', clock', hm, hb, heap_setBlock_same k3 _, hR.mono (fun i hi => heap_setBlock_other k3 _ (by
            rintro rfl
            exact hS.notF i (St.own_of (id := id) (m := m) (by rw [hg]; rfl) hm hb) hi)) (fun _ h => h)⟩
        exact ⟨_, hr, hJ, hS', h2⟩
      rcases KvR.find k 0 k4 with ⟨g1, g2, g3⟩ | ⟨x, cx, j, e, g1, g2, g3, g4, g5, g6, g7⟩
      · refine fin (es.push ⟨.int .i64 k, toV w cs, clock⟩) (clock + 1) (by simpa using g3 y cs hI clock) ?_
        simp [Instr.mapUpdate, run_underlying ht, MapKept.run_getObj_map k3, hck, run_findKey hk g2, MapKept.run_setObj_map _ k3, Result.andThen, setBlock]
      · have hj : es[j]? = some e := by rw [← Array.getElem?_toList]; exact g4
        have g6' : Instr.findNow (.int .i64) (.int .i64 k) es.toList 0 = some (some (j, e.val)) := by simpa using g6
        refine fin (es.modify j fun e => { e with key := .int .i64 k, val := toV w cs }) clock (by simpa using g7 y cs hI) ?_
        have hkt : (Instr.keyThatStays (.int .i64 k) (.int .i64 k)).run P s.w = .ok (.int .i64 k) s.w := run_keyThatStays (d := .int .i64) (by rfl)
        simp [Instr.mapUpdate, run_underlying ht, MapKept.run_getObj_map k3, hck, run_findKey hk g6', hj, g5, hkt, MapKept.run_setObj_map _ k3, Result.andThen, setBlock]
    · exact h2.elim
  · exact h.elim
end
end Go.Abs
