/- The evaluator's single operations against the model's: values. -/
import Derived.Test.YteeigkbjjoedoaaASimL
import Derived.Laws.Slices
import Derived.Laws.Strings
set_option linter.unusedVariables false
set_option linter.unusedSimpArgs false
namespace Go.Abs
def St.vv (s : St) (v : AV) (c : Value) : Prop := VV s.w s.F s.ρ v c
structure FrR (s : St) (fr : Fr) (a : Act) (nt : Nat) : Prop where
  get : ∀ t, s.vv (Fr.get fr t) (a.tmps.getD t undef)
  defers : a.defers = []
  size : a.tmps.size = nt
theorem FrR.mono {s s' : St} {fr : Fr} {a : Act} {nt : Nat} (hS : Sim s) (hJ : J s s') (h : FrR s fr a nt) : FrR s' fr a nt :=
  ⟨fun t => hJ.vv hS (h.get t), h.defers, h.size⟩
theorem beq_eq {a b : Nat} : Nat.beq a b = true ↔ a = b := ⟨Nat.eq_of_beq_eq_true, fun h => by subst h; exact Nat.beq_refl a⟩
theorem FrR.set {s : St} {fr : Fr} {a : Act} {nt : Nat} (h : FrR s fr a nt) {dst : Option Tmp} (hd : dstOk nt dst = true) {v : AV} {c : Value} (hv : s.vv v c) : FrR s (fr.set dst v) (a.put dst c) nt := by
  cases dst with
  | none => exact h
  | some t =>
    have hlt : t < a.tmps.size := by
      rw [h.size]
      simp only [dstOk, Nat.blt_eq] at hd
      exact hd
    refine ⟨fun u => ?_, h.defers, by simp [Act.put, h.size]⟩
    simp only [Fr.set, Fr.get_cons, Fr.get_nil, Act.put, Array.getD_eq_getD_getElem?]
    cases hb : Nat.beq t u with
    | true =>
      have := beq_eq.1 hb
      subst this
      simp [hlt, hv]
    | false =>
      have hne : t ≠ u := fun e => by rw [beq_eq.2 e] at hb; cases hb
      rw [Array.getElem?_setIfInBounds_ne hne]
      simpa [Array.getD_eq_getD_getElem?] using h.get u
section
variable {w : World} {F : Nat → Prop} {ρ : Map}
theorem VV_d {t : Ty} {x : t.T} {c : Value} (h : VV w F ρ (.d t x) c) : ∃ cs, Imm w F t x cs ∧ c = toV t cs := by
  obtain ⟨u, cs, h, rfl⟩ := h
  cases h with
  | d h => exact ⟨cs, h, rfl⟩
theorem VV_int {k : IntKind} {n : Int} {c : Value} (h : VV w F ρ (.d (.int k) n) c) : c = .int k n := by
  obtain ⟨cs, h1, h2⟩ := VV_d h
  have h3 : cs = [.int k n] := h1
  rw [h2, h3]
  rfl
theorem VV_bool {b : Bool} {c : Value} (h : VV w F ρ (.d .bool b) c) : c = .bool b := by
  obtain ⟨cs, h1, h2⟩ := VV_d h
  have h3 : cs = [.bool b] := h1
  rw [h2, h3]
  rfl
theorem VV_str {s : List UInt8} {c : Value} (h : VV w F ρ (.d .str s) c) : ∃ ba : ByteArray, c = .string ba ∧ ba.data.toList = s := by
  obtain ⟨cs, h1, h2⟩ := VV_d h
  obtain ⟨ba, h3, h4⟩ := h1
  exact ⟨ba, by rw [h2, h3]; rfl, h4⟩
theorem VV_opq {z : Nk} {x : Unit} {c : Value} (h : VV w F ρ (.d (.opq z) x) c) : c = z.val := by
  obtain ⟨cs, h1, h2⟩ := VV_d h
  have h3 : cs = [z.val] := h1
  rw [h2, h3]
  rfl
theorem VV_dsl {e : Ty} {xs : List e.T} {c : Value} (h : VV w F ρ (.d (.sl e) xs) c) : ∃ a len cap, c = .slice a len cap ∧ ImmSl w F (Imm w F e) xs a len cap := by
  obtain ⟨cs, h1, h2⟩ := VV_d h
  obtain ⟨a, len, cap, h3, h4⟩ := h1
  exact ⟨a, len, cap, by rw [h2, h3]; rfl, h4⟩
theorem VV_of_VR {t : Ty} {v : AV} {cs} (h : VR w F ρ t v cs) : VV w F ρ v (toV t cs) := by
  have h' := h
  cases h <;> exact ⟨_, _, h', rfl⟩
theorem VV_intI (k : IntKind) (n : Int) : VV w F ρ (.d (.int k) n) (.int k n) := VV_of_VR (t := .int k) (cs := [.int k n]) (.d (t := .int k) (x := n) rfl)
theorem VV_boolI (b : Bool) : VV w F ρ (.d .bool b) (.bool b) := VV_of_VR (t := .bool) (cs := [.bool b]) (.d (t := .bool) (x := b) rfl)
theorem VV_strI {s : List UInt8} {ba : ByteArray} (h : ba.data.toList = s) : VV w F ρ (.d .str s) (.string ba) := VV_of_VR (t := .str) (cs := [.string ba]) (.d (t := .str) (x := s) ⟨ba, rfl, h⟩)
theorem VV_opqI (z : Nk) : VV w F ρ (.d (.opq z) ()) z.val := VV_of_VR (t := .opq z) (cs := [z.val]) (.d (t := .opq z) (x := ()) rfl)
theorem VV_dI {t : Ty} {x : t.T} {cs} (h : Imm w F t x cs) : VV w F ρ (.d t x) (toV t cs) := VV_of_VR (.d h)
theorem VV_dslI {e : Ty} {xs : List e.T} {a len cap} (h : ImmSl w F (Imm w F e) xs a len cap) : VV w F ρ (.d (.sl e) xs) (.slice a len cap) :=
  VV_of_VR (t := .sl e) (cs := [.slice a len cap]) (.d (t := .sl e) (x := xs) ⟨a, len, cap, rfl, h⟩)
theorem VV_dp {t : Ty} {x : t.T} {c : Value} (h : VV w F ρ (.dp t x) c) : ∃ ad cs, c = .pointer (some ad) ∧ F ad.block ∧ ad.spot = none ∧ Imm w F t x cs ∧ At w ad cs := by
  obtain ⟨u, cs, h, rfl⟩ := h
  cases h with
  | dp h1 h2 h3 h4 => exact ⟨_, _, rfl, h1, h2, h3, h4⟩
theorem VV_dpI {t : Ty} {x : t.T} {ad : Addr} {cs} (h1 : F ad.block) (h2 : ad.spot = none) (h3 : Imm w F t x cs) (h4 : At w ad cs) : VV w F ρ (.dp t x) (.pointer (some ad)) :=
  VV_of_VR (t := .opq .ptr) (.dp h1 h2 h3 h4)
theorem VV_dx {e : Ty} {xs : List e.T} {c : Value} (h : VV w F ρ (.dx e xs) c) : ∃ a len, c = .slice a len len ∧ ImmSl w F (Imm w F e) xs a len len := by
  obtain ⟨u, cs, h, rfl⟩ := h
  cases h with
  | dx h => exact ⟨_, _, rfl, h⟩
theorem VV_dxI {e : Ty} {xs : List e.T} {a len} (h : ImmSl w F (Imm w F e) xs a len len) : VV w F ρ (.dx e xs) (.slice a len len) := VV_of_VR (t := .sl e) (.dx h)
theorem VV_nils {e : Ty} {c : Value} (h : VV w F ρ (.nils e) c) : c = .slice none 0 0 := by
  obtain ⟨u, cs, h, rfl⟩ := h
  cases h with
  | nils => rfl
theorem VV_nilsI {e : Ty} : VV w F ρ (.nils e) (.slice none 0 0) := VV_of_VR (t := .sl e) .nils
theorem VV_vec {id : Nat} {c : Value} (h : VV w F ρ (.vec id) c) : ∃ m a, c = .slice a m.len m.tot ∧ ρ id = some m ∧ m.len ≤ m.tot ∧ (m.tot = 0 ∨ ∃ b, m.blk = some b ∧ a = some ⟨b, 0, none⟩) := by
  obtain ⟨u, cs, h, rfl⟩ := h
  cases h with
  | vec h1 h2 h3 => exact ⟨_, _, rfl, h1, h2, h3⟩
theorem VV_vecI {id : Nat} {m : Meta} {a : Option Addr} (h1 : ρ id = some m) (h2 : m.len ≤ m.tot) (h3 : m.tot = 0 ∨ ∃ b, m.blk = some b ∧ a = some ⟨b, 0, none⟩) : VV w F ρ (.vec id) (.slice a m.len m.tot) :=
  VV_of_VR (.vec h1 h2 h3)
theorem VV_sl {id off len cap : Nat} {ex : Bool} {c : Value} (h : VV w F ρ (.sl id off len cap ex) c) : ∃ m a cap', c = .slice a len cap' ∧ ρ id = some m ∧ len ≤ cap' ∧ cap ≤ cap' ∧ off + cap' ≤ m.tot ∧ off + cap ≤ m.len ∧ (ex = true → cap' = cap) ∧ len ≤ cap ∧
    (cap' = 0 ∨ ∃ b, m.blk = some b ∧ a = some ⟨b, off * m.ty.csz, none⟩) := by
  obtain ⟨u, cs, h, rfl⟩ := h
  cases h with
  | sl h1 h2 h3 h4 h5 h6 h7 h8 => exact ⟨_, _, _, rfl, h1, h2, h3, h4, h5, h6, h7, h8⟩
theorem VV_slI {id off len cap cap' : Nat} {ex : Bool} {m : Meta} {a : Option Addr} (h1 : ρ id = some m) (h2 : len ≤ cap') (h3 : cap ≤ cap') (h4 : off + cap' ≤ m.tot) (h5 : off + cap ≤ m.len) (h6 : ex = true → cap' = cap) (h7 : len ≤ cap)
    (h8 : cap' = 0 ∨ ∃ b, m.blk = some b ∧ a = some ⟨b, off * m.ty.csz, none⟩) : VV w F ρ (.sl id off len cap ex) (.slice a len cap') :=
  VV_of_VR (.sl h1 h2 h3 h4 h5 h6 h7 h8)
theorem VV_ptr {id i : Nat} {path : List Nat} {c : Value} (h : VV w F ρ (.ptr id i path) c) : ∃ m b, c = .pointer (some ⟨b, i * m.ty.csz + offP m.ty path, none⟩) ∧ ρ id = some m ∧ m.blk = some b := by
  obtain ⟨u, cs, h, rfl⟩ := h
  cases h with
  | ptr h1 h2 => exact ⟨_, _, rfl, h1, h2⟩
theorem VV_ptrI {id i : Nat} {path : List Nat} {m : Meta} {b : Nat} (h1 : ρ id = some m) (h2 : m.blk = some b) : VV w F ρ (.ptr id i path) (.pointer (some ⟨b, i * m.ty.csz + offP m.ty path, none⟩)) :=
  VV_of_VR (t := .opq .ptr) (.ptr h1 h2)
theorem VV_fn {f : FuncId} {xs ys : List AV} {c : Value} (h : VV w F ρ (.fn f xs ys) c) : ∃ tf tc fs cs, c = .func (.func f) fs.toArray cs.toArray ∧ ones tf ∧ ones tc ∧ VR w F ρ tf (.agg xs) fs ∧ VR w F ρ tc (.agg ys) cs := by
  obtain ⟨u, cs, h, rfl⟩ := h
  cases h with
  | fn h1 h2 h3 h4 => exact ⟨_, _, _, _, rfl, h1, h2, h3, h4⟩
theorem VV_agg {l : List AV} {c : Value} (h : VV w F ρ (.agg l) c) : ∃ t cs, c = .agg cs.toArray ∧ t.isA = true ∧ VR w F ρ t (.agg l) cs := by
  obtain ⟨u, cs, h, rfl⟩ := h
  cases h with
  | unit => exact ⟨.unit, [], rfl, rfl, .unit⟩
  | pair h1 h2 => exact ⟨_, _, rfl, rfl, .pair h1 h2⟩
theorem VV_tup {l : List AV} {c : Value} (h : VV w F ρ (.tup l) c) : ∃ cs, c = .tuple cs.toArray ∧ VVs w F ρ l cs := h
theorem VVs_get : ∀ {l : List AV} {cs : List Value} {i : Nat} {v : AV}, VVs w F ρ l cs → l[i]? = some v → ∃ c, cs[i]? = some c ∧ VV1 w F ρ v c
  | [], _, _, _, _, h => by simp at h
  | _ :: _, [], _, _, h, _ => h.elim
  | v :: l, c :: cs, 0, _, h, he => ⟨c, rfl, by simp at he; subst he; exact h.1⟩
  | v :: l, c :: cs, i + 1, _, h, he => VVs_get (l := l) (cs := cs) (i := i) h.2 (by simpa using he)
theorem VV_of_VV1 {v : AV} {c : Value} (h : VV1 w F ρ v c) : VV w F ρ v c := by
  cases v with
  | tup l =>
    obtain ⟨t, cs, h, _⟩ := h
    cases h
  | _ => exact h
end
theorem ofConst_vv (s : St) (e : Option Ty) (c : Value) : s.vv (ofConst e c) c := by
  unfold ofConst
  split
  · exact VV_intI _ _
  · exact VV_boolI _
  · exact VV_strI rfl
  · exact VV_opqI .ptr
  · exact VV_opqI .func
  · exact VV_opqI .map
  · exact VV_opqI .iface
  · split
    · exact VV_nilsI
    · trivial
  · trivial
theorem ev_vv {E : Env} {s : St} {fr : Fr} {a : Act} {nt : Nat} (h : FrR s fr a nt) (t : Option TypeId) (x : Operand) : s.vv (ev E fr t x) (a.eval x) := by
  cases x with
  | tmp i => exact h.get i
  | const v => exact ofConst_vv s _ v
  | global g => trivial
  | func f => exact VV_of_VR (t := .opq .func) (.fn (tf := .unit) (tc := .unit) (fs := []) (cs := []) trivial trivial .unit .unit)
def propLoop (N : Fr → Sto → (Fr → Sto → Prop) → Prop) (body : (Exit → Fr → Sto → Prop) → Fr → Sto → Prop) (K : Exit → Fr → Sto → Prop) (fr : Fr) (σ : Sto) : Prop :=
  ∀ I : Fr → Sto → Prop, (∀ fr σ, body (thenK (fun fr σ => N fr σ I) K) fr σ → I fr σ) → I fr σ
abbrev PA (call : FuncId → List AV → Sto → (AV → Sto → Prop) → Prop) : Alg := ⟨Prop, fun _ => False, call, propLoop, And, fun b K => b K⟩
def SC (P : Program) (f : FuncId) (args : List AV) (τ : Sto) (Q : AV → Sto → Prop) : Prop :=
  ∀ (s : St) (cs : List Value), s.σ = τ → Sim s → VVs s.w s.F s.ρ args cs →
    Calls P f cs.toArray s.w fun e w' => ∃ v c s', e = .returned c ∧ s'.w = w' ∧ J s s' ∧ Sim s' ∧ s'.vv v c ∧ Q v s'.σ
def Goes (s : St) (K : AV → Sto → Prop) (T : Value → World → Prop) : Prop :=
  ∀ v s' c, J s s' → Sim s' → s'.vv v c → K v s'.σ → T c s'.w
theorem br_prop {b : Bool} {x y : Prop} (h : br b x y) : (b = true ∧ x) ∨ (b = false ∧ y) := by
  cases b
  · exact .inr ⟨rfl, h⟩
  · exact .inl ⟨rfl, h⟩
theorem need_prop {α : Type} {o : Option α} {K : α → Prop} (h : need False o K) : ∃ x, o = some x ∧ K x := by
  cases o with
  | none => exact h.elim
  | some x => exact ⟨x, rfl, h⟩
theorem intOp_run {P : Program} {op : BinOp} {k : IntKind} {x y : Int} {K : AV → Prop} (hop : op ≠ .shl ∧ op ≠ .shr) (h : intOp (fun _ => False) op k x y K) :
    ∃ v c, K v ∧ (∀ t w, (binOp op t (.int k x) (.int k y)).run P w = .ok c w) ∧ ∀ s : St, s.vv v c := by
  obtain ⟨h1, h2⟩ := hop
  cases op <;> simp only [intOp] at h <;> first
    | exact (h1 rfl).elim
    | exact (h2 rfl).elim
    | exact h.elim
    | (rcases br_prop h with ⟨hb, h⟩ | ⟨hb, h⟩
       · exact h.elim
       · have hy : ¬ y = 0 := by simpa using hb
         refine ⟨_, _, h, fun t w => ?_, fun s => VV_intI _ _⟩
         simp [binOp, Op.intDiv, hy])
    | (refine ⟨_, _, h, fun t w => ?_, fun s => VV_intI _ _⟩
       first
       | (simp [binOp, Op.intArith]; done)
       | (simp only [binOp, ne_eq, not_true_eq_false, if_false, Op.intBits, bitop]; rfl))
    | (refine ⟨_, _, h, fun t w => ?_, fun s => VV_boolI _⟩
       simp [binOp, Op.intCmp])
theorem shOp_run {P : Program} {op : BinOp} {k k' : IntKind} {x y : Int} {K : AV → Prop} (h : shOp (fun _ => False) op k x y K) :
    ∃ v c, K v ∧ (∀ t w, (binOp op t (.int k x) (.int k' y)).run P w = .ok c w) ∧ ∀ s : St, s.vv v c := by
  cases op <;> simp only [shOp] at h <;> first
    | exact h.elim
    | (rcases br_prop h with ⟨hb, h⟩ | ⟨hb, h⟩
       · exact h.elim
       · have hy : ¬ y < 0 := by simpa using hb
         refine ⟨_, _, h, fun t w => ?_, fun s => VV_intI _ _⟩
         simp [binOp, Op.shift, hy])
theorem strOp_run {P : Program} {op : BinOp} {x y : ByteArray} {K : AV → Prop} (h : strOp (fun _ => False) op x.data.toList y.data.toList K) :
    ∃ v c, K v ∧ (∀ t w, (binOp op t (.string x) (.string y)).run P w = .ok c w) ∧ ∀ s : St, s.vv v c := by
  cases op <;> simp only [strOp] at h <;> first
    | exact h.elim
    | (refine ⟨_, _, h, fun t w => ?_, fun s => VV_boolI _⟩
       simp [binOp, Op.stringOp, ByteArray.toList_eq])
    | (rcases br_prop h with ⟨hb, h⟩ | ⟨hb, h⟩
       · have hy : x.size + y.size ≤ 9223372036854775807 := by have h1 := of_decide_eq_true hb; rw [Array.length_toList, Array.length_toList] at h1; exact h1
         refine ⟨_, _, h, fun t w => ?_, fun s => VV_strI (ba := x ++ y) ?_⟩
         · have : ¬ (((x.size + y.size : Nat) : Int) > IntKind.i64.max) := by
             have : IntKind.i64.max = 9223372036854775807 := rfl
             rw [this]; omega
           simp only [binOp, Op.stringOp, this, if_false]
           rfl
         · simp [ByteArray.data_append]
       · exact h.elim)
end Go.Abs
