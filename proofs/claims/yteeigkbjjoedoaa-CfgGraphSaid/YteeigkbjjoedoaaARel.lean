/- What the abstract values and objects stand for in the model's worlds. -/
import Derived.Test.YteeigkbjjoedoaaADef
import Derived.Laws.Cells
import Derived.Laws.CopyRow
import Derived.Below
import Derived.MapKept
import Derived.ChangeMaps5
set_option linter.unusedVariables false
namespace Go.Abs
def Nk.val : Nk → Value
  | .ptr => .pointer none
  | .func => .nilFunc
  | .map => .map none
  | .iface => .nilIface
def ImmL {α : Type} (p : α → List Value → Prop) : List α → List Value → Prop
  | [], cs => cs = []
  | x :: xs, cs => ∃ c r, cs = c ++ r ∧ p x c ∧ ImmL p xs r
def At (w : World) (a : Addr) (cs : List Value) : Prop := ∀ j v, cs[j]? = some v → w.cell? (a.add j) = some v
def ImmSl {α : Type} (w : World) (F : Nat → Prop) (p : α → List Value → Prop) (xs : List α) (a : Option Addr) (len cap : Nat) : Prop :=
  len = xs.length ∧ len ≤ cap ∧ (xs = [] ∨ ∃ ad cs, a = some ad ∧ ad.spot = none ∧ F ad.block ∧ ImmL p xs cs ∧ At w ad cs)
def Imm (w : World) (F : Nat → Prop) : (t : Ty) → t.T → List Value → Prop
  | .int k, n, cs => cs = [.int k n]
  | .bool, b, cs => cs = [.bool b]
  | .str, s, cs => ∃ ba : ByteArray, cs = [.string ba] ∧ ba.data.toList = s
  | .opq z, _, cs => cs = [z.val]
  | .sl e, xs, cs => ∃ a len cap, cs = [.slice a len cap] ∧ ImmSl w F (Imm w F e) xs a len cap
  | .pair a b, x, cs => ∃ c r, cs = c ++ r ∧ Imm w F a x.1 c ∧ Imm w F b x.2 r
  | .unit, _, cs => cs = []
  | .arr n e, xs, cs => List.length xs = n ∧ ImmL (Imm w F e) xs cs
structure Meta where
  blk : Option Nat      -- the block; none: a row without elements that lies nowhere
  len : Nat             -- the elements that are known
  tot : Nat             -- the elements that fit
  ty : Ty
  lt : tot ≤ 9223372036854775807
abbrev Map := Nat → Option Meta
def offP : Ty → List Nat → Nat
  | _, [] => 0
  | .pair a _, 0 :: p => offP a p
  | .pair a b, (n + 1) :: p => a.csz + offP b (n :: p)
  | .arr _ e, i :: p => i * e.csz + offP e p
  | _, _ :: _ => 0
  termination_by structural t => t
def ones : Ty → Prop
  | .pair a b => a.isA = false ∧ ones b
  | .unit => True
  | _ => False
inductive VR (w : World) (F : Nat → Prop) (ρ : Map) : Ty → AV → List Value → Prop
  | d {t : Ty} {x : t.T} {cs} : Imm w F t x cs → VR w F ρ t (.d t x) cs
  | dp {t : Ty} {x : t.T} {cs ad} : F ad.block → ad.spot = none → Imm w F t x cs → At w ad cs → VR w F ρ (.opq .ptr) (.dp t x) [.pointer (some ad)]
  | dx {e : Ty} {xs : List e.T} {a len} : ImmSl w F (Imm w F e) xs a len len → VR w F ρ (.sl e) (.dx e xs) [.slice a len len]
  | nils {e : Ty} : VR w F ρ (.sl e) (.nils e) [.slice none 0 0]
  | vec {id m a} : ρ id = some m → m.len ≤ m.tot →
      (m.tot = 0 ∨ ∃ b, m.blk = some b ∧ a = some ⟨b, 0, none⟩) → VR w F ρ (.sl m.ty) (.vec id) [.slice a m.len m.tot]
  | sl {id m a off len cap cap'} {ex : Bool} : ρ id = some m → len ≤ cap' → cap ≤ cap' → off + cap' ≤ m.tot → off + cap ≤ m.len → (ex = true → cap' = cap) →
      len ≤ cap →
      (cap' = 0 ∨ ∃ b, m.blk = some b ∧ a = some ⟨b, off * m.ty.csz, none⟩) → VR w F ρ (.sl m.ty) (.sl id off len cap ex) [.slice a len cap']
  | ptr {id m b i path} : ρ id = some m → m.blk = some b → VR w F ρ (.opq .ptr) (.ptr id i path) [.pointer (some ⟨b, i * m.ty.csz + offP m.ty path, none⟩)]
  | asl {id m b i path e n} : ρ id = some m → m.blk = some b → VR w F ρ (.sl e) (.asl id i path e n) [.slice (some ⟨b, i * m.ty.csz + offP m.ty path, none⟩) n n]
  | mp {id m b} : ρ id = some m → m.blk = some b → VR w F ρ (.opq .map) (.mp id) [.map (some b)]
  | fn {f first cap tf tc fs cs} : ones tf → ones tc → VR w F ρ tf (.agg first) fs → VR w F ρ tc (.agg cap) cs →
      VR w F ρ (.opq .func) (.fn f first cap) [.func (.func f) fs.toArray cs.toArray]
  | unit : VR w F ρ .unit (.agg []) []
  | pair {a b x l c r} : VR w F ρ a x c → VR w F ρ b (.agg l) r → VR w F ρ (.pair a b) (.agg (x :: l)) (c ++ r)
def toV (t : Ty) (cs : List Value) : Value := if t.isA then .agg cs.toArray else cs.headD undef
def VV1 (w : World) (F : Nat → Prop) (ρ : Map) (v : AV) (c : Value) : Prop :=
  match v with
  | .undef => True
  | .skip => c = undef
  | v => ∃ t cs, VR w F ρ t v cs ∧ c = toV t cs
def VVs (w : World) (F : Nat → Prop) (ρ : Map) : List AV → List Value → Prop
  | [], [] => True
  | v :: l, c :: cs => VV1 w F ρ v c ∧ VVs w F ρ l cs
  | _, _ => False
def VV (w : World) (F : Nat → Prop) (ρ : Map) (v : AV) (c : Value) : Prop :=
  match v with
  | .tup l => ∃ cs, c = .tuple cs.toArray ∧ VVs w F ρ l cs
  | v => VV1 w F ρ v c
def KvR (w : World) (F : Nat → Prop) (t : Ty) : List (Int × t.T) → List MapEntry → Prop
  | [], [] => True
  | p :: r, e :: es => e.key = .int .i64 p.1 ∧ (∃ cs, Imm w F t p.2 cs ∧ e.val = toV t cs) ∧ KvR w F t r es
  | _, _ => False
def HdrOf (m : Meta) (v : Value) : Prop := ∃ a, v = .slice a m.len m.tot ∧ m.len ≤ m.tot ∧ (m.tot = 0 ∨ ∃ b, m.blk = some b ∧ a = some ⟨b, 0, none⟩)
def SlotR (w : World) (F : Nat → Prop) (t : Ty) (ys : List t.T) (v : Value) : Prop :=
  ∃ a cap, v = .slice a ys.length cap ∧ ys.length ≤ cap ∧ cap ≤ 9223372036854775807 ∧
    (cap = 0 ∨ ∃ b c el cs, a = some ⟨b, 0, none⟩ ∧ w.heap[b]? = some (.cells c el (0, 0)) ∧ cap * t.csz ≤ c.size ∧ ImmL (Imm w F t) ys cs ∧ cs <+: c.toList)
def SlotB (v : Value) (b : Nat) : Prop := ∃ a len cap, v = .slice (some a) len cap ∧ a.block = b ∧ cap ≠ 0
def Free (hs : List (Nat × Nat)) (i : Nat) : Prop := ∀ j, (i, j) ∉ hs
def Inner (w : World) (m : Meta) (hs : List (Nat × Nat)) (b : Nat) : Prop :=
  ∃ i blk c el v, m.blk = some blk ∧ w.heap[blk]? = some (.cells c el (0, 0)) ∧ i < m.len ∧ Free hs i ∧ c[i]? = some v ∧ SlotB v b
def ObR (w : World) (F : Nat → Prop) (ρ : Map) (id : Nat) : Ob → Prop
  | .dead => True
  | .row t xs ex => ∃ m, ρ id = some m ∧ m.ty = t ∧ m.len = xs.length ∧ m.len ≤ m.tot ∧ (ex = true → m.tot = m.len) ∧
      ((m.blk = none ∧ m.tot = 0) ∨ ∃ b c el cs, m.blk = some b ∧ w.heap[b]? = some (.cells c el (0, 0)) ∧ m.tot * t.csz ≤ c.size ∧ ImmL (Imm w F t) xs cs ∧ cs <+: c.toList)
  | .one t v => ∃ m b c el, ρ id = some m ∧ m.ty = t ∧ m.blk = some b ∧ m.tot = 1 ∧ m.len = 1 ∧ w.heap[b]? = some (.cells c el (0, 0)) ∧ VR w F ρ t v c.toList
  | .kv t l => ∃ m b es clock, ρ id = some m ∧ m.blk = some b ∧ w.heap[b]? = some (.map es clock) ∧ KvR w F t l es.toList
  | .deep t xs hs => ∃ m, ρ id = some m ∧ m.ty = .sl t ∧ m.len = xs.length ∧ m.len ≤ m.tot ∧
      ((m.blk = none ∧ m.tot = 0) ∨ ∃ b c el, m.blk = some b ∧ w.heap[b]? = some (.cells c el (0, 0)) ∧ m.tot ≤ c.size ∧
        ∀ (i : Nat) (ys : List t.T), xs[i]? = some ys → ∃ v, c[i]? = some v ∧ (Free hs i → SlotR w F t ys v) ∧ ∀ j, (i, j) ∈ hs → ∃ mj, ρ j = some mj ∧ mj.ty = t ∧ HdrOf mj v) ∧
      ∀ blk c el (i i' : Nat) v v' b, m.blk = some blk → w.heap[blk]? = some (.cells c el (0, 0)) → i < m.len → i' < m.len → Free hs i → Free hs i' → c[i]? = some v → c[i']? = some v' → SlotB v b → SlotB v' b → i = i'
def isLive : Ob → Bool
  | .dead => false
  | _ => true
structure St where
  w : World
  F : Nat → Prop
  ρ : Map
  σ : Sto
def holesOf : Ob → Option (List (Nat × Nat))
  | .deep _ _ hs => some hs
  | _ => none
def OwnsO (w : World) (ρ : Map) (id : Nat) (o : Ob) (b : Nat) : Prop :=
  isLive o = true ∧ ∃ m, ρ id = some m ∧ (m.blk = some b ∨ ∃ hs, holesOf o = some hs ∧ Inner w m hs b)
def St.owns (s : St) (id b : Nat) : Prop := OwnsO s.w s.ρ id (Sto.get s.σ id) b
def St.own (s : St) (b : Nat) : Prop := ∃ id, s.owns id b
theorem St.own_of {s : St} {id b : Nat} {m : Meta} (h1 : isLive (Sto.get s.σ id) = true) (h2 : s.ρ id = some m) (h3 : m.blk = some b) : s.own b := ⟨id, h1, m, h2, .inl h3⟩
structure Sim (s : St) : Prop where
  obj : ∀ id, ObR s.w s.F s.ρ id (Sto.get s.σ id)
  sepO : ∀ id id' b, s.owns id b → s.owns id' b → id = id'
  selfO : ∀ id m hs b, isLive (Sto.get s.σ id) = true → s.ρ id = some m → holesOf (Sto.get s.σ id) = some hs → m.blk = some b → ¬ Inner s.w m hs b
  notF : ∀ b, s.own b → ¬ s.F b
  inF : ∀ b, s.F b → b < s.w.heap.size
  dom : ∀ id m, s.ρ id = some m → id < s.σ.length
theorem Sim.sep {s : St} (hS : Sim s) : ∀ id id' m m' b, isLive (Sto.get s.σ id) = true → isLive (Sto.get s.σ id') = true → s.ρ id = some m → s.ρ id' = some m' → m.blk = some b → m'.blk = some b → id = id' :=
  fun id id' m m' b h1 h2 h3 h4 h5 h6 => hS.sepO id id' b ⟨h1, m, h3, .inl h5⟩ ⟨h2, m', h4, .inl h6⟩
structure Keep (O : Nat → Prop) (w w' : World) : Prop where
  os : w'.os = w.os
  tape : w'.tape = w.tape
  output : w'.output = w.output
  size : w.heap.size ≤ w'.heap.size
  block : ∀ k, k < w.heap.size → ¬ O k → w'.heap[k]? = w.heap[k]?
  frz : ∀ a, a.block < w.heap.size → w'.frozen? a = w.frozen? a
structure J (s0 s : St) : Prop where
  keep : Keep s0.own s0.w s.w
  F : ∀ b, s0.F b → s.F b
  Fnew : ∀ b, s.F b → s0.F b ∨ s0.own b ∨ s0.w.heap.size ≤ b
  own : ∀ b, s.own b → s0.own b ∨ s0.w.heap.size ≤ b
  ρ : ∀ id, id < s0.σ.length → s.ρ id = s0.ρ id
  len : s0.σ.length ≤ s.σ.length
theorem Keep.refl (O : Nat → Prop) (w : World) : Keep O w w := ⟨rfl, rfl, rfl, Nat.le_refl _, fun _ _ _ => rfl, fun _ _ => rfl⟩
theorem J.refl (s : St) : J s s := ⟨.refl _ _, fun _ h => h, fun _ h => .inl h, fun _ h => .inl h, fun _ _ => rfl, Nat.le_refl _⟩
theorem J.trans {a b c : St} (h : J a b) (k : J b c) : J a c := by
  refine ⟨⟨k.keep.os.trans h.keep.os, k.keep.tape.trans h.keep.tape, k.keep.output.trans h.keep.output, Nat.le_trans h.keep.size k.keep.size, fun i hi hO => ?_, fun a ha => (k.keep.frz a (Nat.lt_of_lt_of_le ha h.keep.size)).trans (h.keep.frz a ha)⟩, fun x hx => k.F x (h.F x hx), fun x hx => ?_, fun x hx => ?_, fun id hid => ?_, Nat.le_trans h.len k.len⟩
  · rw [k.keep.block i (Nat.lt_of_lt_of_le hi h.keep.size), h.keep.block i hi hO]
    intro ho
    rcases h.own i ho with h1 | h1
    · exact hO h1
    · omega
  · rcases k.Fnew x hx with h1 | h1 | h1
    · exact h.Fnew x h1
    · exact .inr (h.own x h1)
    · exact .inr (.inr (Nat.le_trans h.keep.size h1))
  · rcases k.own x hx with h1 | h1
    · exact h.own x h1
    · exact .inr (Nat.le_trans h.keep.size h1)
  · rw [k.ρ id (Nat.lt_of_lt_of_le hid h.len), h.ρ id hid]
def Same (F : Nat → Prop) (w w' : World) : Prop := ∀ b, F b → w'.heap[b]? = w.heap[b]?
theorem cell_same {w w' : World} {a : Addr} (h : w'.heap[a.block]? = w.heap[a.block]?) : w'.cell? a = w.cell? a := by simp [World.cell?, h]
theorem add_block (a : Addr) (n : Nat) : (a.add n).block = a.block := by unfold Addr.add; split <;> rfl
theorem At.same {w w' : World} {a : Addr} {cs : List Value} (h : At w a cs) (hs : w'.heap[a.block]? = w.heap[a.block]?) : At w' a cs :=
  fun j v hj => (cell_same (by rw [add_block]; exact hs)).trans (h j v hj)
theorem ImmL.mono {α : Type} {p q : α → List Value → Prop} : ∀ {xs : List α} {cs}, (∀ x ∈ xs, ∀ c, p x c → q x c) → ImmL p xs cs → ImmL q xs cs
  | [], _, _, h => h
  | x :: xs, _, hpq, ⟨c, r, e, h1, h2⟩ => ⟨c, r, e, hpq x (by simp) c h1, ImmL.mono (fun y hy => hpq y (by simp [hy])) h2⟩
theorem Imm.mono {w w' : World} {F F' : Nat → Prop} (hs : Same F w w') (hF : ∀ b, F b → F' b) : ∀ {t : Ty} {x : t.T} {cs}, Imm w F t x cs → Imm w' F' t x cs
  | .int _, _, _, h => h
  | .bool, _, _, h => h
  | .str, _, _, h => h
  | .opq _, _, _, h => h
  | .unit, _, _, h => h
  | .sl e, xs, cs, ⟨a, len, cap, e1, h1, h2, h3⟩ => ⟨a, len, cap, e1, h1, h2, h3.imp id fun ⟨ad, cs, e2, h4, h5, h6, h7⟩ =>
      ⟨ad, cs, e2, h4, hF _ h5, ImmL.mono (fun _ _ _ h => Imm.mono hs hF h) h6, h7.same (hs _ h5)⟩⟩
  | .pair a b, x, cs, ⟨c, r, e, h1, h2⟩ => ⟨c, r, e, Imm.mono hs hF h1, Imm.mono hs hF h2⟩
  | .arr n e, xs, cs, ⟨h1, h2⟩ => ⟨h1, ImmL.mono (fun _ _ _ h => Imm.mono hs hF h) h2⟩
theorem ImmSl.mono {w w' : World} {F F' : Nat → Prop} (hs : Same F w w') (hF : ∀ b, F b → F' b) {e : Ty} {xs : List e.T} {a len cap} (h : ImmSl w F (Imm w F e) xs a len cap) :
    ImmSl w' F' (Imm w' F' e) xs a len cap :=
  let ⟨h1, h2, h3⟩ := h
  ⟨h1, h2, h3.imp id fun ⟨ad, cs, e2, h4, h5, h6, h7⟩ => ⟨ad, cs, e2, h4, hF _ h5, ImmL.mono (fun _ _ _ h => Imm.mono hs hF h) h6, h7.same (hs _ h5)⟩⟩
theorem VR.mono {w w' : World} {F F' : Nat → Prop} {ρ ρ' : Map} (hs : Same F w w') (hF : ∀ b, F b → F' b) {t : Ty} {v : AV} {cs} (h : VR w F ρ t v cs)
    (hρ : ∀ id m, ρ id = some m → ρ' id = some m) : VR w' F' ρ' t v cs := by
  induction h with
  | d h => exact .d (h.mono hs hF)
  | dp h1 h2 h3 h4 => exact .dp (hF _ h1) h2 (h3.mono hs hF) (h4.same (hs _ h1))
  | dx h => exact .dx (h.mono hs hF)
  | nils => exact .nils
  | vec h1 h2 h3 => exact .vec (hρ _ _ h1) h2 h3
  | sl h1 h2 h3 h4 h5 h6 h7 h8 => exact .sl (hρ _ _ h1) h2 h3 h4 h5 h6 h7 h8
  | ptr h1 h2 => exact .ptr (hρ _ _ h1) h2
  | asl h1 h2 => exact .asl (hρ _ _ h1) h2
  | mp h1 h2 => exact .mp (hρ _ _ h1) h2
  | fn h1 h2 _ _ i1 i2 => exact .fn h1 h2 i1 i2
  | unit => exact .unit
  | pair _ _ i1 i2 => exact .pair i1 i2
theorem KvR.mono {w w' : World} {F F' : Nat → Prop} (hs : Same F w w') (hF : ∀ b, F b → F' b) {t : Ty} : ∀ {l : List (Int × t.T)} {es}, KvR w F t l es → KvR w' F' t l es
  | [], [], _ => trivial
  | [], _ :: _, h => h.elim
  | _ :: _, [], h => h.elim
  | _ :: _, _ :: _, ⟨h1, ⟨cs, h2, h3⟩, h4⟩ => ⟨h1, ⟨cs, h2.mono hs hF, h3⟩, KvR.mono hs hF h4⟩
theorem VV1.mono {w w' : World} {F F' : Nat → Prop} {ρ ρ' : Map} (hs : Same F w w') (hF : ∀ b, F b → F' b) (hρ : ∀ id m, ρ id = some m → ρ' id = some m) {v : AV} {c : Value} (h : VV1 w F ρ v c) :
    VV1 w' F' ρ' v c := by
  cases v <;> first
    | exact h
    | (obtain ⟨t, cs, h1, h2⟩ := h; exact ⟨t, cs, h1.mono hs hF hρ, h2⟩)
theorem VVs.mono {w w' : World} {F F' : Nat → Prop} {ρ ρ' : Map} (hs : Same F w w') (hF : ∀ b, F b → F' b) (hρ : ∀ id m, ρ id = some m → ρ' id = some m) : ∀ {l : List AV} {cs : List Value}, VVs w F ρ l cs → VVs w' F' ρ' l cs
  | [], [], _ => trivial
  | [], _ :: _, h => h.elim
  | _ :: _, [], h => h.elim
  | v :: l, c :: cs, h => ⟨h.1.mono hs hF hρ, VVs.mono hs hF hρ h.2⟩
theorem VV.mono {w w' : World} {F F' : Nat → Prop} {ρ ρ' : Map} (hs : Same F w w') (hF : ∀ b, F b → F' b) (hρ : ∀ id m, ρ id = some m → ρ' id = some m) {v : AV} {c : Value} (h : VV w F ρ v c) :
    VV w' F' ρ' v c := by
  cases v with
  | tup l => obtain ⟨cs, h1, h2⟩ := h; exact ⟨cs, h1, h2.mono hs hF hρ⟩
  | _ => simp only [VV] at h ⊢; exact VV1.mono hs hF hρ h
theorem J.same {s s' : St} (hS : Sim s) (h : J s s') : Same s.F s.w s'.w := fun b hb =>
  h.keep.block b (hS.inF b hb) fun ho => hS.notF b ho hb
theorem J.map {s s' : St} (hS : Sim s) (h : J s s') : ∀ id m, s.ρ id = some m → s'.ρ id = some m := fun id m hm =>
  (h.ρ id (hS.dom id m hm)).trans hm
theorem J.vv {s s' : St} (hS : Sim s) (h : J s s') {v : AV} {c : Value} (hv : VV s.w s.F s.ρ v c) : VV s'.w s'.F s'.ρ v c :=
  hv.mono (h.same hS) h.F (h.map hS)
theorem ImmL.length {α : Type} {p : α → List Value → Prop} {n : Nat} : ∀ {xs : List α} {cs}, (∀ x c, p x c → c.length = n) → ImmL p xs cs → cs.length = xs.length * n
  | [], _, _, h => by rw [ImmL] at h; subst h; simp
  | x :: xs, _, hp, ⟨c, r, e, h1, h2⟩ => by subst e; rw [List.length_append, hp x c h1, ImmL.length hp h2, List.length_cons, Nat.add_mul]; omega
theorem Imm.length {w : World} {F : Nat → Prop} : ∀ {t : Ty} {x : t.T} {cs}, Imm w F t x cs → cs.length = t.csz
  | .int _, _, _, h => by rw [Imm] at h; subst h; rfl
  | .bool, _, _, h => by rw [Imm] at h; subst h; rfl
  | .str, _, _, ⟨_, h, _⟩ => by subst h; rfl
  | .opq _, _, _, h => by rw [Imm] at h; subst h; rfl
  | .unit, _, _, h => by rw [Imm] at h; subst h; rfl
  | .sl e, xs, cs, ⟨a, len, cap, e1, _⟩ => by subst e1; rfl
  | .pair a b, x, cs, ⟨c, r, e, h1, h2⟩ => by subst e; rw [List.length_append, Imm.length h1, Imm.length h2]; rfl
  | .arr n e, xs, cs, ⟨h1, h2⟩ => by rw [ImmL.length (fun _ _ h => Imm.length h) h2, h1]; rfl
theorem VR.length {w : World} {F : Nat → Prop} {ρ : Map} {t : Ty} {v : AV} {cs} (h : VR w F ρ t v cs) : cs.length = t.csz := by
  induction h with
  | d h => exact h.length
  | pair _ _ i1 i2 => rw [List.length_append, i1, i2]; rfl
  | _ => rfl
end Go.Abs
