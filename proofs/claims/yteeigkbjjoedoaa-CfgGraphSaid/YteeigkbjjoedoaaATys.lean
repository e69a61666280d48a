/- That the codes of types fit the program's own types. -/
import Derived.Shelf.Lays2
import Derived.Test.YteeigkbjjoedoaaARel
import Derived.Laws.Tables
set_option linter.unusedVariables false
namespace Go.Abs
def zcells : Ty → List Value
  | .int k => [.int k 0]
  | .bool => [.bool false]
  | .str => [.string ⟨#[]⟩]
  | .opq z => [z.val]
  | .sl _ => [.slice none 0 0]
  | .pair a b => zcells a ++ zcells b
  | .unit => []
  | .arr n e => (List.replicate n (zcells e)).flatten
def valEq : Value → Value → Bool
  | .int k n, .int k' n' => k == k' && n == n'
  | .bool a, .bool b => a == b
  | .string a, .string b => a.data.toList == b.data.toList
  | .pointer none, .pointer none => true
  | .nilFunc, .nilFunc => true
  | .map none, .map none => true
  | .nilIface, .nilIface => true
  | .slice none 0 0, .slice none 0 0 => true
  | _, _ => false
theorem valEq_eq : ∀ {a b : Value}, valEq a b = true → a = b := by
  intro a b h
  unfold valEq at h
  split at h <;> simp_all
  rename_i a b
  obtain ⟨⟨a⟩⟩ := a
  obtain ⟨⟨b⟩⟩ := b
  simp_all
def valsEq : List Value → List Value → Bool
  | [], [] => true
  | a :: r, b :: s => valEq a b && valsEq r s
  | _, _ => false
theorem valsEq_eq : ∀ {a b : List Value}, valsEq a b = true → a = b
  | [], [], _ => rfl
  | a :: r, b :: s, h => by
    simp only [valsEq, Bool.and_eq_true] at h
    rw [valEq_eq h.1, valsEq_eq h.2]
  | [], _ :: _, h => by simp [valsEq] at h
  | _ :: _, [], h => by simp [valsEq] at h
def Ty.height : Ty → Nat
  | .pair a b => max (a.height + 1) b.height
  | .unit => 1
  | _ => 1
def hdb (P : Program) (ty : Ty) (t : TypeId) : Bool :=
  match P.info? t with
  | some i => i.size == ty.csz &&
    (match i.zero with
      | some (.agg cs) => ty.isA && valsEq cs.toList (zcells ty)
      | some v => !ty.isA && valsEq [v] (zcells ty)
      | none => false)
  | none => false
def nkb : Nk → Option TypeDesc → Bool
  | .ptr, some (.pointer _) => true
  | .func, some (.func _ _ _) => true
  | .map, some (.map _ _) => true
  | .iface, some (.interface _) => true
  | _, _ => false
mutual
def tyb (P : Program) : Ty → TypeId → Bool
  | .int k, t => hdb P (.int k) t && (match P.underlying t with | some (.int k') => k == k' | _ => false)
  | .bool, t => hdb P .bool t && (match P.underlying t with | some .bool => true | _ => false)
  | .str, t => hdb P .str t && (match P.underlying t with | some .string => true | _ => false)
  | .opq z, t => hdb P (.opq z) t && nkb z (P.underlying t)
  | .sl e, t => hdb P (.sl e) t && (match P.underlying t with | some (.slice te) => tyb P e te && !(e.csz == 0) | _ => false)
  | .pair a b, t => hdb P (.pair a b) t && (match P.underlying t with | some (.struct fs) => (match fs.toList with | f :: r => f.offset == 0 && tyb P a f.type && !(a.csz == 0) && !(f.name == "_") && fdb P b r (0 + a.csz) | [] => false) && (!eqOk (.pair a b) || (!(P.stoodInHeld t) && !(P.eqGuardType P.depth t))) | _ => false)
  | .unit, t => hdb P .unit t && (match P.underlying t with | some (.struct fs) => fs.toList.isEmpty | _ => false)
  | .arr n e, t => hdb P (.arr n e) t && (match P.underlying t with | some (.array m te) => (m == n && tyb P e te && !(e.csz == 0)) && (!eqOk (.arr n e) || !(P.eqGuardType P.depth t)) | _ => false)
def fdb (P : Program) : Ty → List Field → Nat → Bool
  | .unit, fs, _ => fs.isEmpty
  | .pair a b, f :: fs, off => f.offset == off && tyb P a f.type && !(a.csz == 0) && !(f.name == "_") && fdb P b fs (off + a.csz)
  | _, _, _ => false
end
structure TyOK (P : Program) (t : TypeId) (ty : Ty) (bytes : Nat) : Prop where
  tok : tyb P ty t = true
  pos : ty.csz ≠ 0
  byt : (P.info? t).map (·.bytes) = some bytes
  bpos : bytes ≠ 0
  hgt : ty.height ≤ 9999
def tyOKb (P : Program) (t : TypeId) (ty : Ty) (bytes : Nat) : Bool :=
  tyb P ty t && !(ty.csz == 0) && (match P.info? t with | some i => i.bytes == bytes | none => false) && !(bytes == 0) && Nat.ble ty.height 9999
theorem TyOK.of {P : Program} {t : TypeId} {ty : Ty} {bytes : Nat} (h : tyOKb P t ty bytes = true) : TyOK P t ty bytes := by
  simp only [tyOKb, Bool.and_eq_true, Bool.not_eq_true', beq_eq_false_iff_ne] at h
  obtain ⟨⟨⟨⟨h1, h2⟩, h3⟩, h4⟩, h5⟩ := h
  refine ⟨h1, h2, ?_, h4, Nat.le_of_ble_eq_true h5⟩
  split at h3
  · rename_i i hi; rw [hi]; simpa using h3
  · simp at h3
def elOKb (P : Program) (t te : TypeId) : Bool :=
  match P.underlying t with
  | some (.slice e) => e == te
  | _ => false
def kvOKb (P : Program) (t te : TypeId) : Bool :=
  match P.underlying t with
  | some (.map k e) => e == te && (match P.underlying k with | some (.int .i64) => true | _ => false)
  | _ => false
theorem kvOK_of {P : Program} {t te : TypeId} (h : kvOKb P t te = true) : ∃ k, P.underlying t = some (.map k te) ∧ P.underlying k = some (.int .i64) := by
  unfold kvOKb at h
  split at h
  · rename_i k e hu
    simp only [Bool.and_eq_true, beq_iff_eq] at h
    obtain ⟨rfl, h2⟩ := h
    split at h2
    · rename_i hk; exact ⟨k, hu, hk⟩
    · cases h2
  · cases h
def InsOK (_ : Program) (_ : FuncId) : Prop := False
structure EnvOK (P : Program) (E : Env) : Prop where
  ty : ∀ t ty b, E.ty t = some (ty, b) → TyOK P t ty b
  elem : ∀ t te, E.elem t = some te → elOKb P t te = true
  kv : ∀ t te, E.kv t = some te → kvOKb P t te = true
  fn : ∀ f fn, E.fn f = some fn → P.funcs[f]? = some fn ∧ (fn.name == "runtime.NumGoroutine") = false
  mix : P.follows .mixedOrders = true
  ext : ∀ f, (E.info f).ext = true → InsOK P f
theorem tyb_hd {P : Program} : ∀ {ty : Ty} {t : TypeId}, tyb P ty t = true → hdb P ty t = true := by
  intro ty t h
  cases ty <;> simp only [tyb, Bool.and_eq_true] at h <;> exact h.1
theorem hdb_info {P : Program} {ty : Ty} {t : TypeId} (h : hdb P ty t = true) : ∃ i, P.info? t = some i ∧ i.size = ty.csz ∧ i.zero = some (toV ty (zcells ty)) := by
  unfold hdb at h
  split at h
  · rename_i i hi
    simp only [Bool.and_eq_true, beq_iff_eq] at h
    refine ⟨i, hi, h.1, ?_⟩
    have h2 := h.2
    split at h2
    · rename_i cs hz
      simp only [Bool.and_eq_true] at h2
      rw [hz, toV, if_pos h2.1, ← valsEq_eq h2.2]
    · rename_i v _ hz
      simp only [Bool.and_eq_true, Bool.not_eq_true'] at h2
      rw [hz, toV, h2.1, ← valsEq_eq h2.2]
      rfl
    · simp at h2
  · simp at h
theorem tyb_info {P : Program} {ty : Ty} {t : TypeId} (h : tyb P ty t = true) : ∃ i, P.info? t = some i ∧ i.size = ty.csz ∧ i.zero = some (toV ty (zcells ty)) := hdb_info (tyb_hd h)
theorem run_sizeOf' {P : Program} {ty : Ty} {t : TypeId} (h : tyb P ty t = true) (w : World) : (sizeOf t).run P w = .ok ty.csz w := by
  obtain ⟨i, hi, hs, _⟩ := tyb_info h
  simp [sizeOf, typeInfo, hi, hs]
theorem run_zeroValue' {P : Program} {ty : Ty} {t : TypeId} (h : tyb P ty t = true) (w : World) : (zeroValue t).run P w = .ok (toV ty (zcells ty)) w := by
  obtain ⟨i, hi, _, hz⟩ := tyb_info h
  simp [zeroValue, typeInfo, hi, hz]
theorem run_isAgg' {P : Program} {ty : Ty} {t : TypeId} (h : tyb P ty t = true) (w : World) : (isAgg t).run P w = .ok ty.isA w := by
  unfold isAgg
  cases ty with
  | opq z =>
    simp only [tyb, Bool.and_eq_true] at h
    obtain ⟨_, h⟩ := h
    unfold nkb at h
    split at h <;> first | (simp at h; done) | (rw [Sem.run_bind, run_underlying (by assumption) w]; rfl)
  | _ =>
    simp only [tyb, Bool.and_eq_true] at h
    obtain ⟨_, h⟩ := h
    split at h <;> first | (simp at h; done) | (rename_i hu; rw [Sem.run_bind, run_underlying hu w]; rfl)
