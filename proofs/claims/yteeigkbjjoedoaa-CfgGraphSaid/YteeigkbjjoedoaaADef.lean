/- The abstract evaluator: pure data by codes, abstract values, a small store, and an evaluator of the model's own Code in continuation style. -/
import Derived.Calls
import Derived.Laws.Sem
import Derived.Laws.World
namespace Go.Abs
noncomputable section
inductive Nk where
  | ptr | func | map | iface
  deriving DecidableEq
inductive Ty where
  | int (k : IntKind) | bool | str | opq (z : Nk) | sl (e : Ty) | pair (a b : Ty) | unit | arr (n : Nat) (e : Ty)
  deriving DecidableEq
def Ty.T : Ty → Type
  | .int _ => Int
  | .bool => Bool
  | .str => List UInt8
  | .opq _ => Unit
  | .sl e => List e.T
  | .pair a b => a.T × b.T
  | .unit => Unit
  | .arr _ e => List e.T
def Ty.csz : Ty → Nat
  | .pair a b => a.csz + b.csz
  | .unit => 0
  | .arr n e => n * e.csz
  | _ => 1
def Ty.isA : Ty → Bool
  | .pair _ _ | .unit | .arr _ _ => true
  | _ => false
def Ty.hasSl : Ty → Bool
  | .sl _ => true
  | .pair a b => a.hasSl || b.hasSl
  | .arr _ e => e.hasSl
  | _ => false
def Ty.flat (t : Ty) : Bool := !t.hasSl
def Ty.zero : (t : Ty) → t.T
  | .int _ => (0 : Int)
  | .bool => false
  | .str => ([] : List UInt8)
  | .opq _ => ()
  | .sl e => ([] : List e.T)
  | .pair a b => (a.zero, b.zero)
  | .unit => ()
  | .arr n e => List.replicate n e.zero
inductive AV where
  | undef                                     -- whatever
  | skip                                      -- what an operation leaves that was not carried out
  | d (t : Ty) (x : t.T)
  | dp (t : Ty) (x : t.T)                     -- a pointer to a place that is never written and holds x
  | dx (e : Ty) (xs : List e.T)               -- a slice of data whose capacity is its length
  | nils (e : Ty)                             -- the nil slice
  | vec (id : Nat)                            -- the slice of a whole row
  | sl (id off len cap : Nat) (ex : Bool)     -- a part of a row; ex: the capacity is known
  | ptr (id i : Nat) (path : List Nat)        -- a place in an object
  | asl (id i : Nat) (path : List Nat) (e : Ty) (n : Nat)   -- a slice over an array in an object
  | mp (id : Nat)
  | agg (l : List AV)                         -- a struct, field by field
  | fn (f : FuncId) (first cap : List AV)
  | tup (l : List AV)
inductive Ob where
  | row (t : Ty) (xs : List t.T) (ex : Bool)  -- ex: no spare capacity
  | one (t : Ty) (v : AV)
  | kv (t : Ty) (l : List (Int × t.T))
  | deep (t : Ty) (xs : List (List t.T)) (hs : List (Nat × Nat))   -- a row of rows that are written; hs: the places that are lent, and to which objects
  | dead
abbrev Fr := List (Nat × AV)
abbrev Sto := List Ob
def Fr.get (fr : Fr) (t : Nat) : AV := List.rec (motive := fun _ => AV) .undef (fun p _ ih => cond (Nat.beq p.1 t) p.2 ih) fr
theorem Fr.get_nil (t : Nat) : Fr.get [] t = .undef := rfl
theorem Fr.get_cons (s : Nat) (v : AV) (r : Fr) (t : Nat) : Fr.get ((s, v) :: r) t = bif Nat.beq s t then v else Fr.get r t := rfl
def Sto.get : Sto → Nat → Ob
  | [], _ => .dead
  | o :: _, 0 => o
  | _ :: r, n + 1 => Sto.get r n
def Sto.put : Sto → Nat → Ob → Sto
  | [], _, _ => []
  | _ :: r, 0, x => x :: r
  | o :: r, n + 1, x => o :: Sto.put r n x
def br {R : Type} (b : Bool) (x y : R) : R := cond b x y
def need {α R : Type} (bot : R) (o : Option α) (K : α → R) : R :=
  match o with
  | some x => K x
  | none => bot
def at? {α : Type} (xs : List α) (i : Int) : Option α := if 0 ≤ i then xs[i.toNat]? else none
def cst {t u : Ty} (h : t = u) (x : t.T) : u.T := h ▸ x
structure Alg where
  R : Type
  bot : Nat → R
  call : FuncId → List AV → Sto → (AV → Sto → R) → R
  loop : (Fr → Sto → (Fr → Sto → R) → R) → ((Exit → Fr → Sto → R) → Fr → Sto → R) → (Exit → Fr → Sto → R) → Fr → Sto → R
  both : R → R → R                             -- whichever of the two it is
  join : ((Exit → Fr → Sto → R) → Fr → Sto → R) → (Exit → Fr → Sto → R) → Fr → Sto → R   -- what comes behind branches
abbrev Alg.nb (A : Alg) : Alg := ⟨A.R, A.bot, A.call, A.loop, fun _ _ => A.bot 947, A.join⟩
structure FnInfo where
  modes : List Nat := []                       -- of its parameters: 0: frozen for the call, 1: shared
  keep : List (Nat × List Nat) := []           -- regions at whose begin the frame is cut down to these slots
  inl : Bool := false                          -- walked into in place
  ext : Bool := false                          -- slices.Insert over whole numbers: by its law
structure Env where
  ty : TypeId → Option (Ty × Nat)              -- the code of a type, and its bytes
  elem : TypeId → Option TypeId                -- the element type of a slice type
  kv : TypeId → Option TypeId
  dp : TypeId → Bool                           -- slices whose elements are slices that are written
  dl : TypeId → Bool                           -- their elements' types
  fn : FuncId → Option Func
  info : FuncId → FnInfo
def isRec : Ty → Bool
  | .pair _ b => isRec b
  | .unit => true
  | _ => false
def zz : Ty → AV × List AV
  | .sl e => (.nils e, [])
  | .pair a b =>
    let l := (zz a).1 :: (zz b).2
    (bif (Ty.pair a b).hasSl && isRec b then .agg l else .d (.pair a b) (Ty.pair a b).zero, l)
  | t => (.d t t.zero, [])
def zeroAV (t : Ty) : AV := (zz t).1
def explode : (t : Ty) → t.T → List AV
  | .pair a b, x => .d a x.1 :: explode b x.2
  | _, _ => []
def toD (σ : Sto) : Nat → (t : Ty) → AV → Option t.T
  | n + 1, t, v =>
    match v with
    | .d u x => if h : u = t then some (cst h x) else none
    | .dx e xs => if h : Ty.sl e = t then some (cst h xs) else none
    | .nils e => if h : Ty.sl e = t then some (cst h ([] : List e.T)) else none
    | .vec id =>
      match Sto.get σ id with
      | .row e xs _ => if h : Ty.sl e = t then some (cst h xs) else none
      | _ => none
    | .sl id off len _ _ =>
      match Sto.get σ id with
      | .row e xs _ => if h : Ty.sl e = t then some (cst h ((xs.drop off).take len)) else none
      | _ => none
    | .agg l =>
      match t, l with
      | .unit, [] => some ()
      | .pair a b, x :: r =>
        match toD σ n a x, toD σ n b (.agg r) with
        | some y, some z => some (y, z)
        | _, _ => none
      | _, _ => none
    | _ => none
  | 0, _, _ => none
def depth : Nat := 40
def packL : List AV → Option ((t : Ty) × t.T)
  | [] => some ⟨.unit, ()⟩
  | .d a x :: r =>
    match packL r with
    | some ⟨b, y⟩ => some ⟨.pair a b, (x, y)⟩
    | none => none
  | _ => none
def mkAgg (l : List AV) : AV :=
  match packL l with
  | some ⟨t, x⟩ => .d t x
  | none => .agg l
def getD {R : Type} (bot : Nat → R) (t : Ty) (x : t.T) (p : List Nat) (K : (u : Ty) → u.T → R) : R :=
  match p with
  | [] => K t x
  | k :: q =>
    match t, x with
    | .pair a b, x => (match k with
      | 0 => getD bot a x.1 q K
      | n + 1 => getD bot b x.2 (n :: q) K)
    | .arr _ e, x => need (bot 1) ((show List e.T from x)[k]?) fun y => getD bot e y q K
    | _, _ => bot 2
  termination_by structural t
def getAV {R : Type} (bot : Nat → R) : Nat → AV → List Nat → (AV → R) → R
  | _, v, [], K => K v
  | n + 1, v, k :: p, K =>
    match v with
    | .d t x => getD bot t x (k :: p) fun u y => K (.d u y)
    | .agg l =>
      match l[k]? with
      | some w => getAV bot n w p K
      | none => (bot 3)
    | _ => (bot 4)
  | 0, _, _ :: _, _ => (bot 5)
def setD {R : Type} (bot : Nat → R) (t : Ty) (x : t.T) (p : List Nat) (u : Ty) (y : u.T) (K : t.T → R) : R :=
  match p with
  | [] => if h : u = t then K (cst h y) else (bot 6)
  | k :: q =>
    match t, x, K with
    | .pair a b, x, K => (match k with
      | 0 => setD bot a x.1 q u y fun z => K (z, x.2)
      | n + 1 => setD bot b x.2 (n :: q) u y fun z => K (x.1, z))
    | .arr _ e, x, K => need (bot 7) ((show List e.T from x)[k]?) fun z => setD bot e z q u y fun z' => K (List.set (show List e.T from x) k z')
    | _, _, _ => bot 8
  termination_by structural t
def placeTy (t : Ty) (p : List Nat) : Option Ty :=
  match p with
  | [] => some t
  | k :: q =>
    match t with
    | .pair a b => (match k with
      | 0 => placeTy a q
      | n + 1 => placeTy b (n :: q))
    | .arr _ e => placeTy e q
    | _ => none
  termination_by structural t
def conf (σ : Sto) : Nat → Ty → AV → Bool
  | n + 1, t, v =>
    match v with
    | .d u _ => u == t
    | .dp _ _ | .ptr _ _ _ => t == .opq .ptr
    | .dx e _ | .nils e => t == .sl e
    | .vec id => match Sto.get σ id with | .row e _ _ => t == .sl e | .deep e _ _ => t == .sl (.sl e) | _ => false
    | .sl id _ _ _ _ => match Sto.get σ id with | .row e _ _ => t == .sl e | _ => false
    | .asl _ _ _ e _ => t == .sl e
    | .fn _ _ _ => t == .opq .func
    | .mp _ => t == .opq .map
    | .agg [] => t == .unit
    | .agg (x :: r) => match t with | .pair a b => conf σ n a x && conf σ n b (.agg r) | _ => false
    | _ => false
  | 0, _, _ => false
def setAV {R : Type} (bot : Nat → R) (σ : Sto) : Nat → Ty → AV → List Nat → AV → (AV → R) → R
  | _, t, _, [], v, K => bif conf σ depth t v then K v else (bot 9)
  | n + 1, t, old, k :: p, v, K =>
    match old with
    | .d u x =>
      match v with
      | .d w y => setD bot u x (k :: p) w y fun z => K (.d u z)
      | _ => bif isRec u then setAVs bot σ n t (explode u x) k p v fun l => K (.agg l) else (bot 902)
    | .agg l => setAVs bot σ n t l k p v fun l => K (.agg l)
    | _ => (bot 10)
  | 0, _, _, _ :: _, _, _ => (bot 11)
  where
  setAVs {R : Type} (bot : Nat → R) (σ : Sto) : Nat → Ty → List AV → Nat → List Nat → AV → (List AV → R) → R
  | n + 1, .pair a _, x :: r, 0, p, v, K => setAV bot σ n a x p v fun z => K (z :: r)
  | n + 1, .pair _ b, x :: r, k + 1, p, v, K => setAVs bot σ n b r k p v fun l => K (x :: l)
  | _, _, _, _, _, _, _ => (bot 12)
def AV.ids : Nat → AV → List Nat
  | n + 1, v =>
    match v with
    | .vec i | .sl i _ _ _ _ | .ptr i _ _ | .asl i _ _ _ _ | .mp i => [i]
    | .agg l | .tup l => l.flatMap (AV.ids n)
    | .fn _ a b => a.flatMap (AV.ids n) ++ b.flatMap (AV.ids n)
    | _ => []
  | 0, _ => []
def Ob.ids : Ob → List Nat
  | .one _ v => v.ids depth
  | .deep _ _ hs => hs.map fun p => p.2
  | _ => []
def mem (i : Nat) : List Nat → Bool
  | [] => false
  | x :: r => bif Nat.beq i x then true else mem i r
def reach (σ : Sto) : Nat → List Nat → List Nat → List Nat
  | n + 1, i :: todo, acc => bif mem i acc then reach σ n todo acc else reach σ n ((Sto.get σ i).ids ++ todo) (acc ++ [i])
  | _, _, acc => acc
def place : List Nat → Nat → Option Nat
  | [], _ => none
  | x :: r, i => bif Nat.beq x i then some 0 else (place r i).map (· + 1)
def AV.ren (g : Nat → Option Nat) : Nat → AV → Option AV
  | n + 1, v =>
    match v with
    | .vec i => (g i).map .vec
    | .sl i o l c e => (g i).map (.sl · o l c e)
    | .ptr i k p => (g i).map (.ptr · k p)
    | .mp i => (g i).map .mp
    | .asl i k p e n => (g i).map (.asl · k p e n)
    | .agg l => (rens g n l).map .agg
    | .tup l => (rens g n l).map .tup
    | .fn f a b =>
      match rens g n a, rens g n b with
      | some a, some b => some (.fn f a b)
      | _, _ => none
    | v => some v
  | 0, _ => none
  where
  rens (g : Nat → Option Nat) : Nat → List AV → Option (List AV)
  | _, [] => some []
  | 0, _ => none
  | n + 1, v :: r =>
    match AV.ren g n v, rens g n r with
    | some v, some r => some (v :: r)
    | _, _ => none
def hsRen (g : Nat → Option Nat) : List (Nat × Nat) → Option (List (Nat × Nat))
  | [] => some []
  | p :: r =>
    match g p.2, hsRen g r with
    | some j, some r => some ((p.1, j) :: r)
    | _, _ => none
def Ob.ren (g : Nat → Option Nat) : Ob → Option Ob
  | .one t v => (v.ren g depth).map (.one t)
  | .deep t xs hs => (hsRen g hs).map (.deep t xs)
  | o => some o
def obsRen (g : Nat → Option Nat) : List Ob → Option (List Ob)
  | [] => some []
  | o :: r =>
    match o.ren g, obsRen g r with
    | some o, some r => some (o :: r)
    | _, _ => none
def nilOb (z : Bool) (e : Ty) : Ob := bif z then (match e with | .sl u => bif u.flat then .deep u [] [] else .row (.sl u) [] false | e => .row e [] false) else .row e [] false
def fill (z : Bool) : Nat → AV → Nat → AV × List Ob
  | k + 1, v, n =>
    match v with
    | .nils e => (.vec n, [nilOb z e])
    | .dx _ _ => (v, [])
    | .agg l => let r := fills z k l n; (.agg r.1, r.2)
    | .tup l => let r := fills z k l n; (.tup r.1, r.2)
    | v => (v, [])
  | 0, v, _ => (v, [])
  where
  fills (z : Bool) : Nat → List AV → Nat → List AV × List Ob
  | 0, l, _ => (l, [])
  | _, [], _ => ([], [])
  | k + 1, v :: r, n =>
    let a := fill z k v n
    let b := fills z k r (n + a.2.length)
    (a.1 :: b.1, a.2 ++ b.2)
def fillObs (z : Bool) : List Ob → Nat → List Ob × List Ob
  | [], _ => ([], [])
  | .one t v :: r, n =>
    let a := fill z depth v n
    let b := fillObs z r (n + a.2.length)
    (.one t a.1 :: b.1, a.2 ++ b.2)
  | o :: r, n => let b := fillObs z r n; (o :: b.1, b.2)
def fillFr (z : Bool) : Fr → Nat → Fr × List Ob
  | [], _ => ([], [])
  | (t, v) :: r, n =>
    let a := fill z depth v n
    let b := fillFr z r (n + a.2.length)
    ((t, a.1) :: b.1, a.2 ++ b.2)
def range0 : Nat → Nat → List Nat
  | _, 0 => []
  | s, n + 1 => s :: range0 (s + 1) n
def prefixOk : Nat → Nat → List Nat → Bool
  | _, 0, _ => true
  | s, n + 1, x :: r => Nat.beq x s && prefixOk (s + 1) n r
  | _, _ + 1, [] => false
def nodupB : List Nat → Bool
  | [] => true
  | x :: r => !mem x r && nodupB r
def renOr (g : Nat → Option Nat) (v : AV) : AV :=
  match v.ren g depth with
  | some v => v
  | none => .undef
def norm {R : Type} (z : Bool) (bot : Nat → R) (m : Nat) (L : List Nat) (fr : Fr) (σ : Sto) (K : Fr → Sto → R) : R :=
  let vals := L.map fun t => (t, Fr.get fr t)
  let rs := reach σ 1000 (((range0 0 m).flatMap fun i => (Sto.get σ i).ids) ++ vals.flatMap fun x => x.2.ids depth) (range0 0 m)
  bif !(nodupB rs && prefixOk 0 m rs) then (bot 934) else
  match obsRen (place rs) (rs.map (Sto.get σ)) with
  | none => (bot 13)
  | some τ =>
    let fr1 := vals.map fun x => (x.1, renOr (place rs) x.2)
    let n := τ.length
    let a := fillFr z fr1 n
    let b := fillObs z τ (n + a.2.length)
    K a.1 (b.1 ++ (a.2 ++ b.2))
def normRet {R : Type} (z : Bool) (bot : Nat → R) (m : Nat) (v : AV) (σ : Sto) (K : AV → Sto → R) : R :=
  let rs := reach σ 1000 (((range0 0 m).flatMap fun i => (Sto.get σ i).ids) ++ v.ids depth) (range0 0 m)
  bif !(nodupB rs && prefixOk 0 m rs) then (bot 935) else
  match obsRen (place rs) (rs.map (Sto.get σ)), v.ren (place rs) depth with
  | some τ, some v =>
    let a := fill z depth v τ.length
    K a.1 (τ ++ a.2)
  | _, _ => (bot 14)
def Ob.weak : Ob → Ob
  | .row t xs _ => .row t xs false
  | o => o
def kill (σ : Sto) : List Nat → Sto
  | [] => σ
  | i :: r => kill (Sto.put σ i .dead) r
def AV.flat : Nat → AV → Bool
  | n + 1, v =>
    match v with
    | .d t _ => t.flat
    | .dp _ _ | .dx _ _ => false
    | .agg l | .tup l => l.all (AV.flat n)
    | .fn _ a b => a.all (AV.flat n) && b.all (AV.flat n)
    | _ => true
  | 0, _ => false
def Ob.flat : Ob → Bool
  | .row t _ _ => t.flat
  | .one _ v => v.flat depth
  | .kv t _ => t.flat
  | .deep t _ _ => t.flat
  | .dead => true
def Ob.ids0 : Ob → List Nat
  | .one _ v => v.ids depth
  | _ => []
def reach0 (σ : Sto) : Nat → List Nat → List Nat → List Nat
  | n + 1, i :: todo, acc => bif mem i acc then reach0 σ n todo acc else reach0 σ n ((Sto.get σ i).ids0 ++ todo) (acc ++ [i])
  | _, _, acc => acc
def close1 (keep : List Nat) (id : Nat) (t : Ty) : List (Nat × Nat) → List (List t.T) → List (Nat × Nat) → Sto → Sto
  | [], xs, hs, σ => Sto.put σ id (.deep t xs hs)
  | p :: r, xs, hs, σ =>
    match Sto.get σ p.2 with
    | .row u ys _ =>
      if h : Ty.sl u = Ty.sl t then
        bif mem p.2 keep || Nat.beq p.2 id then close1 keep id t r xs (hs ++ [p]) σ
        else close1 keep id t r (List.set xs p.1 (cst h ys)) hs (Sto.put σ p.2 .dead)
      else close1 keep id t r xs (hs ++ [p]) σ
    | _ => close1 keep id t r xs (hs ++ [p]) σ
def closeL (keep : List Nat) : List Nat → Sto → Sto
  | [], σ => σ
  | id :: r, σ =>
    match Sto.get σ id with
    | .deep t xs (p :: hs) => closeL keep r (close1 keep id t (p :: hs) xs [] σ)
    | _ => closeL keep r σ
def hasDeep : Sto → Bool
  | [] => false
  | .deep _ _ (_ :: _) :: _ => true
  | _ :: r => hasDeep r
def closeS (m : Nat) (roots : List Nat) (σ : Sto) : Sto :=
  bif hasDeep σ then closeL (reach0 σ 1000 (((range0 0 m).flatMap fun i => (Sto.get σ i).ids0) ++ roots) (range0 0 m)) (range0 0 σ.length) σ else σ
def isLit : AV → Bool
  | .d (.sl _) _ => true
  | .d _ _ | .nils _ | .dp _ _ | .dx _ _ => true
  | _ => false
def bitop (op : BinOp) (k : IntKind) (a b : Int) : Int :=
  let x := BitVec.ofInt k.bits a
  let y := BitVec.ofInt k.bits b
  k.wrap (match op with
    | .and => x &&& y
    | .or => x ||| y
    | .xor => x ^^^ y
    | _ => x &&& ~~~y).toNat
def eqTs {α : Type} (f : α → α → Bool) : List α → List α → Bool
  | [], [] => true
  | x :: r, y :: s => f x y && eqTs f r s
  | _, _ => false
def eqT : (t : Ty) → t.T → t.T → Bool
  | .int _, x, y => @BEq.beq Int _ x y
  | .bool, x, y => @BEq.beq Bool _ x y
  | .str, x, y => @BEq.beq (List UInt8) _ x y
  | .opq _, _, _ => true
  | .sl e, x, y => eqTs (eqT e) x y
  | .pair a b, x, y => eqT a x.1 y.1 && eqT b x.2 y.2
  | .unit, _, _ => true
  | .arr _ e, x, y => eqTs (eqT e) x y
def eqD : (t : Ty) → t.T → t.T → Bool
  | .int _, x, y => @BEq.beq Int _ x y
  | .bool, x, y => @BEq.beq Bool _ x y
  | .str, x, y => @BEq.beq (List UInt8) _ x y
  | .opq _, _, _ => true
  | .sl _, _, _ => false
  | .pair a b, x, y => eqD a x.1 y.1 && eqD b x.2 y.2
  | .unit, _, _ => true
  | .arr n e, x, y => eqT (.arr n e) x y
def eqOk : Ty → Bool
  | .int _ | .bool | .str | .unit => true
  | .arr _ (.int _) | .arr _ .bool | .arr _ .str => true
  | .pair a b => eqOk a && eqOk b
  | _ => false
def nilB : AV → Option Bool
  | .nils _ => some true
  | .d (.opq _) _ => some true
  | .ptr _ _ _ | .dp _ _ | .fn _ _ _ => some false
  | _ => none
def ofConst (e : Option Ty) : Value → AV
  | .int k n => .d (.int k) n
  | .bool b => .d .bool b
  | .string s => .d .str s.data.toList
  | .pointer none => .d (.opq .ptr) ()
  | .nilFunc => .d (.opq .func) ()
  | .map none => .d (.opq .map) ()
  | .nilIface => .d (.opq .iface) ()
  | .slice none 0 0 => match e with | some (.sl e) => .nils e | _ => .undef
  | _ => .undef
def Env.tyOf (E : Env) (t : TypeId) : Option Ty := (E.ty t).map (·.1)
def ev (E : Env) (fr : Fr) (t : Option TypeId) : Operand → AV
  | .tmp s => Fr.get fr s
  | .const v => ofConst (t.bind E.tyOf) v
  | .func f => .fn f [] []
  | .global _ => .undef
def intOp {R : Type} (bot : Nat → R) (op : BinOp) (k : IntKind) (a b : Int) (K : AV → R) : R :=
  match op with
  | .add => K (.d (.int k) (k.wrap (a + b)))
  | .sub => K (.d (.int k) (k.wrap (a - b)))
  | .mul => K (.d (.int k) (k.wrap (a * b)))
  | .quo => br (b == 0) (bot 15) (K (.d (.int k) (k.wrap (a.tdiv b))))
  | .rem => br (b == 0) (bot 16) (K (.d (.int k) (a.tmod b)))
  | .and | .or | .xor | .andNot => K (.d (.int k) (bitop op k a b))
  | .eql => K (.d .bool (a == b))
  | .neq => K (.d .bool (a != b))
  | .lss => K (.d .bool (decide (a < b)))
  | .leq => K (.d .bool (decide (a ≤ b)))
  | .gtr => K (.d .bool (decide (a > b)))
  | .geq => K (.d .bool (decide (a ≥ b)))
  | _ => (bot 17)
def shOp {R : Type} (bot : Nat → R) (op : BinOp) (k : IntKind) (a b : Int) (K : AV → R) : R :=
  match op with
  | .shl => br (decide (b < 0)) (bot 18) (K (.d (.int k) (k.wrap (a * 2 ^ min b.toNat k.bits))))
  | .shr => br (decide (b < 0)) (bot 19) (K (.d (.int k) (a.fdiv (2 ^ min b.toNat k.bits))))
  | _ => (bot 20)
def strOp {R : Type} (bot : Nat → R) (op : BinOp) (a b : List UInt8) (K : AV → R) : R :=
  match op with
  | .eql => K (.d .bool (a == b))
  | .neq => K (.d .bool (!(a == b)))
  | .lss => K (.d .bool (Op.bytesLess a b))
  | .add => br (decide (a.length + b.length ≤ 9223372036854775807)) (K (.d .str (a ++ b))) (bot 21)
  | _ => (bot 22)
def eqK {R : Type} (bot : Nat → R) (x y : AV) (say : Bool → R) : R :=
  match x, y with
  | .d .bool a, .d .bool b => say (@BEq.beq Bool _ a b)
  | .d (.opq .iface) _, _ => (bot 903)
  | _, .d (.opq .iface) _ => (bot 904)
  | .d (.opq _) _, y => match nilB y with | some b => say b | none => (bot 24)
  | x, .d (.opq _) _ => match nilB x with | some b => say b | none => (bot 25)
  | .d t a, .d u b => if h : t = u then bif eqOk u && !(u == .unit) then say (eqD u (cst h a) b) else (bot 27) else (bot 28)
  | _, _ => (bot 29)
def eqTy : Ty → Bool
  | .bool | .opq _ | .pair _ _ | .arr _ _ => true
  | _ => false
def binK {R : Type} (bot : Nat → R) (σ : Sto) (op : BinOp) (ty : Option Ty) (x y : AV) (K : AV → R) : R :=
  match x, y with
  | .d (.int k) a, .d (.int k') b =>
    match op with
    | .shl | .shr => shOp bot op k a b K
    | _ => bif k == k' then intOp bot op k a b K else (bot 23)
  | .d .str a, .d .str b => strOp bot op a b K
  | x, y =>
    match ty with
    | some ty =>
      bif conf σ depth ty x && conf σ depth ty y && eqTy ty then
        match op with
        | .eql => eqK bot x y fun b => K (.d .bool b)
        | .neq => eqK bot x y fun b => K (.d .bool (!b))
        | _ => (bot 30)
      else (bot 31)
    | none => (bot 32)
def isSlTy : Option Ty → Bool
  | some (.sl _) => true
  | _ => false
def slNil {R : Type} (bot : Nat → R) (both : R → R → R) (σ : Sto) (x : AV) (K : Bool → R) : R :=
  match x with
  | .nils _ => K true
  | .d (.sl _) xs => br (List.isEmpty xs) (both (K true) (K false)) (K false)
  | .dx _ xs => br (List.isEmpty xs) (both (K true) (K false)) (K false)
  | .vec id => match Sto.get σ id with | .row _ xs _ => br (List.isEmpty xs) (both (K true) (K false)) (K false) | _ => bot 948
  | .sl _ _ len _ _ => br (decide (len = 0)) (both (K true) (K false)) (K false)
  | _ => bot 948
def slCmp {R : Type} (bot : Nat → R) (both : R → R → R) (σ : Sto) (op : BinOp) (x y : AV) (K : AV → R) : R :=
  match y with
  | .nils _ =>
    match op with
    | .eql => slNil bot both σ x fun b => K (.d .bool b)
    | .neq => slNil bot both σ x fun b => K (.d .bool (!b))
    | _ => bot 949
  | _ => bot 950
def lenK {R : Type} (bot : Nat → R) (σ : Sto) (x : AV) (K : AV → R) : R :=
  let k (n : Nat) : R := K (.d (.int .i64) (n : Int))
  match x with
  | .d (.sl _) xs => k (List.length xs)
  | .d .str s => k (List.length s)
  | .d (.arr n _) _ => k n
  | .dx _ xs => k (List.length xs)
  | .nils _ => k 0
  | .vec id => match Sto.get σ id with | .row _ xs _ => k (List.length xs) | .deep _ xs _ => k (List.length xs) | _ => (bot 31)
  | .sl id _ len _ _ => match Sto.get σ id with | .row _ _ _ => k len | _ => (bot 32)
  | _ => (bot 33)
def capK {R : Type} (bot : Nat → R) (σ : Sto) (x : AV) (K : AV → R) : R :=
  let k (n : Nat) : R := K (.d (.int .i64) (n : Int))
  match x with
  | .dx _ xs => k (List.length xs)
  | .nils _ => k 0
  | .vec id => match Sto.get σ id with | .row _ xs true => k (List.length xs) | _ => (bot 34)
  | .sl id _ _ cap true => match Sto.get σ id with | .row _ _ _ => k cap | _ => (bot 35)
  | _ => (bot 36)
def idxK {R : Type} (bot : Nat → R) (σ : Sto) (x : AV) (i : Int) (K : AV → R) : R :=
  match x with
  | .d (.sl e) xs => need (bot 37) (at? xs i) fun y => K (.dp e y)
  | .dx e xs => need (bot 38) (at? xs i) fun y => K (.dp e y)
  | .vec id => match Sto.get σ id with
    | .row _ xs _ => br (decide (0 ≤ i ∧ i < (List.length xs : Int))) (K (.ptr id i.toNat [])) (bot 39)
    | .deep _ xs _ => br (decide (0 ≤ i ∧ i < (List.length xs : Int))) (K (.ptr id i.toNat [])) (bot 990)
    | _ => (bot 40)
  | .sl id off len _ _ => match Sto.get σ id with
    | .row _ _ _ => br (decide (0 ≤ i ∧ i < (len : Int))) (K (.ptr id (off + i.toNat) [])) (bot 41)
    | _ => (bot 42)
  | .dp (.arr _ e) xs => need (bot 43) (at? (show List e.T from xs) i) fun y => K (.dp e y)
  | _ => (bot 44)
def fieldD {R : Type} (bot : Nat → R) : (t : Ty) → t.T → Nat → ((u : Ty) → u.T → R) → R
  | .pair a _, x, 0, K => K a x.1
  | .pair _ b, x, n + 1, K => fieldD bot b x.2 n K
  | _, _, _, _ => (bot 45)
def loadK {R : Type} (bot : Nat → R) (σ : Sto) (p : AV) (K : AV → R) : R :=
  match p with
  | .dp t x => K (.d t x)
  | .ptr id i path =>
    match Sto.get σ id with
    | .row t xs _ => need (bot 46) xs[i]? fun x => getD bot t x path fun u y => K (.d u y)
    | .one _ v => bif Nat.beq i 0 then getAV bot depth v path K else (bot 47)
    | _ => (bot 48)
  | _ => (bot 49)
def Ob.isDead : Ob → Bool
  | .dead => true
  | _ => false
def dropK {R : Type} (bot : Nat → R) (σ : Sto) (i : Nat) : List (Nat × Nat) → List (Nat × Nat) → (List (Nat × Nat) → R) → R
  | [], acc, K => K acc
  | p :: r, acc, K => br (decide (i = p.1)) (dropK bot σ i r acc K) (bif (Sto.get σ p.2).isDead then bot 1020 else dropK bot σ i r (acc ++ [p]) K)
def slotK {R : Type} (bot : Nat → R) (σ : Sto) (id i : Nat) (t : Ty) (xs : List (List t.T)) (hs : List (Nat × Nat)) (v : AV) (K : Sto → R) : R :=
  need (bot 992) (xs[i]?) fun _ =>
  match v with
  | .vec j =>
    match Sto.get σ j with
    | .row u _ _ => bif u == t && !Nat.beq j id then dropK bot σ i hs [] fun hs => K (Sto.put σ id (.deep t xs ((i, j) :: hs))) else (bot 993)
    | _ => (bot 994)
  | .nils u => bif u == t then dropK bot σ i hs [] fun hs => K (Sto.put σ id (.deep t (List.set xs i []) hs)) else (bot 995)
  | _ => (bot 996)
def borrowK {R : Type} (bot : Nat → R) (σ : Sto) (id i : Nat) (t : Ty) (xs : List (List t.T)) (hs : List (Nat × Nat)) (K : AV → Sto → R) : List (Nat × Nat) → R
  | [] => need (bot 997) (xs[i]?) fun ys => K (.vec σ.length) (Sto.put σ id (.deep t xs ((i, σ.length) :: hs)) ++ [.row t ys false])
  | p :: r => br (decide (i = p.1)) (K (.vec p.2) σ) (borrowK bot σ id i t xs hs K r)
def storeK {R : Type} (bot : Nat → R) (σ : Sto) (p v : AV) (K : Sto → R) : R :=
  match p with
  | .ptr id i path =>
    match Sto.get σ id with
    | .row t _ _ =>
      match placeTy t path with
      | some u =>
        match toD σ depth u v with
        | some y =>
          let σ' := kill σ (v.ids depth)
          match Sto.get σ' id with
          | .row t xs ex => need (bot 50) xs[i]? fun x => setD bot t x path u y fun z => K (Sto.put σ' id (.row t (xs.set i z) ex))
          | _ => (bot 51)
        | none => (bot 52)
      | none => (bot 53)
    | .one t old => bif Nat.beq i 0 then setAV bot σ depth t old path v fun w => K (Sto.put σ id (.one t w)) else (bot 54)
    | .deep t xs hs => match path with | [] => slotK bot σ id i t xs hs v K | _ :: _ => (bot 991)
    | _ => (bot 55)
  | _ => (bot 56)
def roomB (n bytes : Nat) : Bool := decide (n * bytes ≤ 140737488355328)
def newRow {R : Type} (σ : Sto) (e : Ty) (xs : List e.T) (ex : Bool) (K : AV → Sto → R) : R := K (.vec σ.length) (σ ++ [.row e xs ex])
def appK {R : Type} (bot : Nat → R) (both : R → R → R) (σ : Sto) (e : Ty) (bytes : Nat) (s : AV) (ys : List e.T) (K : AV → Sto → R) : R :=
  match s with
  | .nils u => bif u == e then br ys.isEmpty (K s σ) (br (roomB ys.length bytes) (newRow σ e ys false K) (bot 57)) else (bot 58)
  | .dx u xs =>
    if h : Ty.sl u = Ty.sl e then
      let l : List e.T := cst h xs
      br ys.isEmpty (K s σ) (br (roomB (l.length + ys.length) bytes) (newRow σ e (l ++ ys) false K) (bot 59))
    else (bot 60)
  | .vec id =>
    match Sto.get σ id with
    | .row u xs ex =>
      if h : Ty.sl u = Ty.sl e then
        let l : List e.T := cst h xs
        br ys.isEmpty (K s σ) (br (roomB (l.length + ys.length) bytes) (newRow (bif ex then σ else Sto.put σ id .dead) e (l ++ ys) false K) (bot 61))
      else (bot 62)
    | _ => (bot 63)
  | .sl id off len cap ex =>
    match Sto.get σ id with
    | .row u xs rx =>
      if h : Ty.sl u = Ty.sl e then
        let l : List e.T := cst h xs
        br (decide (len + ys.length ≤ cap))
          (K (.sl id off (len + ys.length) cap ex) (Sto.put σ id (.row e (l.take (off + len) ++ ys ++ l.drop (off + len + ys.length)) rx)))
          (br (roomB (len + ys.length) bytes)
            (bif ex then newRow σ e ((l.drop off).take len ++ ys) false K
             else br (decide (off = 0)) (newRow (Sto.put σ id .dead) e (l.take len ++ ys) false K)
               (both (newRow (Sto.put σ id .dead) e ((l.drop off).take len ++ ys) false K)
                 (K (.sl σ.length off (len + ys.length) (len + ys.length) false) (Sto.put σ id .dead ++ [.row e (l.take (off + len) ++ ys) false])))) (bot 65))
      else (bot 66)
    | _ => (bot 67)
  | _ => (bot 68)
def appZ {R : Type} (bot : Nat → R) (σ : Sto) (e : Ty) (bytes : Nat) (s x : AV) (K : AV → Sto → R) : R :=
  match s, x with
  | .nils u, .d (.int _) n => bif u == e then br (decide (0 < (show Int from n) ∧ (show Int from n) * bytes ≤ 140737488355328)) (newRow σ e (List.replicate (show Int from n).toNat e.zero) false K) (bot 1022) else (bot 1021)
  | _, _ => (bot 1023)
def intTy : Option Ty → Bool
  | some (.int _) => true
  | _ => false
def deepHs (σ : Sto) (u : Ty) (n : Nat) : List (Nat × AV) → Option (List (Nat × Nat))
  | [] => some []
  | p :: r =>
    match p.2 with
    | .vec j =>
      match Sto.get σ j, deepHs σ u n r with
      | .row w _ _, some hs => bif w == u && Nat.blt p.1 n then some ((p.1, j) :: hs) else none
      | _, _ => none
    | .nils w => bif w == u && Nat.blt p.1 n then deepHs σ u n r else none
    | _ => none
def shiftH (n : Nat) : List (Nat × Nat) → List (Nat × Nat)
  | [] => []
  | p :: r => ((n + p.1), p.2) :: shiftH n r
def ltK {R : Type} (bot : Nat → R) (n : Nat) (K : R) : List (Nat × Nat) → R
  | [] => K
  | p :: r => br (decide (p.1 < n)) (ltK bot n K r) (bot 1017)
def appD {R : Type} (bot : Nat → R) (σ : Sto) (u : Ty) (bytes : Nat) (s x : AV) (K : AV → Sto → R) : R :=
  match x with
  | .vec id2 =>
    match Sto.get σ id2 with
    | .deep u2 ys hy =>
      if h2 : Ty.sl (.sl u2) = Ty.sl (.sl u) then
        let ys : List (List u.T) := cst h2 ys
        (match s with
        | .nils w => bif w == .sl u then br (List.isEmpty ys) (K s σ) (br (roomB (List.length ys) bytes) (K (.vec σ.length) (Sto.put σ id2 .dead ++ [.deep u ys hy])) (bot 1002)) else (bot 1003)
        | .vec id =>
          match Sto.get σ id with
          | .deep u1 xs hx =>
            if h1 : Ty.sl (.sl u1) = Ty.sl (.sl u) then
              let xs : List (List u.T) := cst h1 xs
              bif Nat.beq id id2 then (bot 1004) else
              br (List.isEmpty ys) (K s σ) (br (roomB ((List.length xs) + (List.length ys)) bytes) (ltK bot (List.length xs) (K (.vec σ.length) (Sto.put (Sto.put σ id .dead) id2 .dead ++ [.deep u (xs ++ ys) (hx ++ shiftH (List.length xs) hy)])) hx) (bot 1005))
            else (bot 1006)
          | _ => (bot 1007)
        | _ => (bot 1008))
      else (bot 1009)
    | _ => (bot 1010)
  | _ => (bot 1011)
def srcK {R : Type} (bot : Nat → R) (σ : Sto) (e : Ty) (x : AV) (K : List e.T → R) : R :=
  match x with
  | .d .str s => if h : Ty.sl (.int .u8) = Ty.sl e then K (cst h (List.map (fun b : UInt8 => (b.toNat : Int)) s)) else (bot 69)
  | .asl id i path el n => loadK bot σ (.ptr id i path) fun u =>
    match u with
    | .d (.arr n' e') ys => bif decide (n' = n) && e' == el then (if h : Ty.sl e' = Ty.sl e then K (cst h (show List e'.T from ys)) else (bot 961)) else (bot 962)
    | _ => (bot 963)
  | x => match toD σ depth (.sl e) x with | some ys => K ys | none => (bot 70)
def putRow {R : Type} (bot : Nat → R) (σ : Sto) (e : Ty) (dst : AV) (f : Nat → List e.T) (K : Nat → Sto → R) : R :=
  match dst with
  | .nils _ => K 0 σ
  | .vec id =>
    match Sto.get σ id with
    | .row u xs rx =>
      if h : Ty.sl u = Ty.sl e then
        let l : List e.T := cst h xs
        let ys := f l.length
        K ys.length (Sto.put σ id (.row e (ys ++ l.drop ys.length) rx))
      else (bot 71)
    | _ => (bot 72)
  | .sl id off len _ _ =>
    match Sto.get σ id with
    | .row u xs rx =>
      if h : Ty.sl u = Ty.sl e then
        let l : List e.T := cst h xs
        let ys := f len
        K ys.length (Sto.put σ id (.row e (l.take off ++ ys ++ l.drop (off + ys.length)) rx))
      else (bot 73)
    | _ => (bot 74)
  | _ => (bot 75)
def sliceK {R : Type} (bot : Nat → R) (σ : Sto) (x : AV) (lo hi mx : Option Int) (K : AV → R) : R :=
  let l := lo.getD 0
  match x with
  | .d .str s =>
    let n : Int := (List.length s : Int)
    let h := hi.getD n
    match mx with
    | some _ => (bot 76)
    | none => br (decide (0 ≤ l ∧ l ≤ h ∧ h ≤ n)) (K (.d .str ((List.take h.toNat s).drop l.toNat))) (bot 77)
  | .d (.sl e) xs =>
    let n : Int := (List.length xs : Int)
    let h := hi.getD n
    let r : List e.T := (List.take h.toNat xs).drop l.toNat
    match mx with
    | some m => br (decide (0 ≤ l ∧ l ≤ h ∧ h ≤ m ∧ m ≤ n)) (br (h == m) (K (.dx e r)) (K (.d (.sl e) r))) (bot 78)
    | none => br (decide (0 ≤ l ∧ l ≤ h ∧ h ≤ n)) (K (.d (.sl e) r)) (bot 79)
  | .dx e xs =>
    let n : Int := (List.length xs : Int)
    let h := hi.getD n
    let r : List e.T := (List.take h.toNat xs).drop l.toNat
    let m := mx.getD n
    br (decide (0 ≤ l ∧ l ≤ h ∧ h ≤ m ∧ m ≤ n)) (br (h == m) (K (.dx e r)) (K (.d (.sl e) r))) (bot 80)
  | .nils _ =>
    let h := hi.getD 0
    let m := mx.getD 0
    br (decide (l = 0 ∧ h = 0 ∧ m = 0)) (K x) (bot 81)
  | .vec id =>
    match Sto.get σ id with
    | .row _ xs ex =>
      let n : Int := (List.length xs : Int)
      let h := hi.getD n
      let m := mx.getD n
      match lo, hi, mx with
      | none, none, none => K x
      | _, _, _ => br (decide (0 ≤ l ∧ l ≤ h ∧ h ≤ m ∧ m ≤ n)) (K (.sl id l.toNat (h - l).toNat (m - l).toNat (ex || mx.isSome))) (bot 82)
    | _ => (bot 83)
  | .sl id off len cap ex =>
    match Sto.get σ id with
    | .row _ _ _ =>
      let h := hi.getD len
      let m := mx.getD cap
      br (decide (0 ≤ l ∧ l ≤ h ∧ h ≤ m ∧ m ≤ (cap : Int))) (K (.sl id (off + l.toNat) (h - l).toNat (m - l).toNat (ex || mx.isSome))) (bot 84)
    | _ => (bot 85)
  | _ => (bot 86)
def intOf : AV → Option Int
  | .d (.int _) n => some n
  | _ => none
def optI {R : Type} (bot : Nat → R) (E : Env) (fr : Fr) (x : Option Operand) (K : Option Int → R) : R :=
  match x with
  | none => K none
  | some o => match intOf (ev E fr none o) with | some n => K (some n) | none => (bot 87)
def setL : List AV → Nat → AV → List AV
  | [], _, _ => []
  | _ :: r, 0, v => v :: r
  | x :: r, n + 1, v => x :: setL r n v
def fillL (l : List AV) : List (Nat × AV) → List AV
  | [] => l
  | (i, v) :: r => fillL (setL l i v) r
def obTy : Ob → Option Ty
  | .row t _ _ => some t
  | .one t _ => some t
  | _ => none
def fieldTy : Ty → Nat → Option Ty
  | .pair a _, 0 => some a
  | .pair _ b, n + 1 => fieldTy b n
  | _, _ => none
def litD (σ : Sto) (e : Ty) : List e.T → List (Nat × AV) → Option (List e.T)
  | l, [] => some l
  | l, (i, v) :: r =>
    match toD σ depth e v with
    | some x => bif Nat.blt i l.length then litD σ e (l.set i x) r else none
    | none => none
def boolOf : AV → Option Bool
  | .d .bool b => some b
  | _ => none
def maxI (a b : Int) : Int := if b > a then b else a
def minI (a b : Int) : Int := if b < a then b else a
def handArg (E : Env) (σ : Sto) (mode : Nat) (t : Option TypeId) (v : AV) : AV × Bool × List Nat :=
  match mode, t.bind E.tyOf with
  | 0, some ty =>
    match toD σ depth ty v with
    | some x =>
      match v with
      | .d _ _ | .nils _ | .dx _ _ => (.d ty x, false, [])
      | _ => bif ty.flat then (.d ty x, false, []) else (.d ty x, true, v.ids depth)
    | none => (v, false, [])
  | _, _ => (v, false, [])
def handArgs (E : Env) (σ : Sto) : List Nat → List TypeId → List AV → List (AV × Bool × List Nat)
  | _, _, [] => []
  | ms, ts, v :: r => handArg E σ (ms.headD 0) ts.head? v :: handArgs E σ ms.tail ts.tail r
def putBack (σ : Sto) : List Nat → List Ob → Sto
  | [], τ => σ ++ τ
  | _, [] => σ
  | i :: r, o :: τ => putBack (Sto.put σ i o) r τ
def msOf (E : Env) (σ : Sto) (ms : List Nat) (ts : List TypeId) (args : List AV) : List Nat :=
  let hs := handArgs E σ ms ts args
  bif (hs.flatMap (·.2.2)).all fun i => !mem i (reach σ 1000 ((hs.map (·.1)).flatMap (AV.ids depth)) []) then ms else args.map fun _ => 1
def callM (A : Alg) (E : Env) (f : FuncId) (fn : Func) (ms : List Nat) (args : List AV) (σ : Sto) (K : AV → Sto → A.R) : A.R :=
    let hs := handArgs E σ ms fn.params.toList args
    let vs := hs.map (·.1)
    let lent := hs.any (·.2.1)
    let L := reach σ 1000 (vs.flatMap (AV.ids depth)) []
    bif !(nodupB L && (L.all fun i => Nat.blt i σ.length) && (hs.flatMap (·.2.2)).all fun i => !mem i L) then (A.bot 932) else
    match obsRen (place L) (L.map (Sto.get σ)), AV.ren (place L) depth (.tup vs) with
    | some τ, some (.tup vs) =>
      A.call f vs τ fun v τ' =>
        bif !lent || (v.flat depth && τ'.all Ob.flat) then
          let M := L ++ range0 σ.length (τ'.length - L.length)
          match obsRen (M[·]?) τ', v.ren (M[·]?) depth with
          | some τ', some v => K v (putBack σ L τ')
          | _, _ => (A.bot 89)
        else (A.bot 90)
    | _, _ => (A.bot 91)
def Ty.flat2 : Ty → Bool
  | .sl e => !e.hasSl
  | .pair a b => a.flat2 && b.flat2
  | .arr _ e => !e.hasSl
  | _ => true
def giveB (E : Env) (fn : Func) (hs : List (AV × Bool × List Nat)) (σ : Sto) : Bool :=
  hs.any (·.2.1) && !((fn.resultTypes.toList.all fun t => match E.tyOf t with | some ty => ty.flat2 | none => true) && (reach σ 1000 ((hs.map (·.1)).flatMap (AV.ids depth)) []).all fun i => (Sto.get σ i).flat)
def settle1 (σ0 : Sto) (ids : List Nat) (o : Ob) : Ob :=
  match o with
  | .one t v => bif !(v.ids depth).isEmpty && (v.ids depth).all (fun i => mem i ids) then (match toD σ0 depth t v with | some y => .one t (.d t y) | none => .one t v) else .one t v
  | o => o
def settle (σ0 : Sto) (ids : List Nat) (σ : Sto) : Sto := σ.map (settle1 σ0 ids)
def callK (A : Alg) (E : Env) (f : FuncId) (args : List AV) (σ : Sto) (K : AV → Sto → A.R) : A.R :=
  match E.fn f with
  | none => (A.bot 88)
  | some fn =>
    let ms := msOf E σ (E.info f).modes fn.params.toList args
    let hs := handArgs E σ ms fn.params.toList args
    bif giveB E fn hs σ then callM A E f fn (args.map fun _ => 1) (hs.map (·.1)) (settle σ (hs.flatMap (·.2.2)) (kill σ (hs.flatMap (·.2.2)))) K
    else callM A E f fn ms args σ K
abbrev Inl (R : Type) := FuncId → List AV → Sto → (AV → Sto → R) → R
def srcTy : Option Ty → Bool
  | some (.sl _) => true
  | some .str => true
  | _ => false
def builtinK (A : Alg) (E : Env) (b : Builtin) (argTypes : List TypeId) (args : List AV) (σ : Sto) (K : AV → Sto → A.R) : A.R :=
  match b, argTypes, args with
  | .len, [t], [x] => bif !(match E.tyOf t with | some ty => conf σ depth ty x | none => false) then (A.bot 922) else lenK A.bot σ x fun v => K v σ
  | .cap, [t], [x] => bif !(match E.tyOf t with | some ty => conf σ depth ty x | none => false) then (A.bot 923) else capK A.bot σ x fun v => K v σ
  | .max, _, .d (.int k) a :: r => foldI maxI k a r fun v => K v σ
  | .min, _, .d (.int k) a :: r => foldI minI k a r fun v => K v σ
  | .append, [t, t2], [s, x] =>
    bif !(srcTy (E.tyOf t2)) then
      (bif intTy (E.tyOf t2) && !E.dp t then (match (E.elem t).bind E.ty with | some (e, bytes) => appZ A.bot σ e bytes s x K | none => A.bot 1024) else A.bot 924) else
    match (E.elem t).bind E.ty with
    | some (e, bytes) => bif E.dp t then (match e with | .sl u => appD A.bot σ u bytes s x K | _ => A.bot 1012) else srcK A.bot σ e x fun ys => appK A.bot A.both σ e bytes s ys K
    | none => (A.bot 92)
  | .copy, [t, t2], [dst, src] =>
    bif !(srcTy (E.tyOf t2)) then (A.bot 925) else
    match (E.elem t).bind E.ty with
    | some (e, _) => srcK A.bot σ e src fun ys => putRow A.bot σ e dst (fun n => ys.take n) fun n σ' => K (.d (.int .i64) (n : Int)) σ'
    | none => (A.bot 93)
  | .clear, [t], [x] =>
    match (E.elem t).bind E.ty with
    | some (e, _) => putRow A.bot σ e x (fun n => List.replicate n e.zero) fun _ σ' => K (.tup []) σ'
    | none => (A.bot 94)
  | _, _, _ => (A.bot 95)
  where
  foldI (f : Int → Int → Int) (k : IntKind) (a : Int) : List AV → (AV → A.R) → A.R
  | [], K => K (.d (.int k) a)
  | .d (.int k') b :: r, K => bif k == k' then foldI f k (f a b) r K else (A.bot 96)
  | _, _ => (A.bot 97)
def noTup : AV → AV
  | .tup _ => .undef
  | v => v
def evs (E : Env) (fr : Fr) : List Operand → List TypeId → List AV
  | [], _ => []
  | o :: r, ts => noTup (ev E fr ts.head? o) :: evs E fr r ts.tail
def insA {R : Type} (bot : Nat → R) (σ : Sto) (ys : List Int) (i : Int) (K : AV → Sto → R) : R :=
  br (decide (i = 0)) (br (roomB (List.length ys) 8) (newRow σ (.int .i64) ys false K) (bot 952)) (bot 953)
def insB {R : Type} (bot : Nat → R) (σ : Sto) (id : Nat) (xs ys : List Int) (i : Int) (K : AV → Sto → R) : R :=
  br (decide (0 ≤ i ∧ i ≤ (List.length xs : Int))) (br (roomB (List.length xs + List.length ys) 8) (newRow (Sto.put σ id .dead) (.int .i64) (List.take i.toNat xs ++ ys ++ List.drop i.toNat xs) false K) (bot 955)) (bot 956)
def insK {R : Type} (bot : Nat → R) (σ : Sto) (args : List AV) (K : AV → Sto → R) : R :=
  match args with
  | [s, .d (.int .i64) i, .vec v] =>
    match Sto.get σ v with
    | .row (.int .i64) ys _ =>
      br (List.isEmpty ys) (bot 951)
        (match s with
        | .nils (.int .i64) => insA bot σ ys i K
        | .vec id =>
          bif Nat.beq id v then bot 954 else
          match Sto.get σ id with
          | .row (.int .i64) xs _ => insB bot σ id xs ys i K
          | _ => bot 957
        | _ => bot 958)
    | _ => bot 959
  | _ => bot 960
def callV (A : Alg) (E : Env) (inl : Inl A.R) (v : AV) (args : List AV) (σ : Sto) (K : AV → Sto → A.R) : A.R :=
  match v with
  | .fn f first cap =>
    bif !(match E.fn f with | some fn => fn.body.isSome | none => false) then (A.bot 933) else
    bif (E.info f).ext then insK A.bot σ (first ++ args ++ cap) K else
    bif (E.info f).inl then inl f (first ++ args ++ cap) σ K else callK A E f (first ++ args ++ cap) σ K
  | _ => (A.bot 98)
def single : AV → Bool
  | .d t _ => !t.isA
  | .undef | .skip | .agg _ | .tup _ => false
  | _ => true
def idxOk (σ : Sto) : Option Ty → AV → Bool
  | some ty, .dp u _ => match ty with | .arr n el => u == .arr n el | _ => false
  | some ty, x => conf σ depth ty x
  | none, _ => false
def mget {α : Type} : List (Int × α) → Int → Option α
  | [], _ => none
  | p :: r, k => bif @BEq.beq Int _ p.1 k then some p.2 else mget r k
def mval {α : Type} (z : α) (l : List (Int × α)) (k : Int) : α := match mget l k with | some x => x | none => z
def mhas {α : Type} (l : List (Int × α)) (k : Int) : Bool := (mget l k).isSome
def mput {α : Type} : List (Int × α) → Int → α → List (Int × α)
  | [], k, x => [(k, x)]
  | p :: r, k, x => bif @BEq.beq Int _ p.1 k then (k, x) :: r else p :: mput r k x
def lookK {R : Type} (bot : Nat → R) (σ : Sto) (u : Ty) (id : Nat) (k : Int) (ok : Bool) (K : AV → R) : R :=
  match Sto.get σ id with
  | .kv t l => bif t == u then (bif ok then K (.tup [.d t (mval t.zero l k), .d .bool (mhas l k)]) else K (.d t (mval t.zero l k))) else (bot 973)
  | _ => (bot 974)
def mputK {R : Type} (bot : Nat → R) (σ : Sto) (u : Ty) (id : Nat) (k : Int) (w : Ty) (y : w.T) (K : Sto → R) : R :=
  match Sto.get σ id with
  | .kv t l => bif t == u then (if h : w = t then K (Sto.put σ id (.kv t (mput l k (cst h y)))) else (bot 975)) else (bot 976)
  | _ => (bot 977)
def opK (A : Alg) (E : Env) (inl : Inl A.R) (o : Oper) (fr : Fr) (σ : Sto) (K : AV → Sto → A.R) : A.R :=
  let bot := A.bot
  let e (t : Option TypeId) (x : Operand) := ev E fr t x
  match o.op with
  | .move x | .assign x => K (e (some o.type) x) σ
  | .pick c a b =>
    match boolOf (e none c) with
    | some c => br c (K (e (some o.type) a) σ) (K (e (some o.type) b) σ)
    | none => (bot 99)
  | .alloc t =>
    match E.ty t with
    | some (ty, _) => K (.ptr σ.length 0 []) (σ ++ [.one ty (zeroAV ty)])
    | none => (bot 100)
  | .box t x =>
    match E.ty t with
    | some (ty, _) =>
      let v := e (some t) x
      bif conf σ depth ty v then K (.ptr σ.length 0 []) (σ ++ [.one ty v]) else (bot 101)
    | none => (bot 102)
  | .build t parts =>
    match E.ty t with
    | some (.arr n el, _) =>
      bif el.flat then
        match litD σ el (List.replicate n el.zero) (parts.toList.map fun p => (p.1, e none p.2)) with
        | some l => K (.d (.arr n el) l) σ
        | none => (bot 103)
      else (bot 930)
    | some (ty, _) =>
      let ps := parts.toList.map fun p => (p.1, e none p.2)
      bif isRec ty && ps.all (fun p => match fieldTy ty p.1 with | some u => conf σ depth u p.2 | none => false) then
        K (mkAgg (fillL (match zeroAV ty with | .agg l => l | .d u x => explode u x | _ => []) ps)) σ
      else (bot 104)
    | none => (bot 105)
  | .buildSlice t n parts =>
    match E.elem t, (E.elem t).bind E.ty with
    | some te, some (el, _) =>
      let vs := parts.toList.map fun p => (p.1, e (some te) p.2)
      bif E.dp t then
        (match el with
        | .sl u =>
          bif !(nodupB (vs.map fun p => p.1) && Nat.ble n 16777216) then (bot 1013) else
          (match deepHs σ u n vs with
          | some hs => K (.vec σ.length) (σ ++ [.deep u (List.replicate n ([] : List u.T)) hs])
          | none => (bot 1014))
        | _ => (bot 1015))
      else
      bif Nat.ble (n * el.csz) 16777216 then
        match litD σ el (List.replicate n el.zero) vs with
        | some l => newRow (kill σ (vs.flatMap fun p => p.2.ids depth)) el l true K
        | none => (bot 106)
      else (bot 931)
    | _, _ => (bot 107)
  | .load t a =>
    match E.tyOf t with
    | some ty =>
      bif E.dl t then
        (match e none a with
        | .ptr id i [] =>
          (match Sto.get σ id with
          | .deep u xs hs => bif ty == .sl u then need (bot 1016) (xs[i]?) fun _ => borrowK bot σ id i u xs hs K hs else (bot 998)
          | _ => loadK bot σ (e none a) fun v => bif conf σ depth ty v then K v σ else (bot 910))
        | _ => loadK bot σ (e none a) fun v => bif conf σ depth ty v then K v σ else (bot 910))
      else loadK bot σ (e none a) fun v => bif conf σ depth ty v then K v σ else (bot 910)
    | none => (bot 911)
  | .store t a x =>
    match E.tyOf t with
    | some ty => let v := e (some t) x; bif conf σ depth ty v then storeK bot σ (e none a) v fun σ' => K .undef σ' else (bot 912)
    | none => (bot 913)
  | .nilCheck x =>
    match e none x with
    | .ptr i k p => K (.ptr i k p) σ
    | .dp t x => K (.dp t x) σ
    | .fn f a b => K (.fn f a b) σ
    | _ => (bot 108)
  | .binOp op xt x y yt => bif isSlTy (E.tyOf xt) then slCmp bot A.both σ op (e (some xt) x) (e (some yt) y) fun v => K v σ else binK bot σ op (E.tyOf xt) (e (some xt) x) (e (some yt) y) fun v => K v σ
  | .unOp op _ x =>
    match op, e none x with
    | .not, .d .bool b => K (.d .bool (!b)) σ
    | .neg, .d (.int k) n => intOp bot .sub k 0 n fun v => K v σ
    | .xor, .d (.int k) n => intOp bot .xor k (if k.signed then -1 else k.max) n fun v => K v σ
    | _, _ => (bot 109)
  | .convert src dst x =>
    match E.tyOf src, E.tyOf dst, e none x with
    | some _, some (.int k), .d (.int _) n => K (.d (.int k) (k.wrap n)) σ
    | some _, some .str, .d .str s => K (.d .str s) σ
    | some .str, some (.sl (.int .u8)), .d .str s => K (.d (.sl (.int .u8)) (List.map (fun b : UInt8 => (b.toNat : Int)) s)) σ
    | _, _, _ => (bot 110)
  | .makeFunc (.func f) first cap =>
    let xs := evs E fr first.toList []
    let ys := evs E fr cap.toList []
    bif xs.all single && ys.all single then K (.fn f xs ys) σ else (bot 900)
  | .makeSlice t l c =>
    match (E.elem t).bind E.ty, intOf (e none l), intOf (e none c) with
    | some (el, bytes), some l', some c' =>
      bif E.dp t then (match el with | .sl u => br (decide (l' = c')) (br (decide (0 ≤ l' ∧ l' ≤ c' ∧ c' * bytes ≤ 140737488355328)) (K (.vec σ.length) (σ ++ [.deep u (List.replicate c'.toNat ([] : List u.T)) []])) (bot 999)) (bot 1001) | _ => (bot 1000)) else
      br (decide (0 ≤ l' ∧ l' ≤ c' ∧ c' * bytes ≤ 140737488355328))
        (match l, c with
          | .tmp i, .tmp j => bif Nat.beq i j then newRow σ el (List.replicate c'.toNat el.zero) true K
            else K (.sl σ.length 0 l'.toNat c'.toNat true) (σ ++ [.row el (List.replicate c'.toNat el.zero) true])
          | .const _, .const _ => bif decide (l' = c') then newRow σ el (List.replicate c'.toNat el.zero) true K
            else K (.sl σ.length 0 l'.toNat c'.toNat true) (σ ++ [.row el (List.replicate c'.toNat el.zero) true])
          | _, _ => K (.sl σ.length 0 l'.toNat c'.toNat true) (σ ++ [.row el (List.replicate c'.toNat el.zero) true])) (bot 111)
    | _, _, _ => (bot 112)
  | .slice t x lo hi mx =>
    match E.tyOf t, e none x with
    | some (.arr n el), .ptr id i path =>
      match lo, hi, mx, (obTy (Sto.get σ id)).bind (placeTy · path) with
      | none, none, none, some u => bif u == .arr n el then K (.asl id i path el n) σ else (bot 964)
      | _, _, _, _ => (bot 965)
    | _, _ =>
    bif !(match E.tyOf t with | some ty => conf σ depth ty (e none x) | none => false) || (mx.isSome && !hi.isSome) then (bot 914) else
    optI bot E fr lo fun lo => optI bot E fr hi fun hi => optI bot E fr mx fun mx => sliceK bot σ (e none x) lo hi mx fun v => K v σ
  | .fieldAddr s x f =>
    match E.tyOf s, e none x with
    | some ty, .ptr id i path =>
      match (obTy (Sto.get σ id)).bind (placeTy · path) with
      | some u => bif u == ty && (fieldTy ty f).isSome then K (.ptr id i (path ++ [f])) σ else (bot 915)
      | none => (bot 916)
    | some ty, .dp t x => bif t == ty then fieldD bot t x f fun u y => K (.dp u y) σ else (bot 917)
    | _, _ => (bot 113)
  | .field s x f =>
    bif !(match E.tyOf s with | some ty => conf σ depth ty (e none x) | none => false) then (bot 918) else
    match e none x with
    | .d t x => fieldD bot t x f fun u y => K (.d u y) σ
    | .agg l => match l[f]? with | some v => K v σ | none => (bot 114)
    | _ => (bot 115)
  | .indexAddr t x ix =>
    match intOf (e none ix) with
    | some i =>
      match e none x with
      | .ptr id k path =>
        match (obTy (Sto.get σ id)).bind (placeTy · path), E.tyOf t with
        | some u, some (.arr n el) => bif !(u == .arr n el) then (bot 919) else br (decide (0 ≤ i ∧ i < (n : Int))) (K (.ptr id k (path ++ [i.toNat])) σ) (bot 116)
        | _, _ => (bot 117)
      | x => bif !idxOk σ (E.tyOf t) x then (bot 920) else idxK bot σ x i fun v => K v σ
    | none => (bot 118)
  | .index t x ix =>
    bif !(match E.tyOf t with | some ty => conf σ depth ty (e none x) | none => false) then (bot 921) else
    match intOf (e none ix), e none x with
    | some i, .d (.arr _ el) xs => need (bot 119) (at? (show List el.T from xs) i) fun y => K (.d el y) σ
    | some i, .d .str s => need (bot 120) (at? (show List UInt8 from s) i) fun y => K (.d (.int .u8) (y.toNat : Int)) σ
    | _, _ => (bot 121)
  | .extract t i =>
    match e none t with
    | .tup l => match l[i]? with | some v => K v σ | none => (bot 122)
    | _ => (bot 123)
  | .makeMap t none =>
    match (E.kv t).bind E.tyOf with
    | some u => K (.mp σ.length) (σ ++ [.kv u []])
    | none => (bot 970)
  | .lookup t x ix ok =>
    match (E.kv t).bind E.tyOf, e none x, e none ix with
    | some u, .mp id, .d (.int .i64) k => lookK bot σ u id k ok fun v => K v σ
    | _, _, _ => (bot 971)
  | .mapUpdate t x ix v =>
    match (E.kv t).bind E.tyOf, e none x, e none ix, e none v with
    | some u, .mp id, .d (.int .i64) k, .d w y => mputK bot σ u id k w y fun σ' => K .undef σ'
    | _, _, _, _ => (bot 972)
  | .call c =>
    match c.callee with
    | .builtin b => builtinK A E b c.argTypes.toList (evs E fr c.args.toList c.argTypes.toList) σ K
    | .value f => callV A E inl (e none f) (evs E fr c.args.toList c.argTypes.toList) σ K
    | .invoke _ _ => (bot 124)
  | _ => (bot 125)
def Fr.set (fr : Fr) (dst : Option Tmp) (v : AV) : Fr :=
  match dst with
  | some t => (t, v) :: fr
  | none => fr
def dstOk (nt : Nat) : Option Tmp → Bool
  | some t => Nat.blt t nt
  | none => true
def evOps (A : Alg) (E : Env) (inl : Inl A.R) (nt : Nat) (all : Array Oper) : List Oper → Fr → Sto → (Fr → Sto → A.R) → A.R
  | [], fr, σ, K => K fr σ
  | o :: r, fr, σ, K =>
    bif !dstOk nt o.dst then (A.bot 901) else
    match o.guard with
    | none => opK A E inl o fr σ fun v σ' => evOps A E inl nt all r (fr.set o.dst v) σ' K
    | some (g, want) =>
      match (all[g]?).bind (·.dst) with
      | none => (A.bot 126)
      | some t =>
        match Fr.get fr t with
        | .skip => evOps A E inl nt all r (fr.set o.dst .skip) σ K
        | .d .bool b =>
          let yes := opK A E inl o ((t, .d .bool want) :: fr) σ fun v σ' => evOps A E inl nt all r (Fr.set ((t, .d .bool want) :: fr) o.dst v) σ' K
          let no := evOps A E inl nt all r (Fr.set ((t, .d .bool (!want)) :: fr) o.dst .skip) σ K
          bif want then br b yes no else br b no yes
        | _ => (A.bot 127)
def quietOp (dl : TypeId → Bool) : Op → Bool
  | .load t _ => !dl t
  | .move _ | .assign _ | .pick _ _ _ | .build _ _ | .nilCheck _ | .binOp _ _ _ _ _ | .unOp _ _ _ | .convert _ _ _ | .makeFunc _ _ _ | .slice _ _ _ _ _ | .fieldAddr _ _ _ | .field _ _ _ | .indexAddr _ _ _ | .index _ _ _ | .lookup _ _ _ _ | .extract _ _ => true
  | .call c => match c.callee with
    | .builtin .len | .builtin .cap | .builtin .max | .builtin .min => true
    | _ => false
  | _ => false
def addNew (i : Nat) (l : List Nat) : List Nat := bif mem i l then l else i :: l
def addAll : List Nat → List Nat → List Nat
  | [], l => l
  | i :: r, l => addAll r (addNew i l)
def predAt (T : List (List Nat)) (i : Nat) : List Nat :=
  match T[i]? with
  | some l => l
  | none => []
def predOf (T : List (List Nat)) : List Edge → List Nat → List Nat
  | [], acc => acc
  | e :: r, acc => bif Region.binds .any e then predOf T r (addNew e.on (addAll (predAt T e.on) acc)) else predOf T r acc
def predTab : List Oper → List (List Nat) → List (List Nat)
  | [], T => T
  | o :: r, T => predTab r (T ++ [predOf T o.after.toList []])
def looks (all : Array Oper) (o : Oper) : List Nat :=
  (o.op.operands.toList.filterMap fun | .tmp t => some t | _ => none) ++ (match o.guard with
    | some (g, _) => (match (all[g]?).bind (·.dst) with | some t => [t] | none => [])
    | none => [])
def dstOf (all : Array Oper) (i : Nat) : Option Nat := (all[i]?).bind (·.dst)
def dstIn (all : Array Oper) (i : Nat) (l : List Nat) : Bool :=
  match dstOf all i with
  | some t => mem t l
  | none => false
def dstEq (all : Array Oper) (i j : Nat) : Bool :=
  match dstOf all i, dstOf all j with
  | some t, some u => Nat.beq t u
  | _, _ => false
def pairsB (f : Nat → Nat → Bool) : List Nat → Bool
  | [] => true
  | i :: r => r.all (f i) && pairsB f r
def backB (i : Nat) (o : Oper) : Bool := o.after.toList.all fun e => !Region.binds .any e || Nat.blt e.on i
def isQuiet (dl : TypeId → Bool) (all : Array Oper) (i : Nat) : Bool :=
  match all[i]? with
  | some o => quietOp dl o.op
  | none => false
def effsOf (dl : TypeId → Bool) (m : Nat) (all : Array Oper) : List Nat := (range0 0 m).filter fun i => !isQuiet dl all i
def fedB (m : Nat) (all : Array Oper) (T : List (List Nat)) (i : Nat) : Bool :=
  match all[i]? with
  | some o => backB i o && (let l := looks all o; (range0 0 m).all fun j => !dstIn all j l || mem j (predAt T i))
  | none => true
def tailOk (m : Nat) (all : Array Oper) (T : List (List Nat)) : Bool :=
  Nat.ble m all.size && (range0 m (all.size - m)).all fun j => (match all[j]? with | some o => backB j o | none => true) && (range0 0 j).all fun i => mem i (predAt T j)
def orderOk (m : Nat) (all : Array Oper) : Bool :=
  let T := predTab all.toList []
  let I := range0 0 m
  I.all (fedB m all T) && pairsB (fun i j => !dstEq all i j) I && tailOk m all T
def quiets (dl : TypeId → Bool) (m : Nat) (all : Array Oper) (T : List (List Nat)) (done rest : List Nat) : List Nat :=
  (range0 0 m).filter fun i => isQuiet dl all i && (rest.all fun e => !mem e (predAt T i)) && (done.all fun e => !mem i (predAt T e))
def eqNs : List Nat → List Nat → Bool
  | [], [] => true
  | x :: r, y :: s => Nat.beq x y && eqNs r s
  | _, _ => false
def eqPs : List Nat → List Nat → Bool
  | [], [] => true
  | x :: r, y :: s => decide (x = y) && eqPs r s
  | _, _ => false
def sameB : Nat → AV → AV → Bool
  | _, .skip, .skip => true
  | _, .d t x, .d u y => if h : t = u then eqT u (cst h x) y else false
  | _, .dp t x, .dp u y => if h : t = u then eqT u (cst h x) y else false
  | _, .dx t x, .dx u y => if h : Ty.sl t = Ty.sl u then eqT (.sl u) (cst h x) y else false
  | _, .nils t, .nils u => t == u
  | _, .vec i, .vec j => Nat.beq i j
  | _, .mp i, .mp j => Nat.beq i j
  | _, .sl i o l c e, .sl i' o' l' c' e' => Nat.beq i i' && ((e == e') && (decide (o = o') && (decide (l = l') && decide (c = c'))))
  | _, .asl i k p e n, .asl i' k' p' e' n' => Nat.beq i i' && (decide (k = k') && (eqPs p p' && (e == e' && decide (n = n'))))
  | _, .ptr i k p, .ptr i' k' p' => Nat.beq i i' && (decide (k = k') && eqPs p p')
  | n + 1, .agg l, .agg l' => eqTs (sameB n) l l'
  | n + 1, .tup l, .tup l' => eqTs (sameB n) l l'
  | _, _, _ => false
def evQuiet (A : Alg) (E : Env) (inl : Inl A.R) (all : Array Oper) (o : Oper) (fr : Fr) (σ : Sto) (K : Fr → AV → A.R) : A.R :=
  match o.guard with
  | none => opK A.nb E inl o fr σ fun v _ => K fr v
  | some (g, want) =>
    match (all[g]?).bind (·.dst) with
    | none => A.bot 938
    | some t =>
      match Fr.get fr t with
      | .skip => K fr .skip
      | .d .bool b =>
        let yes := opK A.nb E inl o ((t, .d .bool want) :: fr) σ fun v _ => K ((t, .d .bool want) :: fr) v
        let no := K ((t, .d .bool (!want)) :: fr) .skip
        bif want then br b yes no else br b no yes
      | _ => A.bot 939
def evQs (A : Alg) (E : Env) (inl : Inl A.R) (nt : Nat) (all : Array Oper) (seen : List Nat) : List Nat → Fr → Sto → (Fr → A.R) → A.R
  | [], fr, _, K => K fr
  | i :: r, fr, σ, K =>
    match all[i]? with
    | none => A.bot 940
    | some o =>
      bif !(dstOk nt o.dst && quietOp E.dl o.op && (let l := looks all o; (i :: r).all fun k => !dstIn all k l) && r.all fun k => !dstEq all i k) then A.bot 941 else
      evQuiet A E inl all o fr σ fun fr v =>
        bif mem i seen then
          (match o.dst with
          | some t => bif sameB depth (Fr.get fr t) v then evQs A E inl nt all seen r fr σ K else A.bot 942
          | none => evQs A E inl nt all seen r fr σ K)
        else evQs A E inl nt all seen r (fr.set o.dst v) σ K
def evEff (A : Alg) (E : Env) (inl : Inl A.R) (nt : Nat) (all : Array Oper) (o : Oper) (fr : Fr) (σ : Sto) (K : Fr → Sto → A.R) : A.R :=
  evOps A E inl nt all [o] fr σ K
def nexts (T : List (List Nat)) (rest : List Nat) : List Nat := rest.filter fun e => rest.all fun e' => !mem e' (predAt T e)
def without (e : Nat) : List Nat → List Nat
  | [] => []
  | x :: r => bif Nat.beq x e then r else x :: without e r
def allOf (A : Alg) (F : Nat → A.R) : List Nat → A.R
  | [] => A.bot 944
  | e :: r => match r with | [] => F e | _ :: _ => A.both (F e) (allOf A F r)
def evPh (A : Alg) (E : Env) (inl : Inl A.R) (nt m : Nat) (all : Array Oper) (T : List (List Nat)) : Nat → List Nat → List Nat → List Nat → Fr → Sto → (Fr → Sto → A.R) → A.R
  | 0, rest, done, seen, fr, σ, K => evQs A E inl nt all seen (quiets E.dl m all T done rest) fr σ fun fr => match rest with | [] => K fr σ | _ :: _ => A.bot 944
  | n + 1, rest, done, seen, fr, σ, K =>
    evQs A E inl nt all seen (quiets E.dl m all T done rest) fr σ fun fr =>
      match rest with
      | [] => K fr σ
      | _ :: _ => allOf A (fun e =>
        match all[e]? with
        | none => A.bot 943
        | some o => evEff A E inl nt all o fr σ fun fr σ' => evPh A E inl nt m all T n (without e rest) (done ++ [e]) (quiets E.dl m all T done rest ++ seen) fr σ' K) (nexts T rest)
def evDraw (A : Alg) (E : Env) (inl : Inl A.R) (nt m : Nat) (all : Array Oper) (fr : Fr) (σ : Sto) (K : Fr → Sto → A.R) : A.R :=
  bif orderOk m all then evPh A E inl nt m all (predTab all.toList []) (effsOf E.dl m all).length (effsOf E.dl m all) [] [] fr σ (fun fr σ => evOps A E inl nt all (all.toList.drop m) fr σ K) else A.bot 129
inductive PT where
  | fin | stop
  | q (i : Nat) (old : Bool) (r : PT)          -- a reading operation; old: it came before
  | eff (e : Nat) (sub alt : PT)               -- an effect, and what else may come
def qsPT (seen : List Nat) (k : PT) : List Nat → PT
  | [] => k
  | i :: r => .q i (mem i seen) (qsPT seen k r)
def effsPT (F : Nat → PT) : List Nat → PT
  | [] => .stop
  | e :: r => .eff e (F e) (effsPT F r)
def planOf (dl : TypeId → Bool) (m : Nat) (all : Array Oper) (T : List (List Nat)) : Nat → List Nat → List Nat → List Nat → PT
  | 0, rest, done, seen => qsPT seen (match rest with | [] => .fin | _ :: _ => .stop) (quiets dl m all T done rest)
  | n + 1, rest, done, seen => qsPT seen (match rest with | [] => .fin | _ :: _ => effsPT (fun e => planOf dl m all T n (without e rest) (done ++ [e]) (quiets dl m all T done rest ++ seen)) (nexts T rest)) (quiets dl m all T done rest)
def lead : PT → List Nat
  | .q i _ r => i :: lead r
  | _ => []
def ptOk (dl : TypeId → Bool) (nt : Nat) (all : Array Oper) : PT → Bool
  | .q i _ r =>
    (match all[i]? with
    | none => false
    | some o => dstOk nt o.dst && quietOp dl o.op && (let l := looks all o; (i :: lead r).all fun k => !dstIn all k l) && (lead r).all fun k => !dstEq all i k) && ptOk dl nt all r
  | .eff _ s a => ptOk dl nt all s && ptOk dl nt all a
  | _ => true
def eqPT : PT → PT → Bool
  | .fin, .fin => true
  | .stop, .stop => true
  | .q i b r, .q j c s => Nat.beq i j && (b == c) && eqPT r s
  | .eff e s a, .eff e' s' a' => Nat.beq e e' && eqPT s s' && eqPT a a'
  | _, _ => false
def planOk (dl : TypeId → Bool) (nt m : Nat) (all : Array Oper) (p : PT) : Bool :=
  orderOk m all && eqPT p (planOf dl m all (predTab all.toList []) (effsOf dl m all).length (effsOf dl m all) [] []) && ptOk dl nt all p
def evPl (A : Alg) (E : Env) (inl : Inl A.R) (nt : Nat) (all : Array Oper) : PT → Fr → Sto → (Fr → Sto → A.R) → A.R
  | .fin, fr, σ, K => K fr σ
  | .stop, _, _, _ => A.bot 944
  | .q i old r, fr, σ, K =>
    match all[i]? with
    | none => A.bot 940
    | some o =>
      evQuiet A E inl all o fr σ fun fr v =>
        bif old then
          (match o.dst with
          | some t => bif sameB depth (Fr.get fr t) v then evPl A E inl nt all r fr σ K else A.bot 942
          | none => evPl A E inl nt all r fr σ K)
        else evPl A E inl nt all r (fr.set o.dst v) σ K
  | .eff e s a, fr, σ, K =>
    match a with
    | .stop => (match all[e]? with
      | none => A.bot 943
      | some o => evEff A E inl nt all o fr σ fun fr σ' => evPl A E inl nt all s fr σ' K)
    | a => A.both (match all[e]? with
      | none => A.bot 943
      | some o => evEff A E inl nt all o fr σ fun fr σ' => evPl A E inl nt all s fr σ' K) (evPl A E inl nt all a fr σ K)
def evDrawP (A : Alg) (E : Env) (inl : Inl A.R) (nt m : Nat) (all : Array Oper) (p : PT) (fr : Fr) (σ : Sto) (K : Fr → Sto → A.R) : A.R :=
  bif planOk E.dl nt m all p then evPl A E inl nt all p fr σ (fun fr σ => evOps A E inl nt all (all.toList.drop m) fr σ K) else A.bot 945
def decC {R : Type} : Nat → List Nat → (PT → List Nat → R) → R
  | 0, l, K => K .stop l
  | _ + 1, [], K => K .fin []
  | n + 1, k :: r, K =>
    match Nat.mod k 4 with
    | 0 => decC n r fun x r => K (.q (Nat.div k 4) false x) r
    | 1 => decC n r fun x r => K (.q (Nat.div k 4) true x) r
    | 2 => decC n r fun x r => decC n r fun y r => K (.eff (Nat.div k 4) x y) r
    | _ => bif Nat.beq k 3 then K .fin r else K .stop r
def decP (l : List Nat) : PT := decC l.length l fun x _ => x
def thenK {R : Type} (next : Fr → Sto → R) (K : Exit → Fr → Sto → R) : Exit → Fr → Sto → R
  | .normal, fr, σ => next fr σ
  | e, fr, σ => K e fr σ
def blockK {R : Type} (id : Nat) (K : Exit → Fr → Sto → R) : Exit → Fr → Sto → R
  | .exit j, fr, σ => bif Nat.beq j id then K .normal fr σ else K (.exit j) fr σ
  | e, fr, σ => K e fr σ
def lookup {α : Type} : List (Nat × α) → Nat → Option α
  | [], _ => none
  | (k, v) :: r, i => bif Nat.beq k i then some v else lookup r i
def firstR : Code → Option Nat
  | .region id _ _ => some id
  | .seq a b => match firstR a with | some r => some r | none => firstR b
  | .block _ c | .loop c => firstR c
  | _ => none
def deepZ (keep : List (Nat × List Nat)) : Bool := (lookup keep 9000000).isSome
def cutK {R : Type} (bot : Nat → R) (keep : List (Nat × List Nat)) (m : Nat) (r : Option Nat) (fr : Fr) (σ : Sto) (K : Fr → Sto → R) : R :=
  match r.bind (lookup keep) with
  | some L => norm (deepZ keep) bot m L fr (closeS m (L.flatMap fun t => (Fr.get fr t).ids depth) σ) fun fr σ => norm (deepZ keep) bot m L fr σ fun fr σ => K fr (σ.map Ob.weak)
  | none => K fr σ
def exitK {R : Type} (bot : Nat → R) (keep : List (Nat × List Nat)) (m : Nat) (r : Option Nat) (K : Exit → Fr → Sto → R) : Exit → Fr → Sto → R
  | .normal, fr, σ => K .normal fr σ
  | e, fr, σ => cutK bot keep m (r.map (· + 1000000)) fr σ (K e)
structure Ctx where
  A : Alg
  E : Env
  inl : Inl A.R
  keep : List (Nat × List Nat)
  m : Nat
  nt : Nat
def condK (C : Ctx) (c : Operand) (fr : Fr) (x y : Fr → C.A.R) : C.A.R :=
  match boolOf (ev C.E fr none c) with
  | some b =>
    match c with
    | .tmp t => br b (x ((t, .d .bool true) :: fr)) (y ((t, .d .bool false) :: fr))
    | _ => br b (x fr) (y fr)
  | none => (C.A.bot 128)
def liveF (keep : List (Nat × List Nat)) (id : Nat) (fr : Fr) : Fr :=
  match lookup keep (id + 3000000) with
  | some L => L.map fun t => (t, Fr.get fr t)
  | none => fr
def regK (C : Ctx) (id : Nat) (ops : Array Oper) (draw : Bool) (K : Exit → Fr → Sto → C.A.R) (fr : Fr) (σ : Sto) : C.A.R :=
  bif draw then
    (match lookup C.keep (id + 2000000) with
    | some p => evDrawP C.A C.E C.inl C.nt (p.headD 0) ops (decP p.tail) (liveF C.keep id fr) σ (K .normal)
    | none => evDraw C.A C.E C.inl C.nt ops.size ops (liveF C.keep id fr) σ (K .normal))
  else evOps C.A C.E C.inl C.nt ops ops.toList (liveF C.keep id fr) σ (K .normal)
def lastR : Code → Option Nat
  | .region id _ _ => some id
  | .seq _ b => lastR b
  | .block _ c => lastR c
  | .cond _ x y => match lastR y with | some r => some r | none => lastR x
  | _ => none
def joinKey (a b : Code) : Option Nat :=
  match firstR b with
  | some r => some (r + 4000000)
  | none => match lastR a with | some r => some (r + 5000000) | none => none
inductive Part where
  | loop (c : Code)
  | join (r : Nat) (c : Code)
def subsOf (keep : List (Nat × List Nat)) : Code → List Part
  | .seq a b =>
    match joinKey a b with
    | some r => (match lookup keep r with
      | some _ => .join r b :: subsOf keep a
      | none => subsOf keep a ++ subsOf keep b)
    | none => subsOf keep a ++ subsOf keep b
  | .block _ c => subsOf keep c
  | .cond _ x y => subsOf keep x ++ subsOf keep y
  | .loop c => [.loop c]
  | _ => []
def endCut {R : Type} (bot : Nat → R) (keep : List (Nat × List Nat)) (m : Nat) (r : Option Nat) (K : Exit → Fr → Sto → R) (e : Exit) (fr : Fr) (σ : Sto) : R :=
  cutK bot keep m (r.map (· + 2000000)) fr σ (K e)
def joinK (C : Ctx) (r : Option Nat) (body : (Exit → Fr → Sto → C.A.R) → Fr → Sto → C.A.R) (K : Exit → Fr → Sto → C.A.R) (fr : Fr) (σ : Sto) : C.A.R :=
  match r.bind (lookup C.keep) with
  | some _ => cutK C.A.bot C.keep C.m r fr σ fun fr σ => C.A.join (fun k => body (endCut C.A.bot C.keep C.m r k)) K fr σ
  | none => body K fr σ
def evC (C : Ctx) : Code → (Exit → Fr → Sto → C.A.R) → Fr → Sto → C.A.R
  | .skip, K, fr, σ => K .normal fr σ
  | .ret, K, fr, σ => K .ret fr σ
  | .exit id, K, fr, σ => K (.exit id) fr σ
  | .region id ops draw, K, fr, σ => cutK C.A.bot C.keep C.m (some id) fr σ fun fr σ => regK C id ops draw K fr σ
  | .seq a b, K, fr, σ => evC C a (thenK (joinK C (joinKey a b) (evC C b) K) K) fr σ
  | .block id c, K, fr, σ => evC C c (blockK id K) fr σ
  | .cond c x y, K, fr, σ => condK C c fr (fun fr => evC C x K fr σ) (fun fr => evC C y K fr σ)
  | .loop c, K, fr, σ =>
    cutK C.A.bot C.keep C.m (firstR c) fr σ fun fr σ =>
      C.A.loop (cutK C.A.bot C.keep C.m (firstR c)) (fun k => evC C c (exitK C.A.bot C.keep C.m (firstR c) k)) K fr σ
  | _, _, _, _ => (C.A.bot 130)
def resAV (R : Type) (bot : Nat → R) (E : Env) (σ : Sto) (fr : Fr) : List ResultVar → (List AV → R) → R
  | [], K => K []
  | .tmp t :: r, K => resAV R bot E σ fr r fun l => K (noTup (Fr.get fr t) :: l)
  | .cell a t :: r, K => loadK bot σ (Fr.get fr a) fun v => bif (match E.tyOf t with | some ty => conf σ depth ty v | none => false) then resAV R bot E σ fr r fun l => K (v :: l) else (bot 926)
def tupOf : List AV → AV
  | [v] => v
  | l => .tup l
def frame0 : Nat → List AV → Fr
  | _, [] => []
  | n, v :: r => (n, v) :: frame0 (n + 1) r
def endK (R : Type) (bot : Nat → R) (E : Env) (fn : Func) (Q : AV → Sto → R) : Exit → Fr → Sto → R
  | .normal, fr, σ | .ret, fr, σ => resAV R bot E σ fr fn.results.toList fun l => Q (tupOf l) σ
  | _, _, _ => (bot 131)
def inlF (A : Alg) (E : Env) : Nat → Inl A.R
  | 0, _, _, _, _ => (A.bot 132)
  | n + 1, f, args, σ, K =>
    match E.fn f with
    | some fn =>
      match fn.body with
      | some c => bif !((E.info f).inl && Nat.ble args.length fn.ntmps) then (A.bot 936) else evC ⟨A, E, inlF A E n, (E.info f).keep, σ.length, fn.ntmps⟩ c (endK A.R A.bot E fn K) (frame0 0 args) σ
      | none => (A.bot 133)
    | none => (A.bot 134)
def evFn (A : Alg) (E : Env) (f : FuncId) (args : List AV) (τ : Sto) (Q : AV → Sto → A.R) : A.R :=
  match E.fn f with
  | some fn =>
    match fn.body with
    | some c => bif !Nat.ble args.length fn.ntmps then (A.bot 937) else evC ⟨A, E, inlF A E 8, (E.info f).keep, τ.length, fn.ntmps⟩ c (endK A.R A.bot E fn fun v σ => normRet (deepZ (E.info f).keep) A.bot τ.length v (closeS τ.length (v.ids depth) σ) fun v σ => Q v (σ.map Ob.weak)) (frame0 0 args) τ
    | none => (A.bot 135)
  | none => (A.bot 136)
inductive Res where
  | ok (v : AV) (τ : Sto)
  | no (n : Nat)
def optLoop (k : Nat) (N : Fr → Sto → (Fr → Sto → Res) → Res) (body : (Exit → Fr → Sto → Res) → Fr → Sto → Res)
    (K : Exit → Fr → Sto → Res) : Fr → Sto → Res :=
  go k
  where
  go : Nat → Fr → Sto → Res
  | 0, _, _ => .no 0
  | n + 1, fr, σ => body (thenK (fun fr σ => N fr σ (go n)) K) fr σ
def run (E : Env) : Nat → FuncId → List AV → Sto → Res
  | 0, _, _, _ => .no 0
  | k + 1, f, args, τ =>
    evFn ⟨Res, .no, fun f args τ K => match run E k f args τ with | .ok v τ' => K v τ' | .no n => .no (n + 1000 * (f + 1)), optLoop k, fun _ _ => .no 946, fun b K => b K⟩ E f args τ .ok
