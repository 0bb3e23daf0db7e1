/- The abstract interpreter: definitions. -/
import Derived.Calls
namespace Go.Abs

/-- Data that never changes again. -/
inductive IV where
  | bool (b : Bool) | int (k : IntKind) (n : Int) | str (s : ByteArray)
  | lst (xs : List IV) | agg (cs : List IV) | tup (vs : List IV)
  | fptr (cs : List IV) (off : Nat) | eptr (xs : List IV) (i off : Nat)
  | nilp | nilfn | nilmap | niliface
  | iface (t : TypeId) (v : IV)
  | fn (f : Fn) (cap : List IV)
  | fmp (ks vs : List IV)
  deriving Inhabited

def IV.cells : IV → List IV
  | .agg cs => cs
  | v => [v]

mutual
def IV.scalar : IV → Bool
  | .bool _ | .int _ _ | .str _ | .nilp | .nilfn | .nilmap | .niliface => true
  | .agg cs | .tup cs => IV.scalars cs
  | .iface _ v => v.scalar
  | _ => false
def IV.scalars : List IV → Bool
  | [] => true
  | v :: r => v.scalar && IV.scalars r
end

inductive AV where
  | imm (v : IV) | undef | nils
  | ptr (o off : Nat) | rptr (o n i off : Nat) | row (o n : Nat) | map (o : Nat)
  | fn (f : Fn) (cap : List AV) | agg (cs : List AV) | tup (vs : List AV) | yld (o : Nat)
  deriving Inhabited

inductive Obj where
  | gone
  | box (cs : List AV) (fr : Bool)
  | row (et : TypeId) (sz : Nat) (xs : List AV) (fr : Bool)
  | mp (ks : List IV) (vs : List AV) (fr : Bool)
  /-- A walk over a map of at most one entry: what it holds, and whether that was handed out. -/
  | it (ks vs : List IV) (done : Bool)
  | lp (tmps : Nat → AV) (nt : Nat) (params : List Nat) (assign body : Code) (fn : FuncId) (state : Nat) (pending : Option Code)

inductive TyD where
  | int (k : IntKind) | str | bool | st (fs : List (Nat × Nat)) | arr (len : Nat) (e : TypeId)
  | sl (e : TypeId) | mp (k e : TypeId) | ptr | fn | ifc | oth

def TyD.isAgg : TyD → Bool
  | .st _ | .arr _ _ => true
  | _ => false

structure TyI where
  d : TyD
  sz : Nat
  bytes : Nat
  zero : AV

/-- What a function gives that is not run, but has a contract: data; or a new slice of the caller's own, its elements of so many cells. -/
inductive OrcR where
  | dat (v : IV) | own (et : TypeId) (sz : Nat) (xs : List IV)

/-- What a frame is to the panic that unwinds its caller. -/
inductive Pk where
  | no | rnd | dfr (v : Option IV) (recd : Bool)

structure St where
  tmps : Nat → AV
  G : Nat → Obj
  nx : Nat
  defers : List (AV × List AV)
  pk : Pk

inductive Out where
  | norm (s : St) | exit (id : Nat) (s : St) | ret (s : St) | pan (v : IV) (s : St)

structure Cfg where
  P : Program
  /-- Functions that are called with what they may change: boxes, closures over them, loops. -/
  byref : FuncId → Bool
  orc : FuncId → List IV → Option OrcR

def upd {α : Type} (f : Nat → α) (i : Nat) (x : α) : Nat → α := fun j => if j = i then x else f j

theorem upd_same {α : Type} (f : Nat → α) (i : Nat) (x : α) : upd f i x i = x := by simp [upd]
theorem upd_ne {α : Type} (f : Nat → α) (i j : Nat) (x : α) (h : j ≠ i) : upd f i x j = f j := by simp [upd, h]

inductive CR where
  | ret (v : AV) (G : Nat → Obj) (nx : Nat)
  | pan (v : IV) (G : Nat → Obj) (nx : Nat)

/-- What runs at one level of calls less. -/
structure Low where
  call : FuncId → List AV → Pk → (Nat → Obj) → Nat → Option (CR × Pk)
  round : Nat → List AV → (Nat → Obj) → Nat → Option (CR × Pk)

/-! ### values -/
def allImm : List AV → Option (List IV)
  | [] => some []
  | .imm x :: r => (allImm r).map (x :: ·)
  | _ :: _ => none

def mkAgg (cs : List AV) : AV :=
  match allImm cs with
  | some l => .imm (.agg l)
  | none => .agg cs

def mkTup (cs : List AV) : AV :=
  match allImm cs with
  | some l => .imm (.tup l)
  | none => .tup cs

def mkFn (f : Fn) (cs : List AV) : AV :=
  match allImm cs with
  | some l => .imm (.fn f l)
  | none => .fn f cs

def AV.cells : AV → List AV
  | .imm (.agg cs) => cs.map .imm
  | .agg cs => cs
  | v => [v]

/-- The value is one of one cell. -/
def AV.one : AV → Bool
  | .undef | .agg _ | .tup _ | .imm (.agg _) | .imm (.tup _) => false
  | _ => true

/-- The value fills so many cells. -/
def AV.fits (n : Nat) (x : AV) : Bool := x.cells.length == n && x.cells.all AV.one

def cv1 : Value → AV
  | .bool b => .imm (.bool b)
  | .int k n => .imm (.int k n)
  | .string s => .imm (.str s)
  | .slice none 0 0 => .nils
  | .pointer none => .imm .nilp
  | .map none => .imm .nilmap
  | .nilFunc => .imm .nilfn
  | .nilIface => .imm .niliface
  | _ => .undef

def cv : Value → AV
  | .agg cs => mkAgg (cs.toList.map cv1)
  | v => cv1 v

def tyd (P : Program) : TypeDesc → TyD
  | .int k => .int k
  | .string => .str
  | .bool => .bool
  | .struct fs => .st (fs.toList.map fun f => (f.offset, P.cellsOf f.type))
  | .array n e => .arr n e
  | .slice e => .sl e
  | .map k e => .mp k e
  | .pointer _ => .ptr
  | .func .. => .fn
  | .interface _ => .ifc
  | _ => .oth

/-- Whether all fields' types are known. -/
def fieldsOk (P : Program) : TypeDesc → Bool
  | .struct fs => fs.toList.all fun f => (P.info? f.type).isSome
  | _ => true

def tyOf (P : Program) (t : TypeId) : Option TyI :=
  match P.info? t, P.underlying t with
  | some i, some d => match i.zero, fieldsOk P d with
    | some v, true => some { d := tyd P d, sz := i.size, bytes := i.bytes, zero := cv v }
    | _, _ => none
  | _, _ => none

def Cfg.ty (C : Cfg) (t : TypeId) : Option TyI := tyOf C.P t
def Cfg.fn (C : Cfg) (f : FuncId) : Option Func := C.P.funcs[f]?

def ev (tmps : Nat → AV) : Operand → AV
  | .tmp t => tmps t
  | .const v => cv v
  | .func f => .imm (.fn (.func f) [])
  | .global _ => .undef

def peekL (f : AV → Option (IV × List Nat)) : List AV → Option (List IV × List Nat)
  | [] => some ([], [])
  | v :: r => match f v with
    | some (x, i) => match peekL f r with
      | some (l, ids) => some (x :: l, i ++ ids)
      | none => none
    | none => none

/-- The value as data; and the objects that it leads to. -/
def peek (G : Nat → Obj) : Nat → AV → Option (IV × List Nat)
  | _, .imm x => some (x, [])
  | _, .nils => some (.lst [], [])
  | k + 1, .row o n => match G o with
    | .row _ _ xs _ => if xs.length = n then match peekL (peek G k) xs with
      | some (l, ids) => some (.lst l, o :: ids)
      | none => none
      else none
    | _ => none
  | k + 1, .map o => match G o with
    | .mp ks vs _ => match peekL (peek G k) vs with
      | some (l, ids) => some (.fmp ks l, o :: ids)
      | none => none
    | _ => none
  | k + 1, .ptr o off => match G o with
    | .box cs _ => match peekL (peek G k) cs with
      | some (l, ids) => some (.fptr l off, o :: ids)
      | none => none
    | _ => none
  | k + 1, .fn f cap => match peekL (peek G k) cap with
    | some (l, ids) => some (.fn f l, ids)
    | none => none
  | k + 1, .agg cs => match peekL (peek G k) cs with
    | some (l, ids) => some (.agg l, ids)
    | none => none
  | k + 1, .tup cs => match peekL (peek G k) cs with
    | some (l, ids) => some (.tup l, ids)
    | none => none
  | _, _ => none

def pkDepth : Nat := 100

def Obj.frozen : Obj → Bool
  | .box _ fr | .row _ _ _ fr | .mp _ _ fr => fr
  | _ => false

def Obj.freeze : Obj → Obj
  | .box cs _ => .box cs true
  | .row et sz xs _ => .row et sz xs true
  | .mp ks vs _ => .mp ks vs true
  | o => o

/-- What becomes of an object. -/
inductive U where
  | set (x : Obj) | frz

def U.on (u : U) (x : Obj) : Obj := match u with
  | .set y => y
  | .frz => x.freeze

def frz (ids : List Nat) : List (Nat × U) := ids.map fun o => (o, .frz)

def updL (G : Nat → Obj) : List (Nat × U) → Nat → Obj
  | [] => G
  | (o, u) :: r => updL (upd G o (u.on (G o))) r

/-! ### operations -/
inductive Ef where
  /-- The destination's value, and what becomes of which objects. -/
  | val (v : AV) (ups : List (Nat × U))
  /-- A call by reference, a deferred call, recover. -/
  | wr (v : AV) (s : St)
  | pan (v : IV) (s : St)

def sub {α : Type} (l : List α) (off n : Nat) : Option (List α) := if off + n ≤ l.length then some ((l.drop off).take n) else none

/-- The cells at an address. -/
def readAt (G : Nat → Obj) (n : Nat) : AV → Option (List AV)
  | .ptr o off => match G o with
    | .box cs _ => sub cs off n
    | _ => none
  | .rptr o m i off => match G o with
    | .row _ _ xs _ => if xs.length = m then match xs[i]? with
      | some x => sub x.cells off n
      | none => none else none
    | _ => none
  | .imm (.fptr cs off) => (sub cs off n).map (·.map .imm)
  | .imm (.eptr xs i off) => match xs[i]? with
    | some x => (sub x.cells off n).map (·.map .imm)
    | none => none
  | _ => none

def splice {α : Type} (l : List α) (off : Nat) (new : List α) : List α := l.take off ++ new ++ l.drop (off + new.length)

def moveAt (d : Nat) : AV → Option AV
  | .ptr o off => some (.ptr o (off + d))
  | .rptr o n i off => some (.rptr o n i (off + d))
  | .imm (.fptr cs off) => some (.imm (.fptr cs (off + d)))
  | .imm (.eptr xs i off) => some (.imm (.eptr xs i (off + d)))
  | _ => none

def one {α : Type} (l : List α) : Option α := match l with | [x] => some x | _ => none

def scalarEq : IV → IV → Option Bool
  | .int k a, .int k' b => if k = k' then some (a == b) else none
  | .bool a, .bool b => some (a == b)
  | .str a, .str b => some (a == b)
  | _, _ => none

def intOp (op : BinOp) (k : IntKind) (a b : Int) : Option IV :=
  match op with
  | .add => some (.int k (k.wrap (a + b)))
  | .sub => some (.int k (k.wrap (a - b)))
  | .mul => some (.int k (k.wrap (a * b)))
  | .quo => if b = 0 then none else some (.int k (k.wrap (a.tdiv b)))
  | .rem => if b = 0 then none else some (.int k (a.tmod b))
  | .eql => some (.bool (a == b))
  | .neq => some (.bool (a != b))
  | .lss => some (.bool (a < b))
  | .leq => some (.bool (a ≤ b))
  | .gtr => some (.bool (a > b))
  | .geq => some (.bool (a ≥ b))
  | _ => none

def strOp (op : BinOp) (a b : ByteArray) : Option IV :=
  match op with
  | .add => if a.size + b.size ≤ 9223372036854775807 then some (.str (a ++ b)) else none
  | .eql => some (.bool (a.toList == b.toList))
  | .neq => some (.bool !(a.toList == b.toList))
  | .lss => some (.bool (Op.bytesLess a.toList b.toList))
  | .leq => some (.bool (Op.bytesLess a.toList b.toList || a.toList == b.toList))
  | .gtr => some (.bool !(Op.bytesLess a.toList b.toList || a.toList == b.toList))
  | .geq => some (.bool !(Op.bytesLess a.toList b.toList))
  | _ => none

/-- '==' where one side is nil, or both are bools. -/
def isNilC : Operand → Bool
  | .const .nilIface => true
  | _ => false

def eqOp (c : Bool) (d : TyD) (x y : AV) : Option Bool :=
  match d with
  | .bool => match x, y with
    | .imm (.bool a), .imm (.bool b) => some (a == b)
    | _, _ => none
  | .ptr => match x, y with
    | .imm .nilp, .imm .nilp => some true
    | .imm .nilp, .ptr _ _ | .ptr _ _, .imm .nilp | .imm .nilp, .imm (.fptr _ _) | .imm (.fptr _ _), .imm .nilp => some false
    | _, _ => none
  | .ifc => match x, y with
    | .imm .niliface, .imm .niliface => if c then some true else none
    | .imm .niliface, .imm (.iface _ _) | .imm (.iface _ _), .imm .niliface => some false
    | _, _ => none
  | _ => none

def eqAV (C : Cfg) (c : Bool) (t : TypeId) (x y : AV) : Option Bool :=
  match C.ty t with
  | some i => eqOp c i.d x y
  | none => none

def binA (C : Cfg) (op : BinOp) (c : Bool) (t : TypeId) (x y : AV) : Option AV :=
  match x, y with
  | .imm (.int k a), .imm (.int k' b) => if k = k' then (intOp op k a b).map .imm else none
  | .imm (.str a), .imm (.str b) => (strOp op a b).map .imm
  | x, y => match op with
    | .eql => (eqAV C c t x y).map fun b => .imm (.bool b)
    | .neq => (eqAV C c t x y).map fun b => .imm (.bool !b)
    | _ => none

def unA (op : UnOp) (x : AV) : Option AV :=
  match op, x with
  | .neg, .imm (.int k n) => some (.imm (.int k (k.wrap (0 - n))))
  | .not, .imm (.bool b) => some (.imm (.bool !b))
  | _, _ => none

/-- A slice's elements. -/
def elems (G : Nat → Obj) : AV → Option (List AV)
  | .nils => some []
  | .imm (.lst xs) => some (xs.map .imm)
  | .row o n => match G o with
    | .row _ _ xs _ => if xs.length = n then some xs else none
    | _ => none
  | _ => none

def lenA (G : Nat → Obj) (d : TyD) (x : AV) : Option Nat :=
  match d with
  | .str => match x with
    | .imm (.str s) => some s.size
    | _ => none
  | .sl _ => match elems G x with
    | some l => some l.length
    | none => none
  | .mp _ _ => match x with
    | .imm .nilmap => some 0
    | .imm (.fmp ks _) => some ks.length
    | .map o => match G o with
      | .mp ks _ _ => some ks.length
      | _ => none
    | _ => none
  | _ => none

def fillA (fs : List (Nat × Nat)) (cells : List AV) : List (Nat × AV) → Option (List AV)
  | [] => some cells
  | (i, v) :: rest => match fs[i]? with
    | none => none
    | some (off, size) => if v.fits size = true ∧ off + size ≤ cells.length then fillA fs (splice cells off v.cells) rest else none

/-- The parts of a literal of a slice: each a whole element. -/
def fillE (xs : List AV) : List (Nat × AV) → List AV
  | [] => xs
  | (i, v) :: rest => fillE (xs.set i v) rest

def keyFind (k : IV) : List IV → Option (Option Nat)
  | [] => some none
  | x :: r => match scalarEq k x with
    | some true => some (some 0)
    | some false => (keyFind k r).map (·.map (· + 1))
    | none => none

/-- The key is of the map's kind of keys, and of one that is compared at once. -/
def keyOk : TyD → IV → Bool
  | .int _, .int _ _ | .str, .str _ | .bool, .bool _ => true
  | _, _ => false

/-- The most elements that a slice of the call's own may have. -/
def most : Nat := 4294967296

def zeroOf (C : Cfg) (t : TypeId) : Option AV := (C.ty t).map (·.zero)

def mapKV (G : Nat → Obj) : AV → Option (List IV × List AV)
  | .imm .nilmap => some ([], [])
  | .imm (.fmp ks vs) => some (ks, vs.map .imm)
  | .map o => match G o with
    | .mp ks vs _ => some (ks, vs)
    | _ => none
  | _ => none

def lookA (C : Cfg) (t : TypeId) (G : Nat → Obj) (m key : AV) (ok : Bool) : Option Ef :=
  match C.ty t with
  | some i => match i.d with
    | .mp kt e => match key, mapKV G m, C.ty kt with
      | .imm key, some (ks, vs), some k => if keyOk k.d key then match keyFind key ks with
          | some (some i) => match vs[i]? with
            | some v => some (.val (if ok then mkTup [v, .imm (.bool true)] else v) [])
            | none => none
          | some none => match C.ty e with
            | some z => some (.val (if ok then mkTup [z.zero, .imm (.bool false)] else z.zero) [])
            | none => none
          | none => none
        else none
      | _, _, _ => none
    | _ => none
  | none => none

def fnOf : AV → Option (Fn × List AV)
  | .imm (.fn f cap) => some (f, cap.map .imm)
  | .fn f cap => some (f, cap)
  | _ => none

def peeks (G : Nat → Obj) (l : List AV) : Option (List IV × List Nat) := peekL (peek G pkDepth) l

/-- A value, handed on as data: what it leads to is frozen, unless nothing of it lives on. -/
def give (ids : List Nat) (small : Bool) (v : AV) : Ef :=
  if small then .val v [] else .val v (frz ids)

def callA (C : Cfg) (L : Low) (id : Nat) (s : St) (f : FuncId) (args : List AV) : Option Ef :=
  if C.byref f then
    match L.call f args .no s.G s.nx with
    | some (.ret v G nx, _) => some (.wr v { s with G, nx })
    | some (.pan v G nx, _) => some (.pan v { s with G, nx })
    | none => none
  else match peeks s.G args with
    | none => none
    | some (ivs, ids) =>
      match C.orc f ivs with
      | some (.dat r) => some (give ids r.scalar (.imm r))
      | some (.own et sz xs) => some (.val (.row id xs.length) (frz ids ++ [(id, .set (.row et sz (xs.map .imm) false))]))
      | none =>
        match L.call f (ivs.map .imm) .no (fun _ => .gone) 0 with
        | some (.ret v G _, _) => match peek G pkDepth v with
          | some (r, _) => some (give ids r.scalar (.imm r))
          | none => none
        | some (.pan v _ _, _) => if v.scalar then some (.pan v s) else none
        | none => none

def aAlloc (C : Cfg) (id : Nat) (t : TypeId) : Option Ef :=
  match C.ty t with
  | some i => if i.zero.cells.length = i.sz then some (.val (.ptr id 0) [(id, .set (.box i.zero.cells false))]) else none
  | none => none

def aBox (C : Cfg) (id : Nat) (t : TypeId) (x : AV) : Option Ef :=
  match C.ty t with
  | some i => if x.fits i.sz then some (.val (.ptr id 0) [(id, .set (.box x.cells false))]) else none
  | none => none

def aBuild (C : Cfg) (t : TypeId) (parts : List (Nat × AV)) : Option Ef :=
  match C.ty t with
  | some i => match i.d with
    | .st fs => match fillA fs i.zero.cells parts with
      | some cs => some (.val (mkAgg cs) [])
      | none => none
    | _ => none
  | none => none

def aBuildSlice (C : Cfg) (id : Nat) (t : TypeId) (len : Nat) (parts : List (Nat × AV)) : Option Ef :=
  match C.ty t with
  | some k => match k.d with
    | .sl et => match C.ty et with
      | some i =>
        if len * i.sz ≤ 4096 ∧ i.zero.fits i.sz = true ∧ parts.all (fun p => p.2.fits i.sz && decide (p.1 < len)) = true ∧ 0 < i.sz then
          some (.val (.row id len) [(id, .set (.row et i.sz (fillE (List.replicate len i.zero) parts) false))])
        else none
      | none => none
    | _ => none
  | none => none

def aMakeSlice (C : Cfg) (id : Nat) (t : TypeId) (len cap : AV) : Option Ef :=
  match C.ty t with
  | some k => match k.d with
    | .sl et => match C.ty et, len, cap with
      | some i, .imm (.int _ l), .imm (.int _ c) =>
        if 0 ≤ l ∧ l ≤ c ∧ c ≤ most ∧ i.bytes ≤ 4096 ∧ i.zero.fits i.sz = true ∧ 0 < i.sz then
          some (.val (.row id l.toNat) [(id, .set (.row et i.sz (List.replicate l.toNat i.zero) false))])
        else none
      | _, _, _ => none
    | _ => none
  | none => none

def aLoad (C : Cfg) (G : Nat → Obj) (t : TypeId) (a : AV) : Option Ef :=
  match C.ty t with
  | some i => match readAt G i.sz a with
    | some cs => if i.d.isAgg then some (.val (mkAgg cs) []) else match cs with
      | [v] => some (.val v [])
      | _ => none
    | none => none
  | none => none

def avOf (y : AV) (new : List AV) : AV := match y with
  | .agg _ | .imm (.agg _) => mkAgg new
  | _ => new.headD .undef

def aStore (C : Cfg) (s : St) (t : TypeId) (a x : AV) : Option Ef :=
  match C.ty t with
  | some i =>
    if x.fits i.sz then
      match a with
      | .ptr q off => match s.G q with
        | .box old false => if off + i.sz ≤ old.length then some (.val .undef [(q, .set (.box (splice old off x.cells) false))]) else none
        | _ => none
      | .rptr q n j off => match s.G q with
        | .row et sz xs false => match xs[j]? with
          | some y =>
            if xs.length = n ∧ 0 < i.sz ∧ off + i.sz ≤ y.cells.length then
              some (.val .undef [(q, .set (.row et sz (xs.set j (avOf y (splice y.cells off x.cells))) false))])
            else none
          | none => none
        | _ => none
      | _ => none
    else none
  | none => none

def aNilCheck (x : AV) : Option Ef := match x with
  | .ptr q off => some (.val (.ptr q off) [])
  | .imm (.fptr cs off) => some (.val (.imm (.fptr cs off)) [])
  | .imm (.fn f cap) => some (.val (.imm (.fn f cap)) [])
  | .fn f cap => some (.val (.fn f cap) [])
  | .yld q => some (.val (.yld q) [])
  | _ => none

/-- The bytes of a slice of bytes. -/
def bytesOf : List AV → Option (List UInt8)
  | [] => some []
  | .imm (.int .u8 n) :: r => (bytesOf r).map (UInt8.ofNat n.toNat :: ·)
  | _ => none

def aConvert (C : Cfg) (G : Nat → Obj) (a b : TypeId) (x : AV) : Option Ef :=
  match C.ty a, C.ty b with
  | some i, some j => match j.d, x with
    | .int k, .imm (.int _ n) => some (.val (.imm (.int k (k.wrap n))) [])
    | .str, .imm (.str w) => some (.val (.imm (.str w)) [])
    | .str, x => match i.d with
      | .sl e => match C.ty e with
        | some k => match k.d, elems G x with
          | .int .u8, some xs => match bytesOf xs with
            | some l => some (.val (.imm (.str ⟨l.toArray⟩)) [])
            | none => none
          | _, _ => none
        | none => none
      | _ => none
    | _, _ => none
  | _, _ => none

def aMakeInterface (C : Cfg) (t : TypeId) (x : AV) : Option Ef :=
  match C.ty t, x with
  | some i, .imm v => match i.d with
    | .ifc | .oth => none
    | _ => some (.val (.imm (.iface t v)) [])
  | _, _ => none

def aFieldAddr (C : Cfg) (t : TypeId) (x : AV) (f : Nat) : Option Ef :=
  match C.ty t with
  | some i => match i.d with
    | .st fs => match fs[f]? with
      | some (off, sz) => if sz = 0 then none else match moveAt off x with
        | some v => some (.val v [])
        | none => none
      | none => none
    | _ => none
  | none => none

/-- The address of a slice's element. -/
def elemAddr (G : Nat → Obj) (sz : Nat) (x : AV) (n : Nat) : Option AV :=
  match x with
  | .imm (.lst xs) => match xs[n]? with
    | some y => if y.cells.length = sz then some (.imm (.eptr xs n 0)) else none
    | none => none
  | .row q m => match G q with
    | .row _ sz' xs _ => if xs.length = m ∧ n < m ∧ sz' = sz then some (.rptr q m n 0) else none
    | _ => none
  | _ => none

def aIndexAddr (C : Cfg) (G : Nat → Obj) (t : TypeId) (x ix : AV) : Option Ef :=
  match C.ty t, ix with
  | some k, .imm (.int _ n) => match k.d with
    | .sl et => match C.ty et with
      | some i => if 0 ≤ n then match elemAddr G i.sz x n.toNat with
          | some v => some (.val v [])
          | none => none
        else none
      | none => none
    | .arr len et => match C.ty et with
      | some i => if 0 ≤ n ∧ n < len then match moveAt (n.toNat * i.sz) x with
          | some v => some (.val v [])
          | none => none
        else none
      | none => none
    | _ => none
  | _, _ => none

def aIndex (C : Cfg) (t : TypeId) (x ix : AV) : Option Ef :=
  match C.ty t, x, ix with
  | some k, .imm (.str w), .imm (.int _ n) => match k.d with
    | .str => if 0 ≤ n ∧ n < w.size then some (.val (.imm (.int .u8 (w.data.getD n.toNat 0).toNat)) []) else none
    | _ => none
  | _, _, _ => none

def aMapUpdate (C : Cfg) (s : St) (t : TypeId) (m k x : AV) : Option Ef :=
  match C.ty t, m, k with
  | some i, .map q, .imm key => match i.d, s.G q with
    | .mp kt _, .mp ks vs false => match C.ty kt with
      | some k => if keyOk k.d key then match keyFind key ks with
          | some (some j) => some (.val .undef [(q, .set (.mp (ks.set j key) (vs.set j x) false))])
          | some none => some (.val .undef [(q, .set (.mp (ks ++ [key]) (vs ++ [x]) false))])
          | none => none
        else none
      | none => none
    | _, _ => none
  | _, _, _ => none

def aExtract (x : AV) (ix : Nat) : Option Ef := match x with
  | .imm (.tup vs) => match vs[ix]? with
    | some v => some (.val (.imm v) [])
    | none => none
  | .tup vs => match vs[ix]? with
    | some v => some (.val v [])
    | none => none
  | _ => none

/-- A bound of a slice expression. -/
def bound (n : Nat) (d : Nat) : Option AV → Option Nat
  | none => some d
  | some (.imm (.int _ i)) => if 0 ≤ i ∧ i ≤ n then some i.toNat else none
  | _ => none

def aSlice (C : Cfg) (s : St) (t : TypeId) (x : AV) (lo hi : Option AV) : Option Ef :=
  match C.ty t with
  | some i => match i.d with
    | .str => match x with
      | .imm (.str w) => match bound w.size w.size hi with
        | some h => match bound h 0 lo with
          | some l => some (.val (.imm (.str (w.extract l h))) [])
          | none => none
        | none => none
      | _ => none
    | .sl et => match peek s.G pkDepth x, C.ty et with
      | some (.lst xs, ids), some k => match bound xs.length xs.length hi with
        | some h => match bound h 0 lo with
          | some l => if xs.all (fun y => y.cells.length == k.sz) then some (give ids false (.imm (.lst ((xs.take h).drop l)))) else none
          | none => none
        | none => none
      | _, _ => none
    | _ => none
  | none => none

def aTypeAssert (C : Cfg) (x : AV) (t : TypeId) (ok : Bool) : Option Ef :=
  match C.ty t with
  | some i => match i.d with
    | .ifc | .oth => none
    | _ => match x with
      | .imm .niliface => if ok then some (.val (mkTup [i.zero, .imm (.bool false)]) []) else none
      | .imm (.iface u v) =>
        if u = t then some (.val (if ok then .imm (.tup [v, .bool true]) else .imm v) [])
        else if ok then some (.val (mkTup [i.zero, .imm (.bool false)]) []) else none
      | _ => none
  | none => none

def aAppend (C : Cfg) (s : St) (id : Nat) (t u : TypeId) (a x : AV) : Option Ef :=
  match C.ty t, elems s.G x with
  | some k, some ys => match k.d with
    | .sl et => match C.ty et with
      | some i =>
        if t = u ∧ 0 < i.sz ∧ i.bytes ≤ 4096 ∧ i.zero.fits i.sz = true ∧ ys.all (AV.fits i.sz) = true then
          match a with
          | .nils => if ys.length ≤ most then some (.val (.row id ys.length) [(id, .set (.row et i.sz ys false))]) else none
          | .row q n => match s.G q with
            | .row et' sz xs false => if xs.length = n ∧ et' = et ∧ sz = i.sz ∧ n + ys.length ≤ most then
                some (.val (.row q (xs ++ ys).length) [(q, .set (.row et' sz (xs ++ ys) false))]) else none
            | _ => none
          | _ => none
        else none
      | none => none
    | _ => none
  | _, _ => none

def aCall (C : Cfg) (L : Low) (id : Nat) (s : St) (g : AV) (args : List AV) : Option Ef :=
  match g with
  | .yld q => match L.round q args s.G s.nx with
    | some (.ret v G nx, _) => some (.wr v { s with G, nx })
    | some (.pan v G nx, _) => some (.pan v { s with G, nx })
    | none => none
  | g => match fnOf g with
    | some (.func k, cap) => callA C L id s k (args ++ cap)
    | _ => none

def aBuiltin (C : Cfg) (s : St) (id : Nat) (b : Builtin) (argTypes : List TypeId) (args : List AV) : Option Ef :=
  match b, args with
  | .len, [x] => match argTypes with
    | [t] => match C.ty t with
      | some i => match lenA s.G i.d x with
        | some n => some (.val (.imm (.int .i64 n)) [])
        | none => none
      | none => none
    | _ => none
  | .max, [.imm (.int k a), .imm (.int _ b)] => some (.val (.imm (.int k (if b > a then b else a))) [])
  | .min, [.imm (.int k a), .imm (.int _ b)] => some (.val (.imm (.int k (if b < a then b else a))) [])
  | .append, [a, x] => match argTypes with
    | [t, u] => aAppend C s id t u a x
    | _ => none
  | .recover, _ => match s.pk with
    | .dfr (some v) false => some (.wr (.imm v) { s with pk := .dfr (some v) true })
    | .dfr none _ => some (.val (.imm .niliface) [])
    | _ => none
  | _, _ => none

def aRange (C : Cfg) (id : Nat) (t : TypeId) (x : AV) : Option Ef :=
  match C.ty t with
  | some i => match i.d with
    | .mp _ _ => match x with
      | .imm .nilmap => some (.val (.ptr id 0) [(id, .set (.it [] [] false))])
      | .imm (.fmp ks vs) => if ks.length ≤ 1 then some (.val (.ptr id 0) [(id, .set (.it ks vs false))]) else none
      | _ => none
    | _ => none
  | none => none

def aNext (s : St) (x : AV) (isStr : Bool) : Option Ef :=
  match isStr, x with
  | false, .ptr q 0 => match s.G q with
    | .it [] _ _ => some (.val (.imm (.tup [.bool false])) [])
    | .it _ _ true => some (.val (.imm (.tup [.bool false])) [])
    | .it [k] [v] false => some (.val (.imm (.tup [.bool true, k, v])) [(q, .set (.it [k] [v] true))])
    | _ => none
  | _, _ => none

def aEntry (G : Nat → Obj) (x : AV) : Option Ef :=
  match x with
  | .ptr q 0 => match G q with
    | .it [k] [v] true => some (.val (.imm (.tup [k, v])) [])
    | _ => none
  | _ => none

def opA (C : Cfg) (L : Low) (id : Nat) (s : St) (o : Op) : Option Ef :=
  let e := ev s.tmps
  match o with
  | .move x | .assign x => some (.val (e x) [])
  | .pick c a b => match e c with
    | .imm (.bool t) => some (.val (bif t then e a else e b) [])
    | _ => none
  | .alloc t => aAlloc C id t
  | .box t x => aBox C id t (e x)
  | .build t parts => aBuild C t (parts.toList.map fun p => (p.1, e p.2))
  | .buildSlice t len parts => aBuildSlice C id t len (parts.toList.map fun p => (p.1, e p.2))
  | .makeSlice t l c => aMakeSlice C id t (e l) (e c)
  | .load t a => aLoad C s.G t (e a)
  | .store t a x => aStore C s t (e a) (e x)
  | .nilCheck x => aNilCheck (e x)
  | .binOp op t x y _ => match binA C op (isNilC x || isNilC y) t (e x) (e y) with
    | some v => some (.val v [])
    | none => none
  | .unOp op _ x => match unA op (e x) with
    | some v => some (.val v [])
    | none => none
  | .convert a b x => aConvert C s.G a b (e x)
  | .makeInterface t x => aMakeInterface C t (e x)
  | .makeFunc f first cap => if first.size = 0 then some (.val (mkFn f (cap.toList.map e)) []) else none
  | .makeMap _ none => some (.val (.map id) [(id, .set (.mp [] [] false))])
  | .fieldAddr t x f => aFieldAddr C t (e x) f
  | .indexAddr t x ix => aIndexAddr C s.G t (e x) (e ix)
  | .index t x ix => aIndex C t (e x) (e ix)
  | .lookup t m k ok => lookA C t s.G (e m) (e k) ok
  | .mapUpdate t m k x | .insert t m k x => aMapUpdate C s t (e m) (e k) (e x)
  | .extract t ix => aExtract (e t) ix
  | .slice t x lo hi none => aSlice C s t (e x) (lo.map e) (hi.map e)
  | .typeAssert x _ t ok => aTypeAssert C (e x) t ok
  | .range t x => aRange C id t (e x)
  | .next x isStr => aNext s (e x) isStr
  | .entry x => aEntry s.G (e x)
  | .panic x => match e x with
    | .imm (.iface t v) => some (.pan (.iface t v) s)
    | _ => none
  | .defer c => match c.callee, s.pk with
    | _, .rnd => none
    | .value f, _ => match fnOf (e f) with
      | some _ => some (.wr .undef { s with defers := (e f, c.args.toList.map e) :: s.defers })
      | none => none
    | _, _ => none
  | .call c => match c.callee with
    | .builtin b => aBuiltin C s id b c.argTypes.toList (c.args.toList.map e)
    | .value f => aCall C L id s (e f) (c.args.toList.map e)
    | _ => none
  | _ => none

end Go.Abs
