/- The abstract interpreter: definitions. -/
import Derived.Calls
import GoSem.ClaimKeys
import Derived.Orders
namespace Go.Abs
inductive IV where
 |bool (b:Bool)|int (k:IntKind) (n:Int)|str (s:ByteArray)
 |lst (xs:List IV)|agg (cs:List IV)|tup (vs:List IV)
 |fptr (cs:List IV) (off:Nat)|eptr (xs:List IV) (i off:Nat)
 |nilp|nilfn|nilmap|niliface
 |iface (t:TypeId) (v:IV)
 |fn (f:Fn) (cap:List IV)
 |fmp (ks vs:List IV)
 deriving Inhabited
def IV.cells:IV->List IV
 | .agg cs=>cs
 |v=>[v]
mutual
def IV.scalar:IV->Bool
 | .bool _ | .int _ _ | .str _ | .nilp | .nilfn | .nilmap | .niliface=>true
 | .agg cs | .tup cs=>IV.scalars cs
 | .iface _ v=>v.scalar
 |_=>false
def IV.scalars:List IV->Bool
 |[]=>true
 |v::r=>v.scalar&&IV.scalars r
end
inductive AV where
 |imm (v:IV)|undef|nils
 |ptr (o off:Nat)|rptr (o n i off:Nat)|row (o n:Nat)|map (o:Nat)
 |fn (f:Fn) (cap:List AV)|agg (cs:List AV)|tup (vs:List AV)|yld (o:Nat)
 deriving Inhabited
inductive Obj where
 |gone
 |box (cs:List AV) (fr:Bool)
 |row (et:TypeId) (sz:Nat) (xs:List AV) (fr:Bool)
 |mp (ks:List IV) (vs:List AV) (fr:Bool)
 /-- A walk over a map of at most one entry: what it holds, and whether that was handed out. -/
 |it (ks vs:List IV) (done:Bool)
 |lp (tmps:Nat->AV) (nt:Nat) (params:List Nat) (assign body:Code) (fn:FuncId) (state:Nat) (pending:Option Code)
inductive TyD where
 |int (k:IntKind)|str|bool|st (fs:List (Nat×Nat))|arr (len:Nat) (e:TypeId)
 |sl (e:TypeId)|mp (k e:TypeId)|ptr|fn|ifc|oth
def TyD.isAgg:TyD->Bool
 | .st _ | .arr _ _=>true
 |_=>false
structure TyI where
 d:TyD
 sz:Nat
 bytes:Nat
 zero:AV
inductive OrcR where
 |dat (v:IV)|own (et:TypeId) (sz:Nat) (xs:List IV)
inductive Pk where
 |no|rnd|dfr (v:Option IV) (recd:Bool)
structure St where
 tmps:Nat->AV
 G:Nat->Obj
 nx:Nat
 defers:List (AV×List AV)
 pk:Pk
inductive Out where
 |norm (s:St)|exit (id:Nat) (s:St)|ret (s:St)|pan (v:IV) (s:St)
structure Cfg where
 P:Program
 /-- Functions that are called with what they may change: boxes, closures over them, loops. -/
 byref:FuncId->Bool
 orc:FuncId->List IV->Option OrcR
 /-- What is called by reference as a rule; and functions in whose bodies others are. -/
 base:FuncId->Bool:=byref
 odd:FuncId->Option (FuncId->Bool):=fun _=>none
def Cfg.at (C:Cfg) (f:FuncId):Cfg:={ C with byref:=(C.odd f).getD C.base }
def Cfg.ground (C:Cfg):Cfg:={ C with byref:=C.base }
def upd {α:Type} (f:Nat->α) (i:Nat) (x:α):Nat->α:=fun j=>if j=i then x else f j
theorem upd_same {α:Type} (f:Nat->α) (i:Nat) (x:α):upd f i x i=x:=by simp [upd]
theorem upd_ne {α:Type} (f:Nat->α) (i j:Nat) (x:α) (h:j≠i):upd f i x j=f j:=by simp [upd,h]
inductive CR where
 |ret (v:AV) (G:Nat->Obj) (nx:Nat)
 |pan (v:IV) (G:Nat->Obj) (nx:Nat)
structure Low where
 call:FuncId->List AV->Pk->(Nat->Obj)->Nat->Option (CR×Pk)
 round:Nat->List AV->(Nat->Obj)->Nat->Option (CR×Pk)
/-! ### values -/
def allImm:List AV->Option (List IV)
 |[]=>some []
 | .imm x::r=>(allImm r).map (x :: ·)
 |_::_=>none
def mkAgg (cs:List AV):AV:=
 match allImm cs with
 |some l => .imm (.agg l)
 |none => .agg cs
def mkTup (cs:List AV):AV:=
 match allImm cs with
 |some l => .imm (.tup l)
 |none => .tup cs
def mkFn (f:Fn) (cs:List AV):AV:=
 match allImm cs with
 |some l => .imm (.fn f l)
 |none => .fn f cs
def AV.cells:AV->List AV
 | .imm (.agg cs)=>cs.map .imm
 | .agg cs=>cs
 |v=>[v]
def AV.one:AV->Bool
 | .undef | .agg _ | .tup _ | .imm (.agg _) | .imm (.tup _)=>false
 |_=>true
def AV.fits (n:Nat) (x:AV):Bool:=x.cells.length==n&&x.cells.all AV.one
def cv1:Value->AV
 | .bool b => .imm (.bool b)
 | .int k n => .imm (.int k n)
 | .string s => .imm (.str s)
 | .slice none 0 0 => .nils
 | .pointer none => .imm .nilp
 | .map none => .imm .nilmap
 | .nilFunc => .imm .nilfn
 | .nilIface => .imm .niliface
 |_ => .undef
def cv:Value->AV
 | .agg cs=>mkAgg (cs.toList.map cv1)
 |v=>cv1 v
def tyd (P:Program):TypeDesc->TyD
 | .int k => .int k
 | .string => .str
 | .bool => .bool
 | .struct fs => .st (fs.toList.map fun f=>(f.offset,P.cellsOf f.type))
 | .array n e => .arr n e
 | .slice e => .sl e
 | .map k e => .mp k e
 | .pointer _ => .ptr
 | .func .. => .fn
 | .interface _ => .ifc
 |_ => .oth
def fieldsOk (P:Program):TypeDesc->Bool
 | .struct fs=>fs.toList.all fun f=>(P.info? f.type).isSome
 |_=>true
def tyOf (P:Program) (t:TypeId):Option TyI:=
 match P.info? t,P.underlying t with
 |some i,some d=>match i.zero,fieldsOk P d with
  |some v,true=>some { d:=tyd P d,sz:=i.size,bytes:=i.bytes,zero:=cv v }
  |_,_=>none
 |_,_=>none
def Cfg.ty (C:Cfg) (t:TypeId):Option TyI:=tyOf C.P t
def Cfg.fn (C:Cfg) (f:FuncId):Option Func:=C.P.funcs[f]?
def ev (tmps:Nat->AV):Operand->AV
 | .tmp t=>tmps t
 | .const v=>cv v
 | .func f => .imm (.fn (.func f) [])
 | .global _ => .undef
def peekL (f:AV->Option (IV×List Nat)):List AV->Option (List IV×List Nat)
 |[]=>some ([],[])
 |v::r=>match f v with
  |some (x,i)=>match peekL f r with
   |some (l,ids)=>some (x::l,i++ids)
   |none=>none
  |none=>none
def peek (G:Nat->Obj):Nat->AV->Option (IV×List Nat)
 |_, .imm x=>some (x,[])
 |_, .nils=>some (.lst [],[])
 |k+1, .row o n=>match G o with
  | .row _ _ xs _=>if xs.length=n then match peekL (peek G k) xs with
   |some (l,ids)=>some (.lst l,o::ids)
   |none=>none
   else none
  |_=>none
 |k+1, .map o=>match G o with
  | .mp ks vs _=>match peekL (peek G k) vs with
   |some (l,ids)=>some (.fmp ks l,o::ids)
   |none=>none
  |_=>none
 |k+1, .ptr o off=>match G o with
  | .box cs _=>match peekL (peek G k) cs with
   |some (l,ids)=>some (.fptr l off,o::ids)
   |none=>none
  |_=>none
 |k+1, .fn f cap=>match peekL (peek G k) cap with
  |some (l,ids)=>some (.fn f l,ids)
  |none=>none
 |k+1, .agg cs=>match peekL (peek G k) cs with
  |some (l,ids)=>some (.agg l,ids)
  |none=>none
 |k+1, .tup cs=>match peekL (peek G k) cs with
  |some (l,ids)=>some (.tup l,ids)
  |none=>none
 |_,_=>none
def pkDepth:Nat:=100
def Obj.frozen:Obj->Bool
 | .box _ fr | .row _ _ _ fr | .mp _ _ fr=>fr
 |_=>false
def Obj.freeze:Obj->Obj
 | .box cs _ => .box cs true
 | .row et sz xs _ => .row et sz xs true
 | .mp ks vs _ => .mp ks vs true
 |o=>o
inductive U where
 |set (x:Obj)|frz
def U.on (u:U) (x:Obj):Obj:=match u with
 | .set y=>y
 | .frz=>x.freeze
def frz (ids:List Nat):List (Nat×U):=ids.map fun o=>(o, .frz)
def updL (G:Nat->Obj):List (Nat×U)->Nat->Obj
 |[]=>G
 |(o,u)::r=>updL (upd G o (u.on (G o))) r
/-! ### operations -/
inductive Ef where
 /-- The destination's value, and what becomes of which objects. -/
 |val (v:AV) (ups:List (Nat×U))
 /-- A call by reference, a deferred call, recover. -/
 |wr (v:AV) (s:St)
 |pan (v:IV) (s:St)
def sub {α:Type} (l:List α) (off n:Nat):Option (List α):=if off+n<=l.length then some ((l.drop off).take n) else none
def readAt (G:Nat->Obj) (n:Nat):AV->Option (List AV)
 | .ptr o off=>match G o with
  | .box cs _=>sub cs off n
  |_=>none
 | .rptr o m i off=>match G o with
  | .row _ _ xs _=>if xs.length=m then match xs[i]? with
   |some x=>sub x.cells off n
   |none=>none else none
  |_=>none
 | .imm (.fptr cs off)=>(sub cs off n).map (·.map .imm)
 | .imm (.eptr xs i off)=>match xs[i]? with
  |some x=>(sub x.cells off n).map (·.map .imm)
  |none=>none
 |_=>none
def splice {α:Type} (l:List α) (off:Nat) (new:List α):List α:=l.take off++new++l.drop (off+new.length)
def moveAt (d:Nat):AV->Option AV
 | .ptr o off=>some (.ptr o (off+d))
 | .rptr o n i off=>some (.rptr o n i (off+d))
 | .imm (.fptr cs off)=>some (.imm (.fptr cs (off+d)))
 | .imm (.eptr xs i off)=>some (.imm (.eptr xs i (off+d)))
 |_=>none
def one {α:Type} (l:List α):Option α:=match l with|[x]=>some x|_=>none
def scalarEq:IV->IV->Option Bool
 | .int k a, .int k' b=>if k=k' then some (a==b) else none
 | .bool a, .bool b=>some (a==b)
 | .str a, .str b=>some (a==b)
 |_,_=>none
def intOp (op:BinOp) (k:IntKind) (a b:Int):Option IV:=
 match op with
 | .add=>some (.int k (k.wrap (a+b)))
 | .sub=>some (.int k (k.wrap (a-b)))
 | .mul=>some (.int k (k.wrap (a*b)))
 | .quo=>if b=0 then none else some (.int k (k.wrap (a.tdiv b)))
 | .rem=>if b=0 then none else some (.int k (a.tmod b))
 | .eql=>some (.bool (a==b))
 | .neq=>some (.bool (a != b))
 | .lss=>some (.bool (a < b))
 | .leq=>some (.bool (a<=b))
 | .gtr=>some (.bool (a > b))
 | .geq=>some (.bool (a>=b))
 |_=>none
def strOp (op:BinOp) (a b:ByteArray):Option IV:=
 match op with
 | .add=>if a.size+b.size<=9223372036854775807 then some (.str (a++b)) else none
 | .eql=>some (.bool (a.toList==b.toList))
 | .neq=>some (.bool !(a.toList==b.toList))
 | .lss=>some (.bool (Op.bytesLess a.toList b.toList))
 | .leq=>some (.bool (Op.bytesLess a.toList b.toList||a.toList==b.toList))
 | .gtr=>some (.bool !(Op.bytesLess a.toList b.toList||a.toList==b.toList))
 | .geq=>some (.bool !(Op.bytesLess a.toList b.toList))
 |_=>none
def isNilC:Operand->Bool
 | .const .nilIface=>true
 |_=>false
def eqOp (c:Bool) (d:TyD) (x y:AV):Option Bool:=
 match d with
 | .bool=>match x,y with
  | .imm (.bool a), .imm (.bool b)=>some (a==b)
  |_,_=>none
 | .ptr=>match x,y with
  | .imm .nilp, .imm .nilp=>some true
  | .imm .nilp, .ptr _ _ | .ptr _ _, .imm .nilp | .imm .nilp, .imm (.fptr _ _) | .imm (.fptr _ _), .imm .nilp=>some false
  |_,_=>none
 | .ifc=>match x,y with
  | .imm .niliface, .imm .niliface=>if c then some true else none
  | .imm .niliface, .imm (.iface _ _) | .imm (.iface _ _), .imm .niliface=>some false
  |_,_=>none
 | .sl _=>match x,y with
  | .nils, .nils=>some true
  | .imm (.lst (_::_)), .nils=>some false
  |_,_=>none
 |_=>none
def vOf:IV->Option Value
 | .bool b=>some (.bool b)
 | .int k n=>some (.int k n)
 | .str s=>some (.string s)
 |_=>none
def vsOf:List IV->Option (List Value)
 |[]=>some []
 |x::r=>match vOf x,vsOf r with
  |some v,some l=>some (v::l)
  |_,_=>none
def litsOf (P:Program) (t:TypeId) (xs:List IV):Option (List Lit):=match vsOf xs with
 |some vs=>P.keyLits 12 t vs
 |none=>none
def litEq:Lit->Lit->Option Bool
 | .bool a, .bool b=>some (a==b)
 | .int k n, .int k' n'=>some (decide (k=k')&&decide (n=n'))
 | .string a, .string b=>some (decide (a=b))
 |_,_=>none
def litsEq:List Lit->List Lit->Option Bool
 |[],[]=>some true
 |a::r,b::s=>match litEq a b,litsEq r s with
  |some x,some y=>some (x&&y)
  |_,_=>none
 |_,_=>none
def eqSt (P:Program) (t:TypeId) (xs ys:List IV):Option Bool:=
 if P.keyTypeAt 10 t=true/\P.eqGuardType P.depth t=false then match litsOf P t xs,litsOf P t ys with
  |some a,some b=>litsEq a b
  |_,_=>none
 else none
def eqAV (C:Cfg) (c:Bool) (t:TypeId) (x y:AV):Option Bool:=
 match C.ty t with
 |some i=>match i.d with
  | .st _=>match x,y with
   | .imm (.agg xs), .imm (.agg ys)=>eqSt C.P t xs ys
   |_,_=>none
  |d=>eqOp c d x y
 |none=>none
def binA (C:Cfg) (op:BinOp) (c:Bool) (t:TypeId) (x y:AV):Option AV:=
 match x,y with
 | .imm (.int k a), .imm (.int k' b)=>if k=k' then (intOp op k a b).map .imm else none
 | .imm (.str a), .imm (.str b)=>(strOp op a b).map .imm
 |x,y=>match op with
  | .eql=>(eqAV C c t x y).map fun b => .imm (.bool b)
  | .neq=>(eqAV C c t x y).map fun b => .imm (.bool !b)
  |_=>none
def unA (op:UnOp) (x:AV):Option AV:=
 match op,x with
 | .neg, .imm (.int k n)=>some (.imm (.int k (k.wrap (0-n))))
 | .not, .imm (.bool b)=>some (.imm (.bool !b))
 |_,_=>none
def elems (G:Nat->Obj):AV->Option (List AV)
 | .nils=>some []
 | .imm (.lst xs)=>some (xs.map .imm)
 | .row o n=>match G o with
  | .row _ _ xs _=>if xs.length=n then some xs else none
  |_=>none
 |_=>none
def lenA (G:Nat->Obj) (d:TyD) (x:AV):Option Nat:=
 match d with
 | .str=>match x with
  | .imm (.str s)=>some s.size
  |_=>none
 | .sl _=>match elems G x with
  |some l=>some l.length
  |none=>none
 | .mp _ _=>match x with
  | .imm .nilmap=>some 0
  | .imm (.fmp ks _)=>some ks.length
  | .map o=>match G o with
   | .mp ks _ _=>some ks.length
   |_=>none
  |_=>none
 |_=>none
def fillA (fs:List (Nat×Nat)) (cells:List AV):List (Nat×AV)->Option (List AV)
 |[]=>some cells
 |(i,v)::rest=>match fs[i]? with
  |none=>none
  |some (off,size)=>if v.fits size=true/\off+size<=cells.length then fillA fs (splice cells off v.cells) rest else none
def fillE (xs:List AV):List (Nat×AV)->List AV
 |[]=>xs
 |(i,v)::rest=>fillE (xs.set i v) rest
def keyFind (k:IV):List IV->Option (Option Nat)
 |[]=>some none
 |x::r=>match scalarEq k x with
  |some true=>some (some 0)
  |some false=>(keyFind k r).map (·.map (· + 1))
  |none=>none
def keyOk:TyD->IV->Bool
 | .int _, .int _ _ | .str, .str _ | .bool, .bool _=>true
 |_,_=>false
def most:Nat:=4294967296
def mapKV (G:Nat->Obj):AV->Option (List IV×List AV)
 | .imm .nilmap=>some ([],[])
 | .imm (.fmp ks vs)=>some (ks,vs.map .imm)
 | .map o=>match G o with
  | .mp ks vs _=>some (ks,vs)
  |_=>none
 |_=>none
def lookA (C:Cfg) (t:TypeId) (G:Nat->Obj) (m key:AV) (ok:Bool):Option Ef:=
 match C.ty t with
 |some i=>match i.d with
  | .mp kt e=>match key,mapKV G m,C.ty kt with
   | .imm key,some (ks,vs),some k=>if keyOk k.d key then match keyFind key ks with
     |some (some i)=>match vs[i]? with
      |some v=>some (.val (if ok then mkTup [v, .imm (.bool true)] else v) [])
      |none=>none
     |some none=>match C.ty e with
      |some z=>some (.val (if ok then mkTup [z.zero, .imm (.bool false)] else z.zero) [])
      |none=>none
     |none=>none
    else none
   |_,_,_=>none
  |_=>none
 |none=>none
def fnOf:AV->Option (Fn×List AV)
 | .imm (.fn f cap)=>some (f,cap.map .imm)
 | .fn f cap=>some (f,cap)
 |_=>none
def peeks (G:Nat->Obj) (l:List AV):Option (List IV×List Nat):=peekL (peek G pkDepth) l
def give (ids:List Nat) (small:Bool) (v:AV):Ef:=
 if small then .val v [] else .val v (frz ids)
def callA (C:Cfg) (L:Low) (id:Nat) (s:St) (f:FuncId) (args:List AV):Option Ef:=
 if C.byref f then
  match L.call f args .no s.G s.nx with
  |some (.ret v G nx,_)=>some (.wr v { s with G,nx })
  |some (.pan v G nx,_)=>some (.pan v { s with G,nx })
  |none=>none
 else match peeks s.G args with
  |none=>none
  |some (ivs,ids)=>
   match C.orc f ivs with
   |some (.dat r)=>some (give ids r.scalar (.imm r))
   |some (.own et sz xs)=>some (.val (.row id xs.length) (frz ids++[(id, .set (.row et sz (xs.map .imm) false))]))
   |none=>
    match L.call f (ivs.map .imm) .no (fun _ => .gone) 0 with
    |some (.ret v G _,_)=>match peek G pkDepth v with
     |some (r,_)=>some (give ids r.scalar (.imm r))
     |none=>none
    |some (.pan v _ _,_)=>if v.scalar then some (.pan v s) else none
    |none=>none
def aAlloc (C:Cfg) (id:Nat) (t:TypeId):Option Ef:=
 match C.ty t with
 |some i=>if i.zero.cells.length=i.sz then some (.val (.ptr id 0) [(id, .set (.box i.zero.cells false))]) else none
 |none=>none
def aBox (C:Cfg) (id:Nat) (t:TypeId) (x:AV):Option Ef:=
 match C.ty t with
 |some i=>if x.fits i.sz then some (.val (.ptr id 0) [(id, .set (.box x.cells false))]) else none
 |none=>none
def aBuild (C:Cfg) (t:TypeId) (parts:List (Nat×AV)):Option Ef:=
 match C.ty t with
 |some i=>match i.d with
  | .st fs=>match fillA fs i.zero.cells parts with
   |some cs=>some (.val (mkAgg cs) [])
   |none=>none
  |_=>none
 |none=>none
def aBuildSlice (C:Cfg) (id:Nat) (t:TypeId) (len:Nat) (parts:List (Nat×AV)):Option Ef:=
 match C.ty t with
 |some k=>match k.d with
  | .sl et=>match C.ty et with
   |some i=>
    if len*i.sz<=4096/\i.zero.fits i.sz=true/\parts.all (fun p=>p.2.fits i.sz&&decide (p.1 < len))=true/\0 < i.sz then
     some (.val (.row id len) [(id, .set (.row et i.sz (fillE (List.replicate len i.zero) parts) false))])
    else none
   |none=>none
  |_=>none
 |none=>none
def aMakeSlice (C:Cfg) (id:Nat) (t:TypeId) (len cap:AV):Option Ef:=
 match C.ty t with
 |some k=>match k.d with
  | .sl et=>match C.ty et,len,cap with
   |some i, .imm (.int _ l), .imm (.int _ c)=>
    if 0<=l/\l<=c/\c<=most/\i.bytes<=4096/\i.zero.fits i.sz=true/\0 < i.sz then
     some (.val (.row id l.toNat) [(id, .set (.row et i.sz (List.replicate l.toNat i.zero) false))])
    else none
   |_,_,_=>none
  |_=>none
 |none=>none
def aLoad (C:Cfg) (G:Nat->Obj) (t:TypeId) (a:AV):Option Ef:=
 match C.ty t with
 |some i=>match readAt G i.sz a with
  |some cs=>if i.d.isAgg then some (.val (mkAgg cs) []) else match cs with
   |[v]=>some (.val v [])
   |_=>none
  |none=>none
 |none=>none
def avOf (y:AV) (new:List AV):AV:=match y with
 | .agg _ | .imm (.agg _)=>mkAgg new
 |_=>new.headD .undef
def aStore (C:Cfg) (s:St) (t:TypeId) (a x:AV):Option Ef:=
 match C.ty t with
 |some i=>
  if x.fits i.sz then
   match a with
   | .ptr q off=>match s.G q with
    | .box old false=>if off+i.sz<=old.length then some (.val .undef [(q, .set (.box (splice old off x.cells) false))]) else none
    |_=>none
   | .rptr q n j off=>match s.G q with
    | .row et sz xs false=>match xs[j]? with
     |some y=>
      if xs.length=n/\0 < i.sz/\off+i.sz<=y.cells.length then
       some (.val .undef [(q, .set (.row et sz (xs.set j (avOf y (splice y.cells off x.cells))) false))])
      else none
     |none=>none
    |_=>none
   |_=>none
  else none
 |none=>none
def aNilCheck (x:AV):Option Ef:=match x with
 | .ptr q off=>some (.val (.ptr q off) [])
 | .imm (.fptr cs off)=>some (.val (.imm (.fptr cs off)) [])
 | .imm (.fn f cap)=>some (.val (.imm (.fn f cap)) [])
 | .fn f cap=>some (.val (.fn f cap) [])
 | .yld q=>some (.val (.yld q) [])
 |_=>none
def bytesOf:List AV->Option (List UInt8)
 |[]=>some []
 | .imm (.int .u8 n)::r=>(bytesOf r).map (UInt8.ofNat n.toNat :: ·)
 |_=>none
def aConvert (C:Cfg) (G:Nat->Obj) (a b:TypeId) (x:AV):Option Ef:=
 match C.ty a,C.ty b with
 |some i,some j=>match j.d,x with
  | .int k, .imm (.int _ n)=>some (.val (.imm (.int k (k.wrap n))) [])
  | .str, .imm (.str w)=>some (.val (.imm (.str w)) [])
  | .str,x=>match i.d with
   | .sl e=>match C.ty e with
    |some k=>match k.d,elems G x with
     | .int .u8,some xs=>match bytesOf xs with
      |some l=>some (.val (.imm (.str ⟨l.toArray⟩)) [])
      |none=>none
     |_,_=>none
    |none=>none
   |_=>none
  |_,_=>none
 |_,_=>none
def aMakeInterface (C:Cfg) (t:TypeId) (x:AV):Option Ef:=
 match C.ty t,x with
 |some i, .imm v=>match i.d with
  | .ifc | .oth=>none
  |_=>some (.val (.imm (.iface t v)) [])
 |_,_=>none
def aFieldAddr (C:Cfg) (t:TypeId) (x:AV) (f:Nat):Option Ef:=
 match C.ty t with
 |some i=>match i.d with
  | .st fs=>match fs[f]? with
   |some (off,sz)=>if sz=0 then none else match moveAt off x with
    |some v=>some (.val v [])
    |none=>none
   |none=>none
  |_=>none
 |none=>none
def elemAddr (G:Nat->Obj) (sz:Nat) (x:AV) (n:Nat):Option AV:=
 match x with
 | .imm (.lst xs)=>match xs[n]? with
  |some y=>if y.cells.length=sz then some (.imm (.eptr xs n 0)) else none
  |none=>none
 | .row q m=>match G q with
  | .row _ sz' xs _=>if xs.length=m/\n < m/\sz'=sz then some (.rptr q m n 0) else none
  |_=>none
 |_=>none
def aIndexAddr (C:Cfg) (G:Nat->Obj) (t:TypeId) (x ix:AV):Option Ef:=
 match C.ty t,ix with
 |some k, .imm (.int _ n)=>match k.d with
  | .sl et=>match C.ty et with
   |some i=>if 0<=n then match elemAddr G i.sz x n.toNat with
     |some v=>some (.val v [])
     |none=>none
    else none
   |none=>none
  | .arr len et=>match C.ty et with
   |some i=>if 0<=n/\n < len then match moveAt (n.toNat*i.sz) x with
     |some v=>some (.val v [])
     |none=>none
    else none
   |none=>none
  |_=>none
 |_,_=>none
def aIndex (C:Cfg) (t:TypeId) (x ix:AV):Option Ef:=
 match C.ty t,x,ix with
 |some k, .imm (.str w), .imm (.int _ n)=>match k.d with
  | .str=>if 0<=n/\n < w.size then some (.val (.imm (.int .u8 (w.data.getD n.toNat 0).toNat)) []) else none
  |_=>none
 |_,_,_=>none
def aMapUpdate (C:Cfg) (s:St) (t:TypeId) (m k x:AV):Option Ef:=
 match C.ty t,m,k with
 |some i, .map q, .imm key=>match i.d,s.G q with
  | .mp kt _, .mp ks vs false=>match C.ty kt with
   |some k=>if keyOk k.d key then match keyFind key ks with
     |some (some j)=>some (.val .undef [(q, .set (.mp (ks.set j key) (vs.set j x) false))])
     |some none=>some (.val .undef [(q, .set (.mp (ks++[key]) (vs++[x]) false))])
     |none=>none
    else none
   |none=>none
  |_,_=>none
 |_,_,_=>none
def aExtract (x:AV) (ix:Nat):Option Ef:=match x with
 | .imm (.tup vs)=>match vs[ix]? with
  |some v=>some (.val (.imm v) [])
  |none=>none
 | .tup vs=>match vs[ix]? with
  |some v=>some (.val v [])
  |none=>none
 |_=>none
def bound (n:Nat) (d:Nat):Option AV->Option Nat
 |none=>some d
 |some (.imm (.int _ i))=>if 0<=i/\i<=n then some i.toNat else none
 |_=>none
def aSlice (C:Cfg) (s:St) (t:TypeId) (x:AV) (lo hi:Option AV):Option Ef:=
 match C.ty t with
 |some i=>match i.d with
  | .str=>match x with
   | .imm (.str w)=>match bound w.size w.size hi with
    |some h=>match bound h 0 lo with
     |some l=>some (.val (.imm (.str (w.extract l h))) [])
     |none=>none
    |none=>none
   |_=>none
  | .sl et=>match peek s.G pkDepth x,C.ty et with
   |some (.lst xs,ids),some k=>match bound xs.length xs.length hi with
    |some h=>match bound h 0 lo with
     |some l=>if xs.all (fun y=>y.cells.length==k.sz) then some (give ids false (.imm (.lst ((xs.take h).drop l)))) else none
     |none=>none
    |none=>none
   |_,_=>none
  |_=>none
 |none=>none
def aTypeAssert (C:Cfg) (x:AV) (t:TypeId) (ok:Bool):Option Ef:=
 match C.ty t with
 |some i=>match i.d with
  | .ifc | .oth=>none
  |_=>match x with
   | .imm .niliface=>if ok then some (.val (mkTup [i.zero, .imm (.bool false)]) []) else none
   | .imm (.iface u v)=>
    if u=t then some (.val (if ok then .imm (.tup [v, .bool true]) else .imm v) [])
    else if ok then some (.val (mkTup [i.zero, .imm (.bool false)]) []) else none
   |_=>none
 |none=>none
def slT (C:Cfg) (u:TypeId):Bool:=match C.ty u with
 |some k=>match k.d with
  | .sl _=>true
  |_=>false
 |none=>false
def aAppend (C:Cfg) (s:St) (id:Nat) (t u:TypeId) (a x:AV):Option Ef:=
 match C.ty t,elems s.G x with
 |some k,some ys=>match k.d with
  | .sl et=>match C.ty et with
   |some i=>
    if (t=u\/slT C u=true)/\0 < i.sz/\i.bytes<=4096/\i.zero.fits i.sz=true/\ys.all (AV.fits i.sz)=true then
     match a with
     | .nils=>if ys.length<=most then some (.val (.row id ys.length) [(id, .set (.row et i.sz ys false))]) else none
     | .row q n=>match s.G q with
      | .row et' sz xs false=>if xs.length=n/\et'=et/\sz=i.sz/\n+ys.length<=most then
        some (.val (.row q (xs++ys).length) [(q, .set (.row et' sz (xs++ys) false))]) else none
      |_=>none
     |_=>none
    else none
   |none=>none
  |_=>none
 |_,_=>none
def aCall (C:Cfg) (L:Low) (id:Nat) (s:St) (g:AV) (args:List AV):Option Ef:=
 match g with
 | .yld q=>match L.round q args s.G s.nx with
  |some (.ret v G nx,_)=>some (.wr v { s with G,nx })
  |some (.pan v G nx,_)=>some (.pan v { s with G,nx })
  |none=>none
 |g=>match fnOf g with
  |some (.func k,cap)=>callA C L id s k (args++cap)
  |_=>none
def aBuiltin (C:Cfg) (s:St) (id:Nat) (b:Builtin) (argTypes:List TypeId) (args:List AV):Option Ef:=
 match b,args with
 | .len,[x]=>match argTypes with
  |[t]=>match C.ty t with
   |some i=>match lenA s.G i.d x with
    |some n=>some (.val (.imm (.int .i64 n)) [])
    |none=>none
   |none=>none
  |_=>none
 | .max,[.imm (.int k a), .imm (.int _ b)]=>some (.val (.imm (.int k (if b > a then b else a))) [])
 | .min,[.imm (.int k a), .imm (.int _ b)]=>some (.val (.imm (.int k (if b < a then b else a))) [])
 | .append,[a,x]=>match argTypes with
  |[t,u]=>aAppend C s id t u a x
  |_=>none
 | .recover,_=>match s.pk with
  | .dfr (some v) false=>some (.wr (.imm v) { s with pk := .dfr (some v) true })
  | .dfr none _=>some (.val (.imm .niliface) [])
  |_=>none
 |_,_=>none
def aRange (C:Cfg) (id:Nat) (t:TypeId) (x:AV):Option Ef:=
 match C.ty t with
 |some i=>match i.d with
  | .mp _ _=>match x with
   | .imm .nilmap=>some (.val (.ptr id 0) [(id, .set (.it [] [] false))])
   | .imm (.fmp ks vs)=>if ks.length<=1 then some (.val (.ptr id 0) [(id, .set (.it ks vs false))]) else none
   |_=>none
  |_=>none
 |none=>none
def aNext (s:St) (x:AV) (isStr:Bool):Option Ef:=
 match isStr,x with
 |false, .ptr q 0=>match s.G q with
  | .it [] _ _=>some (.val (.imm (.tup [.bool false])) [])
  | .it _ _ true=>some (.val (.imm (.tup [.bool false])) [])
  | .it [k] [v] false=>some (.val (.imm (.tup [.bool true,k,v])) [(q, .set (.it [k] [v] true))])
  |_=>none
 |_,_=>none
def aEntry (G:Nat->Obj) (x:AV):Option Ef:=
 match x with
 | .ptr q 0=>match G q with
  | .it [k] [v] true=>some (.val (.imm (.tup [k,v])) [])
  |_=>none
 |_=>none
def opA (C:Cfg) (L:Low) (id:Nat) (s:St) (o:Op):Option Ef:=
 let e:=ev s.tmps
 match o with
 | .move x | .assign x=>some (.val (e x) [])
 | .pick c a b=>match e c with
  | .imm (.bool t)=>some (.val (bif t then e a else e b) [])
  |_=>none
 | .alloc t=>aAlloc C id t
 | .box t x=>aBox C id t (e x)
 | .build t parts=>aBuild C t (parts.toList.map fun p=>(p.1,e p.2))
 | .buildSlice t len parts=>aBuildSlice C id t len (parts.toList.map fun p=>(p.1,e p.2))
 | .makeSlice t l c=>aMakeSlice C id t (e l) (e c)
 | .load t a=>aLoad C s.G t (e a)
 | .store t a x=>aStore C s t (e a) (e x)
 | .nilCheck x=>aNilCheck (e x)
 | .binOp op t x y _=>match binA C op (isNilC x||isNilC y) t (e x) (e y) with
  |some v=>some (.val v [])
  |none=>none
 | .unOp op _ x=>match unA op (e x) with
  |some v=>some (.val v [])
  |none=>none
 | .convert a b x=>aConvert C s.G a b (e x)
 | .makeInterface t x=>aMakeInterface C t (e x)
 | .makeFunc f first cap=>if first.size=0 then some (.val (mkFn f (cap.toList.map e)) []) else none
 | .makeMap _ none=>some (.val (.map id) [(id, .set (.mp [] [] false))])
 | .fieldAddr t x f=>aFieldAddr C t (e x) f
 | .indexAddr t x ix=>aIndexAddr C s.G t (e x) (e ix)
 | .index t x ix=>aIndex C t (e x) (e ix)
 | .lookup t m k ok=>lookA C t s.G (e m) (e k) ok
 | .mapUpdate t m k x | .insert t m k x=>aMapUpdate C s t (e m) (e k) (e x)
 | .extract t ix=>aExtract (e t) ix
 | .slice t x lo hi none=>aSlice C s t (e x) (lo.map e) (hi.map e)
 | .typeAssert x _ t ok=>aTypeAssert C (e x) t ok
 | .range t x=>aRange C id t (e x)
 | .next x isStr=>aNext s (e x) isStr
 | .entry x=>aEntry s.G (e x)
 | .panic x=>match e x with
  | .imm (.iface t v)=>some (.pan (.iface t v) s)
  |_=>none
 | .defer c=>match c.callee,s.pk with
  |_, .rnd=>none
  | .value f,_=>match fnOf (e f) with
   |some _=>some (.wr .undef { s with defers:=(e f,c.args.toList.map e)::s.defers })
   |none=>none
  |_,_=>none
 | .call c=>match c.callee with
  | .builtin b=>aBuiltin C s id b c.argTypes.toList (c.args.toList.map e)
  | .value f=>aCall C L id s (e f) (c.args.toList.map e)
  |_=>none
 |_=>none
end Go.Abs

/- The abstract interpreter: regions, code, calls. -/
namespace Go.Abs
def wantA (ops:Array Oper) (tmps:Nat->AV) (o:Oper):Option Bool:=
 match o.guard with
 |none=>some true
 |some (j,want)=>match (ops[j]?).bind (·.dst) with
  |some d=>match tmps d with
   | .imm (.bool b)=>some (b==want)
   | .imm (.tup [])=>some false
   |_=>none
  |none=>some false
def put (nt:Nat) (s:St) (dst:Option Nat) (v:AV):Option St:=
 match dst with
 |some d=>if d < nt then some { s with tmps:=upd s.tmps d v } else none
 |none=>some s
def stepA (C:Cfg) (L:Low) (nt:Nat) (ops:Array Oper) (id:Nat) (o:Oper) (s:St):Option Out:=
 match wantA ops s.tmps o with
 |some true=>match opA C L id s o.op with
  |some (.val v ups)=>match put nt { s with G:=updL s.G ups } o.dst v with
   |some s'=>some (.norm s')
   |none=>none
  |some (.wr v s1)=>match put nt s1 o.dst v with
   |some s'=>some (.norm s')
   |none=>none
  |some (.pan v s1)=>some (.pan v s1)
  |none=>none
 |some false=>match put nt s o.dst (.imm (.tup [])) with
  |some s'=>some (.norm s')
  |none=>none
 |none=>none
def runA (C:Cfg) (L:Low) (nt:Nat) (ops:Array Oper) (base:Nat):List Nat->St->Option Out
 |[],s=>some (.norm s)
 |i::r,s=>match ops[i]? with
  |none=>runA C L nt ops base r s
  |some o=>match stepA C L nt ops (base+i) o s with
   |some (.norm s')=>runA C L nt ops base r s'
   |x=>x
/-! ### what an operation of a region that draws its order reads, and writes -/
def touch (G:Nat->Obj):Nat->AV->List Nat
 |0, .row o _|0, .map o|0, .rptr o _ _ _|0, .ptr o _=>[o]
 |_, .yld o=>[o]
 |k+1, .row o _|k+1, .rptr o _ _ _=>o::match G o with
  | .row _ _ xs _=>xs.flatMap (touch G k)
  |_=>[]
 |k+1, .map o=>o::match G o with
  | .mp _ vs _=>vs.flatMap (touch G k)
  |_=>[]
 |k+1, .ptr o _=>o::match G o with
  | .box cs _=>cs.flatMap (touch G k)
  |_=>[]
 |k+1, .fn _ cs|k+1, .agg cs|k+1, .tup cs=>cs.flatMap (touch G k)
 |_,_=>[]
def pureOp:Op->Bool
 | .move _ | .assign _ | .pick .. | .alloc _ | .box .. | .build .. | .nilCheck _ | .binOp .. | .unOp .. | .makeInterface .. | .makeFunc .. | .makeMap .. | .makeSlice .. | .buildSlice ..
 | .fieldAddr .. | .index .. | .extract .. | .typeAssert .. => true
 |_=>false
structure Fp where
 i:Nat
 rd:List Nat
 wr:List Nat
 fz:List Nat
def direct:AV->List Nat
 | .row o _ | .map o | .rptr o _ _ _ | .ptr o _ | .yld o=>[o]
 |_=>[]
def readsOf (s:St) (o:Op):List Nat:=
 if pureOp o then [] else
 match o with
 | .call { callee := .builtin _,args, .. }=>args.toList.flatMap fun x=>direct (ev s.tmps x)
 | .call { callee := .value f,args, .. }=>match fnOf (ev s.tmps f) with
  |some (_,cap)=>(args.toList.map (ev s.tmps)++cap).flatMap (touch s.G pkDepth)
  |none=>[]
 | .slice _ x _ _ _=>touch s.G pkDepth (ev s.tmps x)
 | .store _ a _=>direct (ev s.tmps a)
 | .mapUpdate _ m _ _ | .insert _ m _ _=>direct (ev s.tmps m)
 |o=>o.operands.toList.flatMap fun x=>direct (ev s.tmps x)
def wrOf:List (Nat×U)->List Nat
 |[]=>[]
 |(o, .set _)::r=>o::wrOf r
 |_::r=>wrOf r
def fzOf:List (Nat×U)->List Nat
 |[]=>[]
 |(o, .frz)::r=>o::fzOf r
 |_::r=>fzOf r
def stepD (C:Cfg) (L:Low) (nt:Nat) (ops:Array Oper) (base i:Nat) (o:Oper) (s:St):Option (St×Fp):=
 match wantA ops s.tmps o with
 |some true=>match opA C L (base+i) s o.op with
  |some (.val v ups)=>match put nt { s with G:=updL s.G ups } o.dst v with
   |some s'=>some (s',⟨i,readsOf s o.op,wrOf ups,fzOf ups⟩)
   |none=>none
  |_=>none
 |some false=>match put nt s o.dst (.imm (.tup [])) with
  |some s'=>some (s',⟨i,[],[],[]⟩)
  |none=>none
 |none=>none
def runD (C:Cfg) (L:Low) (nt:Nat) (ops:Array Oper) (base:Nat):List Nat->St->Option (St×List Fp)
 |[],s=>some (s,[])
 |i::r,s=>match ops[i]? with
  |none=>none
  |some o=>match stepD C L nt ops base i o s with
   |some (s1,f)=>match runD C L nt ops base r s1 with
    |some (s2,fs)=>some (s2,f::fs)
    |none=>none
   |none=>none
def clash (a b:Fp):Bool:=
 a.wr.any (fun x=>b.rd.contains x||b.wr.contains x||b.fz.contains x)||b.wr.any (fun x=>a.rd.contains x||a.fz.contains x)
def ordered (ops:Array Oper) (i j:Nat):Bool:=((Region.before ops).getD j 0).testBit i
def apartI (ops:Array Oper) (i j:Nat):Bool:=
 match ops[i]?,ops[j]? with
 |some x,some y=>x.apart ops y
 |_,_=>false
def clearOf (ops:Array Oper) (a:Fp):List Fp->Bool
 |[]=>true
 |b::r=>(ordered ops a.i b.i||(!clash a b&&apartI ops a.i b.i))&&clearOf ops a r
def drawOK (ops:Array Oper):List Fp->Bool
 |[]=>true
 |a::r=>clearOf ops a r&&drawOK ops r
def edgesOK (ops:Array Oper):Bool:=ops.toList.zipIdx.all fun p=>p.1.after.all fun e => !Region.binds .any e||decide (e.on < p.2)
def panOK (C:Cfg) (s:St):Op->Bool
 | .panic _=>true
 | .call { callee := .value f, .. }=>match fnOf (ev s.tmps f) with
  |some (.func k,_) => !C.byref k
  |_=>false
 |_=>false
def stepX (C:Cfg) (L:Low) (nt:Nat) (ops:Array Oper) (base i:Nat) (o:Oper) (s:St):Option (St×Fp×Option IV):=
 match wantA ops s.tmps o with
 |some true=>match opA C L (base+i) s o.op with
  |some (.val v ups)=>match put nt { s with G:=updL s.G ups } o.dst v with
   |some s'=>some (s',⟨i,readsOf s o.op,wrOf ups,fzOf ups⟩,none)
   |none=>none
  |some (.pan v _)=>if panOK C s o.op then some (s,⟨i,readsOf s o.op,[],[]⟩,some v) else none
  |_=>none
 |some false=>match put nt s o.dst (.imm (.tup [])) with
  |some s'=>some (s',⟨i,[],[],[]⟩,none)
  |none=>none
 |none=>none
def runX (C:Cfg) (L:Low) (nt:Nat) (ops:Array Oper) (base:Nat):List Nat->List Nat->St->Option (List (Fp×Option IV))
 |[],_,_=>some []
 |i::r,ps,s=>
  if ps.any (fun p=>ordered ops p i)=true then runX C L nt ops base r ps s
  else match ops[i]? with
   |none=>none
   |some o=>match stepX C L nt ops base i o s with
    |some (s1,f,none)=>match runX C L nt ops base r ps s1 with
     |some es=>some ((f,none)::es)
     |none=>none
    |some (s1,f,some v)=>match runX C L nt ops base r (i::ps) s1 with
     |some es=>some ((f,some v)::es)
     |none=>none
    |none=>none
def IV.alike:IV->IV->Bool
 | .iface t (.agg []), .iface u (.agg [])=>decide (t=u)
 |_,_=>false
def fzAll (es:List (Fp×Option IV)):List Nat:=es.flatMap (·.1.fz)
def poison (ops:Array Oper) (es:List (Fp×Option IV)) (s:St):St:=
 { s with tmps:=fun t=>if ops.toList.any (fun o=>o.dst==some t)=true then .undef else s.tmps t,G:=fun q=>if (fzAll es).contains q=true then (s.G q).freeze else s.G q,nx:=s.nx+ops.size }
def failA (C:Cfg) (L:Low) (nt:Nat) (ops:Array Oper) (s:St):Option Out:=
 match runX C L nt ops s.nx (List.range ops.size) [] { s with nx:=s.nx+ops.size } with
 |some es=>match es.filterMap (·.2) with
  |v::r=>
   if (r.all (IV.alike v)&&drawOK ops (es.map (·.1))&&edgesOK ops&&es.all fun e=>e.1.wr.all fun q=>decide (s.nx<=q))=true then some (.pan v (poison ops es s)) else none
  |[]=>none
 |none=>none
/-! ### code -/
def iter (f:St->Option Out):Nat->St->Option Out
 |0,_=>none
 |n+1,s=>match f s with
  |some (.norm s')=>iter f n s'
  |x=>x
def pivot (ops:Array Oper) (i:Nat):Bool:=(List.range ops.size).all fun j=>bif Nat.blt j i then ordered ops j i else Nat.beq j i||ordered ops i j
def stepP (C:Cfg) (L:Low) (nt:Nat) (ops:Array Oper) (base i:Nat) (o:Oper) (s:St) (fs:List Fp):Option (St×List Fp):=
 match stepD C L nt ops base i o s with
 |some (s1,f)=>some (s1,f::fs)
 |none=>if (pivot ops i&&drawOK ops fs.reverse)=true then match stepA C L nt ops (base+i) o s with
   |some (.norm s1)=>some (s1,[])
   |_=>none
  else none
def runP (C:Cfg) (L:Low) (nt:Nat) (ops:Array Oper) (base:Nat):List Nat->List Fp->St->Option (St×List Fp)
 |[],fs,s=>some (s,fs)
 |i::r,fs,s=>match ops[i]? with
  |none=>none
  |some o=>match stepP C L nt ops base i o s fs with
   |some (s1,fs1)=>runP C L nt ops base r fs1 s1
   |none=>none
def regionA (C:Cfg) (L:Low) (nt:Nat) (ops:Array Oper) (draw:Bool) (s:St):Option Out:=
 if draw then
  match runP C L nt ops s.nx (List.range ops.size) [] { s with nx:=s.nx+ops.size } with
  |some (s',fs)=>if drawOK ops fs.reverse&&edgesOK ops then some (.norm s') else none
  |none=>failA C L nt ops s
 else runA C L nt ops s.nx (List.range ops.size) { s with nx:=s.nx+ops.size }
def rangeA (C:Cfg) (L:Low) (fid nt:Nat) (f:AV) (params:List Nat) (assign body:Code) (s:St):Option Out:=
 match fnOf f with
 |some (.func kf,cap)=>match callA C L (s.nx+1) { s with nx:=s.nx+2,G:=upd s.G s.nx (.lp s.tmps nt params assign body fid 0 none) } kf (.yld s.nx::cap) with
  |some (.wr _ s1)=>match s1.G s.nx with
   | .lp _ _ _ _ _ _ st pending=>if st=1 then none else
    match pending with
    |none=>some (.norm { s1 with G:=upd s1.G s.nx .gone })
    |some (.exit id)=>some (.exit id { s1 with G:=upd s1.G s.nx .gone })
    |some .ret=>some (.ret { s1 with G:=upd s1.G s.nx .gone })
    |_=>none
   |_=>none
  |some (.pan v s1)=>some (.pan v s1)
  |_=>none
 |_=>none
def code (C:Cfg) (L:Low) (lf fid nt:Nat):Code->St->Option Out
 | .skip,s=>some (.norm s)
 | .region _ ops draw,s=>regionA C L nt ops draw s
 | .seq a b,s=>match code C L lf fid nt a s with
  |some (.norm s')=>code C L lf fid nt b s'
  |x=>x
 | .cond c t e,s=>match ev s.tmps c with
  | .imm (.bool b)=>bif b then code C L lf fid nt t s else code C L lf fid nt e s
  |_=>none
 | .block id b,s=>match code C L lf fid nt b s with
  |some (.exit id' s')=>if id'=id then some (.norm s') else some (.exit id' s')
  |x=>x
 | .loop b,s=>iter (code C L lf fid nt b) lf s
 | .exit id,s=>some (.exit id s)
 | .label _,s=>some (.norm s)
 | .scope b,s=>code C L lf fid nt b s
 | .ret,s=>some (.ret s)
 | .rangeFunc f params assign body,s=>match s.pk with
  | .rnd=>none
  |_=>rangeA C L fid nt (ev s.tmps f) params.toList assign body s
 |_,_=>none
/-! ### calls -/
def initT (args:List AV):Nat->AV:=fun t=>(args[t]?).getD (.imm (.tup []))
def resultA (C:Cfg) (s:St):ResultVar->Option AV
 | .tmp t=>some (s.tmps t)
 | .cell a t=>match aLoad C s.G t (s.tmps a) with
  |some (.val v _)=>some v
  |_=>none
def resultsL (C:Cfg) (s:St):List ResultVar->Option (List AV)
 |[]=>some []
 |r::rs=>match resultA C s r,resultsL C s rs with
  |some v,some l=>some (v::l)
  |_,_=>none
def resultsA (C:Cfg) (s:St) (rs:List ResultVar):Option AV:=
 match resultsL C s rs with
 |some [v]=>some v
 |some l=>some (mkTup l)
 |none=>none
def leaveA (C:Cfg) (L:Low) (rs:List ResultVar):List (AV×List AV)->Option IV->St->Option (CR×Pk)
 |[],none,s=>match resultsA C s rs with
  |some v=>some (.ret v s.G s.nx,s.pk)
  |none=>none
 |[],some v,s=>some (.pan v s.G s.nx,s.pk)
 |(g,ars)::ds,m,s=>match fnOf g with
  |some (.func k,cap)=>match L.call k (ars++cap) (.dfr m false) s.G s.nx with
   |some (.ret _ G nx, .dfr _ recd)=>leaveA C L rs ds (if recd then none else m) { s with G,nx }
   |_=>none
  |_=>none
def callF (C:Cfg) (L:Low) (lf:Nat) (f:FuncId) (args:List AV) (pk:Pk) (G:Nat->Obj) (nx:Nat):Option (CR×Pk):=
 match C.fn f with
 |some fn=>match fn.body with
  |some b=>if args.length<=fn.ntmps then
    match code C L lf f fn.ntmps b ⟨initT args,G,nx,[],pk⟩ with
    |some (.norm s)|some (.ret s)=>leaveA C L fn.results.toList s.defers none s
    |some (.pan v s)=>leaveA C L fn.results.toList s.defers (some v) s
    |_=>none
   else none
  |none=>none
 |none=>none
def bindT (tmps:Nat->AV):List (Nat×AV)->Nat->AV
 |[]=>tmps
 |(t,v)::r=>bindT (upd tmps t v) r
def roundF (C:Cfg) (L:Low) (lf:Nat) (q:Nat) (args:List AV) (G:Nat->Obj) (nx:Nat):Option (CR×Pk):=
 match G q with
 | .lp tmps nt params assign body fid 0 _=>
  if params.length=args.length/\(params.all fun t=>decide (t < nt))=true then
   match code C L lf fid nt assign ⟨bindT tmps (params.zip args),G,nx,[], .rnd⟩ with
   |some (.norm s)=>match s.G q with
    | .lp t2 n2 p2 a2 b2 f2 0 e2=>match code C L lf fid nt body { s with G:=upd s.G q (.lp t2 n2 p2 a2 b2 f2 1 e2) } with
     |some (.norm s1)=>match s1.G q with
      | .lp t3 n3 p3 a3 b3 f3 1 _=>some (.ret (.imm (.bool true)) (upd s1.G q (.lp t3 n3 p3 a3 b3 f3 0 none)) s1.nx, .no)
      |_=>none
     |some (.exit id s1)=>match s1.G q with
      | .lp t3 n3 p3 a3 b3 f3 1 _=>some (.ret (.imm (.bool false)) (upd s1.G q (.lp t3 n3 p3 a3 b3 f3 2 (some (.exit id)))) s1.nx, .no)
      |_=>none
     |some (.ret s1)=>match s1.G q with
      | .lp t3 n3 p3 a3 b3 f3 1 _=>some (.ret (.imm (.bool false)) (upd s1.G q (.lp t3 n3 p3 a3 b3 f3 2 (some .ret))) s1.nx, .no)
      |_=>none
     |some (.pan v s1)=>if s1.defers.isEmpty&&(C.fn fid).isSome then some (.pan v s1.G s1.nx, .no) else none
     |none=>none
    |_=>none
   |_=>none
  else none
 |_=>none
def low (C:Cfg):Nat->Low
 |0=>⟨fun _ _ _ _ _=>none,fun _ _ _ _=>none⟩
 |n+1=>⟨fun f=>callF (C.at f) (low C n) n f,roundF C.ground (low C n) n⟩
def run (C:Cfg) (n:Nat) (f:FuncId) (args:List IV):Option CR:=
 ((low C n).call f (args.map .imm) .no (fun _ => .gone) 0).map (·.1)
end Go.Abs

/- The abstract interpreter: what runs, runs alike with more to spend. -/
namespace Go.Abs
structure Low.le (L L':Low):Prop where
 call:∀ f a pk G nx r,L.call f a pk G nx=some r->L'.call f a pk G nx=some r
 round:∀ q a G nx r,L.round q a G nx=some r->L'.round q a G nx=some r
variable {C:Cfg} {L L':Low}
theorem callA_mono (h:L.le L') {id:Nat} {s:St} {f:FuncId} {args:List AV} {e:Ef} (he:callA C L id s f args=some e):callA C L' id s f args=some e:=by
 unfold callA at he ⊢
 split
 ·rename_i hb
  rw [if_pos hb] at he
  cases hc:L.call f args .no s.G s.nx with
  |none=>rw [hc] at he;cases he
  |some r=>rw [h.call _ _ _ _ _ _ hc];rw [hc] at he;exact he
 ·rename_i hb
  rw [if_neg hb] at he
  split
  ·rename_i hp;rw [hp] at he;exact he
  ·rename_i ivs ids hp
   rw [hp] at he
   simp only at he
   split
   ·rename_i ho;rw [ho] at he;exact he
   ·rename_i ho;rw [ho] at he;exact he
   ·rename_i ho
    rw [ho] at he
    simp only at he
    cases hc:L.call f (ivs.map .imm) .no (fun _ => .gone) 0 with
    |none=>rw [hc] at he;cases he
    |some r=>rw [h.call _ _ _ _ _ _ hc];rw [hc] at he;exact he
theorem aCall_mono (h:L.le L') {id:Nat} {s:St} {g:AV} {args:List AV} {e:Ef} (he:aCall C L id s g args=some e):aCall C L' id s g args=some e:=by
 unfold aCall at he ⊢
 split
 ·rename_i q
  simp only at he
  cases hc:L.round q args s.G s.nx with
  |none=>rw [hc] at he;cases he
  |some r=>rw [h.round _ _ _ _ _ hc];rw [hc] at he;exact he
 ·rename_i g hg
  split at he
  ·exact absurd rfl (hg _)
  ·split at he
   ·exact callA_mono h he
   ·cases he
theorem opA_mono (h:L.le L') {id:Nat} {s:St} {o:Op} {e:Ef} (he:opA C L id s o=some e):opA C L' id s o=some e:=by
 cases o with
 |call c=>
  unfold opA at he ⊢
  simp only at he ⊢
  split at he
  ·rename_i hc;exact he
  ·rename_i hc;exact aCall_mono h he
  ·exact he
 |makeMap t r=>cases r<;>exact he
 |slice t x lo hi m=>cases m<;>exact he
 |_=>exact he
theorem stepA_mono (h:L.le L') {nt:Nat} {ops:Array Oper} {id:Nat} {o:Oper} {s:St} {x:Out} (he:stepA C L nt ops id o s=some x):stepA C L' nt ops id o s=some x:=by
 unfold stepA at he ⊢
 split
 ·rename_i hw
  rw [hw] at he
  simp only at he
  cases ho:opA C L id s o.op with
  |none=>rw [ho] at he;cases he
  |some e=>rw [opA_mono h ho];rw [ho] at he;exact he
 ·rename_i hw;rw [hw] at he;exact he
 ·rename_i hw;rw [hw] at he;exact he
theorem runA_mono (h:L.le L') {nt:Nat} {ops:Array Oper} {base:Nat}:∀ (l:List Nat) (s:St) {x:Out},runA C L nt ops base l s=some x->runA C L' nt ops base l s=some x
 |[],_,_,he=>he
 |i::r,s,x,he=>by
  unfold runA at he ⊢
  split
  ·rename_i ho;rw [ho] at he;exact runA_mono h r s he
  ·rename_i o ho
   rw [ho] at he
   simp only at he
   cases hs:stepA C L nt ops (base+i) o s with
   |none=>rw [hs] at he;cases he
   |some y=>
    rw [stepA_mono h hs];rw [hs] at he
    cases y with
    |norm s'=>exact runA_mono h r s' he
    |_=>exact he
theorem stepD_mono (h:L.le L') {nt:Nat} {ops:Array Oper} {base i:Nat} {o:Oper} {s:St} {x:St×Fp} (he:stepD C L nt ops base i o s=some x):stepD C L' nt ops base i o s=some x:=by
 unfold stepD at he ⊢
 split
 ·rename_i hw
  rw [hw] at he
  simp only at he
  cases ho:opA C L (base+i) s o.op with
  |none=>rw [ho] at he;cases he
  |some e=>rw [opA_mono h ho];rw [ho] at he;exact he
 ·rename_i hw;rw [hw] at he;exact he
 ·rename_i hw;rw [hw] at he;exact he
theorem stepD_alone {nt:Nat} {ops:Array Oper} {base i:Nat} {o:Oper} {s s1:St} (h1:stepD C L nt ops base i o s=none) (h2:stepA C L nt ops (base+i) o s=some (.norm s1)) :
  ∃ v s2,wantA ops s.tmps o=some true/\opA C L (base+i) s o.op=some (.wr v s2):=by
 unfold stepD at h1
 unfold stepA at h2
 cases hw:wantA ops s.tmps o with
 |none=>rw [hw] at h2;cases h2
 |some b=>
  cases b with
  |true=>
   rw [hw] at h1 h2
   cases ho:opA C L (base+i) s o.op with
   |none=>rw [ho] at h2;cases h2
   |some e=>
    cases e with
    |wr v s2=>exact ⟨v,s2,rfl,rfl⟩
    |pan v s2=>rw [ho] at h2;cases h2
    |val v ups=>
     rw [ho] at h1 h2
     simp only at h1 h2
     cases hp:put nt { s with G:=updL s.G ups } o.dst v with
     |none=>rw [hp] at h2;cases h2
     |some s'=>rw [hp] at h1;cases h1
  |false=>
   rw [hw] at h1 h2
   simp only at h1 h2
   cases hp:put nt s o.dst (.imm (.tup [])) with
   |none=>rw [hp] at h2;cases h2
   |some s'=>rw [hp] at h1;cases h1
theorem stepD_wr {nt:Nat} {ops:Array Oper} {base i:Nat} {o:Oper} {s s2:St} {v:AV} (h1:wantA ops s.tmps o=some true) (h2:opA C L (base+i) s o.op=some (.wr v s2)):stepD C L nt ops base i o s=none:=by
 unfold stepD
 rw [h1]
 simp only [h2]
theorem stepP_mono (h:L.le L') {nt:Nat} {ops:Array Oper} {base i:Nat} {o:Oper} {s:St} {fs:List Fp} {x:St×List Fp} (he:stepP C L nt ops base i o s fs=some x):stepP C L' nt ops base i o s fs=some x:=by
 unfold stepP at he ⊢
 cases hd:stepD C L nt ops base i o s with
 |some y=>rw [stepD_mono h hd];rw [hd] at he;exact he
 |none=>
  rw [hd] at he
  simp only at he
  split at he
  ·rename_i hk
   split at he
   ·rename_i s1 ha
    obtain ⟨v,s2,h1,h2⟩:=stepD_alone hd ha
    rw [stepD_wr h1 (opA_mono h h2)]
    simp only [if_pos hk,stepA_mono h ha]
    exact he
   ·cases he
  ·cases he
theorem runP_mono (h:L.le L') {nt:Nat} {ops:Array Oper} {base:Nat}:∀ (l:List Nat) (fs:List Fp) (s:St) {x:St×List Fp},runP C L nt ops base l fs s=some x->runP C L' nt ops base l fs s=some x
 |[],_,_,_,he=>he
 |i::r,fs,s,x,he=>by
  unfold runP at he ⊢
  split
  ·rename_i ho;rw [ho] at he;exact he
  ·rename_i o ho
   rw [ho] at he
   simp only at he
   cases hs:stepP C L nt ops base i o s fs with
   |none=>rw [hs] at he;cases he
   |some y=>
    rw [stepP_mono h hs];rw [hs] at he
    exact runP_mono h r _ _ he
theorem stepX_mono (h:L.le L') {nt:Nat} {ops:Array Oper} {base i:Nat} {o:Oper} {s:St} {x:St×Fp×Option IV} (he:stepX C L nt ops base i o s=some x):stepX C L' nt ops base i o s=some x:=by
 unfold stepX at he ⊢
 split
 ·rename_i hw
  rw [hw] at he
  simp only at he
  cases ho:opA C L (base+i) s o.op with
  |none=>rw [ho] at he;cases he
  |some e=>rw [opA_mono h ho];rw [ho] at he;exact he
 ·rename_i hw;rw [hw] at he;exact he
 ·rename_i hw;rw [hw] at he;exact he
theorem runX_mono (h:L.le L') {nt:Nat} {ops:Array Oper} {base:Nat}:∀ (l ps:List Nat) (s:St) {x:List (Fp×Option IV)},runX C L nt ops base l ps s=some x->runX C L' nt ops base l ps s=some x
 |[],_,_,_,he=>he
 |i::r,ps,s,x,he=>by
  unfold runX at he ⊢
  split
  ·rename_i hp;rw [if_pos hp] at he;exact runX_mono h r ps s he
  ·rename_i hp
   rw [if_neg hp] at he
   split
   ·rename_i ho;rw [ho] at he;exact he
   ·rename_i o ho
    rw [ho] at he
    simp only at he
    cases hs:stepX C L nt ops base i o s with
    |none=>rw [hs] at he;cases he
    |some y=>
     obtain ⟨s1,f,v⟩:=y
     rw [stepX_mono h hs];rw [hs] at he
     cases v with
     |none=>
      simp only at he ⊢
      cases hr:runX C L nt ops base r ps s1 with
      |none=>rw [hr] at he;cases he
      |some z=>rw [runX_mono h r ps s1 hr];rw [hr] at he;exact he
     |some v=>
      simp only at he ⊢
      cases hr:runX C L nt ops base r (i::ps) s1 with
      |none=>rw [hr] at he;cases he
      |some z=>rw [runX_mono h r (i::ps) s1 hr];rw [hr] at he;exact he
theorem runX_fails (h:L.le L') {nt:Nat} {ops:Array Oper} {base:Nat}:∀ (l:List Nat) (fs:List Fp) (s:St) {es:List (Fp×Option IV)},runX C L nt ops base l [] s=some es->es.filterMap (·.2)≠[]->runP C L' nt ops base l fs s=none
 |[],_,_,es,he,hn=>by simp [runX] at he;subst he;simp at hn
 |i::r,fs,s,es,he,hn=>by
  unfold runX at he
  unfold runP
  simp only [List.any_nil,Bool.false_eq_true,if_false] at he
  cases ho:ops[i]? with
  |none=>rfl
  |some o=>
   rw [ho] at he
   simp only at he ⊢
   cases hs:stepX C L nt ops base i o s with
   |none=>rw [hs] at he;cases he
   |some y=>
    obtain ⟨s1,f,v⟩:=y
    rw [hs] at he
    have hx:=stepX_mono h hs
    cases v with
    |none=>
     simp only at he
     have hd:stepD C L' nt ops base i o s=some (s1,f):=by
      unfold stepX at hx
      unfold stepD
      split at hx
      ·split at hx
       ·rename_i ho;rw [ho];split at hx<;>simp_all
       ·split at hx<;>simp at hx
       ·cases hx
      ·split at hx<;>simp_all
      ·cases hx
     unfold stepP
     rw [hd]
     simp only
     cases hr:runX C L nt ops base r [] s1 with
     |none=>rw [hr] at he;cases he
     |some z=>
      rw [hr] at he
      simp only [Option.some.injEq] at he
      subst he
      exact runX_fails h r _ s1 hr (by simpa using hn)
    |some v=>
     have hd:stepD C L' nt ops base i o s=none/\∃ v s2,stepA C L' nt ops (base+i) o s=some (.pan v s2):=by
      unfold stepX at hx
      unfold stepD stepA
      split at hx
      ·split at hx
       ·split at hx<;>simp at hx
       ·rename_i ho;rw [ho];exact ⟨rfl,_,_,rfl⟩
       ·cases hx
      ·split at hx<;>simp at hx
      ·cases hx
     obtain ⟨h1,w,s2,h2⟩:=hd
     unfold stepP
     rw [h1,h2]
     simp only
     split
     ·rename_i hc;split at hc<;>simp_all
     ·rfl
theorem failA_mono (h:L.le L') {nt:Nat} {ops:Array Oper} {s:St} {x:Out} (he:failA C L nt ops s=some x) :
  runP C L' nt ops s.nx (List.range ops.size) [] { s with nx:=s.nx+ops.size }=none/\failA C L' nt ops s=some x:=by
 unfold failA at he
 split at he
 ·rename_i es hes
  split at he
  ·rename_i v r hv
   exact ⟨runX_fails h _ _ _ hes (by rw [hv];simp),by unfold failA;rw [runX_mono h _ _ _ hes];simp only [hv];exact he⟩
  ·cases he
 ·cases he
theorem regionA_mono (h:L.le L') {nt:Nat} {ops:Array Oper} {draw:Bool} {s:St} {x:Out} (he:regionA C L nt ops draw s=some x):regionA C L' nt ops draw s=some x:=by
 unfold regionA at he ⊢
 split
 ·rename_i hd
  rw [if_pos hd] at he
  split at he
  ·rename_i hr;rw [runP_mono h _ _ _ hr];exact he
  ·obtain ⟨h1,h2⟩:=failA_mono h he
   rw [h1];exact h2
 ·rename_i hd
  rw [if_neg hd] at he
  exact runA_mono h _ _ he
theorem iter_mono {f g:St->Option Out} (h:∀ s x,f s=some x->g s=some x):∀ (n m:Nat),n<=m->∀ s x,iter f n s=some x->iter g m s=some x
 |0,_,_,_,_,he=>nomatch he
 |n+1,0,hl,_,_,_=>by omega
 |n+1,m+1,hl,s,x,he=>by
  unfold iter at he ⊢
  cases hs:f s with
  |none=>rw [hs] at he;cases he
  |some y=>
   rw [h _ _ hs];rw [hs] at he
   cases y with
   |norm s'=>exact iter_mono h n m (by omega) s' x he
   |_=>exact he
theorem rangeA_mono (h:L.le L') {fid nt:Nat} {f:AV} {params:List Nat} {assign body:Code} {s:St} {x:Out} (he:rangeA C L fid nt f params assign body s=some x):rangeA C L' fid nt f params assign body s=some x:=by
 unfold rangeA at he ⊢
 split
 ·rename_i kf cap hf
  rw [hf] at he
  simp only at he
  split at he
  ·rename_i hc;rw [callA_mono h hc];exact he
  ·rename_i hc;rw [callA_mono h hc];exact he
  ·cases he
 ·rename_i hf
  split at he
  ·exact absurd (by assumption) (hf _ _)
  ·exact he
theorem code_mono (h:L.le L') {lf lf':Nat} (hl:lf<=lf') {fid nt:Nat}:∀ (c:Code) (s:St) (x:Out),code C L lf fid nt c s=some x->code C L' lf' fid nt c s=some x:=by
 intro c
 induction c with
 |seq a b iha ihb=>
  intro s x he
  unfold code at he ⊢
  cases ha:code C L lf fid nt a s with
  |none=>rw [ha] at he;cases he
  |some y=>
   rw [iha _ _ ha];rw [ha] at he
   cases y with
   |norm s'=>exact ihb _ _ he
   |_=>exact he
 |cond c t e iht ihe=>
  intro s x he
  unfold code at he ⊢
  split
  ·rename_i b hb
   rw [hb] at he
   cases b with
   |true=>exact iht _ _ he
   |false=>exact ihe _ _ he
  ·rename_i hb
   split at he
   ·exact absurd (by assumption) (hb _)
   ·cases he
 |block id b ih=>
  intro s x he
  unfold code at he ⊢
  cases hb:code C L lf fid nt b s with
  |none=>rw [hb] at he;cases he
  |some y=>rw [ih _ _ hb];rw [hb] at he;exact he
 |loop b ih=>
  intro s x he
  unfold code at he ⊢
  exact iter_mono ih _ _ hl _ _ he
 |region _ ops draw=>intro s x he;unfold code at he ⊢;exact regionA_mono h he
 |scope b ih=>intro s x he;unfold code at he ⊢;exact ih _ _ he
 |rangeFunc f params assign body _ _=>
  intro s x he
  unfold code at he ⊢
  split
  ·rename_i hp;rw [hp] at he;exact he
  ·rename_i hp
   split at he
   ·exact absurd (by assumption) hp
   ·exact rangeA_mono h he
 |_=>intro s x he;first|exact he|(unfold code at he ⊢;exact he)
theorem leaveA_mono (h:L.le L') {rs:List ResultVar}:∀ (ds:List (AV×List AV)) (m:Option IV) (s:St) {x:CR×Pk},leaveA C L rs ds m s=some x->leaveA C L' rs ds m s=some x
 |[],none,_,_,he=>he
 |[],some _,_,_,he=>he
 |(g,ars)::ds,m,s,x,he=>by
  unfold leaveA at he ⊢
  split
  ·rename_i k cap hf
   rw [hf] at he
   simp only at he
   split at he
   ·rename_i hc
    rw [h.call _ _ _ _ _ _ hc]
    exact leaveA_mono h ds _ _ he
   ·cases he
  ·rename_i hf
   split at he
   ·exact absurd (by assumption) (hf _ _)
   ·exact he
theorem callF_mono (h:L.le L') {lf lf':Nat} (hl:lf<=lf') {f:FuncId} {args:List AV} {pk:Pk} {G:Nat->Obj} {nx:Nat} {x:CR×Pk} (he:callF C L lf f args pk G nx=some x):callF C L' lf' f args pk G nx=some x:=by
 unfold callF at he ⊢
 split
 ·rename_i fn hf
  rw [hf] at he
  simp only at he
  split
  ·rename_i b hb
   rw [hb] at he
   simp only at he
   split
   ·rename_i hs
    rw [if_pos hs] at he
    cases hc:code C L lf f fn.ntmps b ⟨initT args,G,nx,[],pk⟩ with
    |none=>rw [hc] at he;cases he
    |some y=>
     rw [code_mono h hl _ _ _ hc];rw [hc] at he
     cases y with
     |norm s=>exact leaveA_mono h _ _ _ he
     |ret s=>exact leaveA_mono h _ _ _ he
     |pan v s=>exact leaveA_mono h _ _ _ he
     |exit _ _=>exact he
   ·rename_i hs;rw [if_neg hs] at he;exact he
  ·rename_i hb;rw [hb] at he;exact he
 ·rename_i hf;rw [hf] at he;exact he
theorem roundF_mono (h:L.le L') {lf lf':Nat} (hl:lf<=lf') {q:Nat} {args:List AV} {G:Nat->Obj} {nx:Nat} {x:CR×Pk} (he:roundF C L lf q args G nx=some x):roundF C L' lf' q args G nx=some x:=by
 unfold roundF at he ⊢
 split
 ·rename_i tmps nt params assign body fid e hq
  rw [hq] at he
  simp only at he
  split
  ·rename_i hs
   rw [if_pos hs] at he
   split at he
   ·rename_i s ha
    rw [code_mono h hl _ _ _ ha]
    simp only
    split
    ·rename_i hG
     rw [hG] at he
     simp only at he
     split at he
     ·rename_i hb;rw [code_mono h hl _ _ _ hb];exact he
     ·rename_i hb;rw [code_mono h hl _ _ _ hb];exact he
     ·rename_i hb;rw [code_mono h hl _ _ _ hb];exact he
     ·rename_i hb;rw [code_mono h hl _ _ _ hb];exact he
     ·cases he
    ·rename_i hG
     split at he
     ·exact absurd (by assumption) (hG _ _ _ _ _ _ _)
     ·exact he
   ·cases he
  ·rename_i hs;rw [if_neg hs] at he;exact he
 ·rename_i hq
  split at he
  ·exact absurd (by assumption) (hq _ _ _ _ _ _ _)
  ·exact he
theorem low_succ:∀ n,(low C n).le (low C (n+1))
 |0 => .mk (fun _ _ _ _ _ _ h=>nomatch h) (fun _ _ _ _ _ h=>nomatch h)
 |n+1=>⟨fun _ _ _ _ _ _ h=>callF_mono (low_succ n) (Nat.le_succ n) h,fun _ _ _ _ _ h=>roundF_mono (low_succ n) (Nat.le_succ n) h⟩
theorem low_mono {n m:Nat} (h:n<=m):(low C n).le (low C m):=by
 induction h with
 |refl=>exact ⟨fun _ _ _ _ _ _ h=>h,fun _ _ _ _ _ h=>h⟩
 |step _ ih=>exact ⟨fun _ _ _ _ _ _ h=>(low_succ _).call _ _ _ _ _ _ (ih.call _ _ _ _ _ _ h),fun _ _ _ _ _ h=>(low_succ _).round _ _ _ _ _ (ih.round _ _ _ _ _ h)⟩
end Go.Abs

/- The abstract interpreter: a logic of what code comes to, by what is known of its temporaries. -/
namespace Go.Abs
abbrev Env:=List (Nat×AV)
def look:Env->Nat->Option AV
 |[],_=>none
 |(j,v)::r,i=>match Nat.beq i j with
  |true=>some v
  |false=>look r i
def lookC:Value->Option AV
 | .bool b=>some (.imm (.bool b))
 | .int k n=>some (.imm (.int k n))
 | .string s=>some (.imm (.str s))
 | .slice none 0 0=>some .nils
 | .pointer none=>some (.imm .nilp)
 | .map none=>some (.imm .nilmap)
 | .nilFunc=>some (.imm .nilfn)
 | .nilIface=>some (.imm .niliface)
 |v=>some (cv v)
def lookO (l:Env):Operand->Option AV
 | .tmp t=>look l t
 | .const v=>lookC v
 | .func f=>some (.imm (.fn (.func f) []))
 | .global _=>none
def looks (l:Env):List Operand->Option (List AV)
 |[]=>some []
 |x::r=>match lookO l x with
  |some v=>match looks l r with
   |some vs=>some (v::vs)
   |none=>none
  |none=>none
def Agree (t:Nat->AV) (l:Env):Prop:=∀ i v,look l i=some v->t i=v
theorem lookC_cv {c:Value} {v:AV} (h:lookC c=some v):cv c=v:=by
 unfold lookC at h
 split at h<;>first|(cases h;rfl)|(simp only [Option.some.injEq] at h;exact h)
theorem Agree.ev {t:Nat->AV} {l:Env} (h:Agree t l) {x:Operand} {v:AV} (hx:lookO l x=some v):Go.Abs.ev t x=v:=by
 cases x with
 |tmp i=>exact h i v hx
 |const c=>exact lookC_cv hx
 |func f=>simp only [lookO,Option.some.injEq] at hx;exact hx
 |global g=>cases hx
theorem Agree.evs {t:Nat->AV} {l:Env} (h:Agree t l):∀ {xs:List Operand} {vs:List AV},looks l xs=some vs->xs.map (Go.Abs.ev t)=vs
 |[],vs,hx=>by cases hx;rfl
 |x::r,vs,hx=>by
  unfold looks at hx
  split at hx
  ·rename_i v hv
   split at hx
   ·rename_i ws hw
    cases hx
    simp only [List.map_cons,h.ev hv,h.evs hw]
   ·cases hx
  ·cases hx
theorem Agree.put {t:Nat->AV} {l:Env} (h:Agree t l) (d:Nat) (v:AV):Agree (upd t d v) ((d,v)::l):=by
 intro i w hw
 unfold look at hw
 unfold upd
 split at hw
 ·rename_i hb
  have:i=d:=Nat.eq_of_beq_eq_true hb
  cases hw
  rw [if_pos this]
 ·rename_i hb
  have:i≠d:=fun e=>by subst e;rw [Nat.beq_refl] at hb;cases hb
  rw [if_neg this]
  exact h i w hw
def Sub (l' l:Env):Prop:=∀ i v,look l' i=some v->look l i=some v
theorem Sub.nil (l:Env):Sub [] l:=fun _ _ h=>by cases h
theorem Sub.cons {l' l:Env} {d:Nat} {v:AV} (h:look l d=some v) (hr:Sub l' l):Sub ((d,v)::l') l:=by
 intro i w hw
 unfold look at hw
 split at hw
 ·rename_i hb
  have:i=d:=Nat.eq_of_beq_eq_true hb
  cases hw
  rw [this];exact h
 ·exact hr i w hw
theorem Agree.sub {t:Nat->AV} {l l':Env} (h:Agree t l) (hs:Sub l' l):Agree t l':=fun i v hv=>h i v (hs i v hv)
/-! ### what code comes to -/
variable {C:Cfg}
def Wst (C:Cfg) (fid nt:Nat) (b:Code) (s:St) (Φ:Out->Prop):Prop:=∃ n o,code C (low C n) n fid nt b s=some o/\Φ o
structure W (C:Cfg) (fid nt:Nat) (b:Code) (l:Env) (G:Nat->Obj) (nx:Nat) (df:List (AV×List AV)) (pk:Pk) (Φ:Out->Prop):Prop where
 st:∀ t,Agree t l->Wst C fid nt b ⟨t,G,nx,df,pk⟩ Φ
def runL (C:Cfg) (L:Low) (nt:Nat) (ops:Array Oper) (base:Nat):Nat->List Oper->St->Option Out
 |_,[],s=>some (.norm s)
 |i,o::r,s=>match stepA C L nt ops (base+i) o s with
  |some (.norm s')=>runL C L nt ops base (i+1) r s'
  |x=>x
theorem runA_eq (C:Cfg) (L:Low) (nt:Nat) (ops:Array Oper) (base:Nat):∀ (l:List Oper) (i:Nat) (s:St),ops.toList.drop i=l->runA C L nt ops base (List.range' i l.length) s=runL C L nt ops base i l s
 |[],_,_,_=>rfl
 |o::r,i,s,h=>by
  have h0:ops[i]? = some o:=by
   have:=congrArg (fun l=>l[0]?) h
   simpa using this
  have h1:ops.toList.drop (i+1)=r:=by
   have:=congrArg List.tail h
   simpa using this
  simp only [List.length_cons,List.range'_succ,runA,h0,runL]
  cases stepA C L nt ops (base+i) o s with
  |none=>rfl
  |some x=>cases x with
   |norm s'=>exact runA_eq C L nt ops base r (i+1) s' h1
   |_=>rfl
theorem runL_mono {L L':Low} (h:L.le L') {nt:Nat} {ops:Array Oper} {base:Nat}:∀ (l:List Oper) (i:Nat) (s:St) {x:Out},runL C L nt ops base i l s=some x->runL C L' nt ops base i l s=some x
 |[],_,_,_,he=>he
 |o::r,i,s,x,he=>by
  unfold runL at he ⊢
  cases hs:stepA C L nt ops (base+i) o s with
  |none=>rw [hs] at he;cases he
  |some y=>
   rw [stepA_mono h hs];rw [hs] at he
   cases y with
   |norm s'=>exact runL_mono h r (i+1) s' he
   |_=>exact he
def Rst (C:Cfg) (nt:Nat) (ol:List Oper) (base i:Nat) (r:List Oper) (s:St) (Φ:Out->Prop):Prop:=∃ n o,runL C (low C n) nt ⟨ol⟩ base i r s=some o/\Φ o
structure R (C:Cfg) (nt:Nat) (ol:List Oper) (base i:Nat) (r:List Oper) (l:Env) (G:Nat->Obj) (nx:Nat) (df:List (AV×List AV)) (pk:Pk) (Φ:Out->Prop):Prop where
 st:∀ t,Agree t l->Rst C nt ol base i r ⟨t,G,nx,df,pk⟩ Φ
def aft (C:Cfg) (fid nt:Nat) (b:Code) (Φ:Out->Prop):Out->Prop
 | .norm s=>Wst C fid nt b s Φ
 |o=>Φ o
def blk' (id:Nat) (Φ:Out->Prop):Out->Prop
 | .exit id' s=>if id'=id then Φ (.norm s) else Φ (.exit id' s)
 |o=>Φ o
def lop {X:Type} (le:X->Env) (Ge:X->Nat->(Nat->Obj)->Prop) (mu:X->Nat) (df:List (AV×List AV)) (pk:Pk) (x:X) (Φ:Out->Prop):Out->Prop
 | .norm s=>∃ x',mu x' < mu x/\Agree s.tmps (le x')/\Ge x' s.nx s.G/\s.defers=df/\s.pk=pk
 |o=>Φ o
variable {fid nt:Nat} {l:Env} {G:Nat->Obj} {nx:Nat} {df:List (AV×List AV)} {pk:Pk} {Φ Φ':Out->Prop} {a b:Code}
theorem W.mono (h:W C fid nt b l G nx df pk Φ) (hi:∀ o,Φ o->Φ' o):W C fid nt b l G nx df pk Φ' := .mk fun t ht=>by
 obtain ⟨n,o,h1,h2⟩:=h.st t ht
 exact ⟨n,o,h1,hi o h2⟩
theorem W.seq (h:W C fid nt a l G nx df pk (aft C fid nt b Φ)):W C fid nt (.seq a b) l G nx df pk Φ:=by
 refine .mk fun t ht=>?_
 obtain ⟨n,o,h1,h2⟩:=h.st t ht
 cases o with
 |norm s=>
  obtain ⟨m,o',h3,h4⟩:=h2
  refine ⟨max n m,o',?_,h4⟩
  unfold code
  rw [code_mono (low_mono (Nat.le_max_left n m)) (Nat.le_max_left n m) _ _ _ h1]
  exact code_mono (low_mono (Nat.le_max_right n m)) (Nat.le_max_right n m) _ _ _ h3
 |_=>exact ⟨n,_,by unfold code;rw [h1],h2⟩
theorem W.region {k:Nat} {ol:List Oper} (h:R C nt ol nx 0 ol l G (nx+ol.length) df pk Φ):W C fid nt (.region k ⟨ol⟩ false) l G nx df pk Φ:=by
 refine .mk fun t ht=>?_
 obtain ⟨n,o,h1,h2⟩:=h.st t ht
 refine ⟨n,o,?_,h2⟩
 unfold code regionA
 rw [if_neg (by simp)]
 rw [<-runA_eq C (low C n) nt ⟨ol⟩ nx ol 0 _ rfl] at h1
 rw [<-h1,List.range_eq_range']
 rfl
theorem R.done {ol:List Oper} {base i:Nat} (h:W C fid nt b l G nx df pk Φ):R C nt ol base i [] l G nx df pk (aft C fid nt b Φ) := .mk fun t ht=>⟨0,_,rfl,h.st t ht⟩
theorem R.skip {ol:List Oper} {base i:Nat} (h:W C 0 nt .skip l G nx df pk Φ):R C nt ol base i [] l G nx df pk Φ := .mk fun t ht=>by
 obtain ⟨n,o,h1,h2⟩:=h.st t ht
 cases h1
 exact ⟨n,_,rfl,h2⟩
theorem W.cond {c:Operand} {v:Bool} (hc:lookO l c=some (.imm (.bool v))) (h1:v=true->W C fid nt a l G nx df pk Φ) (h0:v=false->W C fid nt b l G nx df pk Φ):W C fid nt (.cond c a b) l G nx df pk Φ:=by
 refine .mk fun t ht=>?_
 have he:=ht.ev hc
 cases v with
 |true=>
  obtain ⟨n,o,h1,h2⟩:=(h1 rfl).st t ht
  exact ⟨n,o,by unfold code;simp only [he];exact h1,h2⟩
 |false=>
  obtain ⟨n,o,h1,h2⟩:=(h0 rfl).st t ht
  exact ⟨n,o,by unfold code;simp only [he];exact h1,h2⟩
theorem W.condT {c:Operand} {v:Bool} (hc:lookO l c=some (.imm (.bool v))) (hv:v=true) (h1:W C fid nt a l G nx df pk Φ):W C fid nt (.cond c a b) l G nx df pk Φ:=W.cond hc (fun _=>h1) (fun h=>by rw [h] at hv;cases hv)
theorem W.condF {c:Operand} {v:Bool} (hc:lookO l c=some (.imm (.bool v))) (hv:v=false) (h1:W C fid nt b l G nx df pk Φ):W C fid nt (.cond c a b) l G nx df pk Φ:=W.cond hc (fun h=>by rw [h] at hv;cases hv) (fun _=>h1)
theorem W.block {id:Nat} (h:W C fid nt b l G nx df pk (blk' id Φ)):W C fid nt (.block id b) l G nx df pk Φ:=by
 refine .mk fun t ht=>?_
 obtain ⟨n,o,h1,h2⟩:=h.st t ht
 cases o with
 |exit id' s=>
  by_cases hi:id'=id
  ·exact ⟨n, .norm s,by unfold code;rw [h1];simp [hi],by simpa [blk',hi] using h2⟩
  ·exact ⟨n, .exit id' s,by unfold code;rw [h1];simp [hi],by simpa [blk',hi] using h2⟩
 |_=>exact ⟨n,_,by unfold code;rw [h1],h2⟩
theorem W.scope (h:W C fid nt b l G nx df pk Φ):W C fid nt (.scope b) l G nx df pk Φ := .mk fun t ht=>by
 obtain ⟨n,o,h1,h2⟩:=h.st t ht
 exact ⟨n,o,by unfold code;exact h1,h2⟩
theorem W.label {j:Nat} (h:W C fid nt .skip l G nx df pk Φ):W C fid nt (.label j) l G nx df pk Φ := .mk fun t ht=>by
 obtain ⟨n,o,h1,h2⟩:=h.st t ht
 exact ⟨n,o,h1,h2⟩
theorem W.loop {X:Type} (le:X->Env) (Ge:X->Nat->(Nat->Obj)->Prop) (mu:X->Nat) (x0:X) (hl:Sub (le x0) l) (hG:Ge x0 nx G)
  (h:∀ x nx G,Ge x nx G->W C fid nt b (le x) G nx df pk (lop le Ge mu df pk x Φ)):W C fid nt (.loop b) l G nx df pk Φ:=by
 have key:∀ k x nx G t,mu x<=k->Ge x nx G->Agree t (le x)->∃ n o,iter (code C (low C n) n fid nt b) n ⟨t,G,nx,df,pk⟩=some o/\Φ o:=by
  intro k
  induction k with
  |zero=>
   intro x nx G t hk hG ht
   obtain ⟨n,o,h1,h2⟩:=(h x nx G hG).st t ht
   cases o with
   |norm s=>obtain ⟨x',hlt,_⟩:=h2;omega
   |_=>exact ⟨n+1,_,by unfold iter;rw [code_mono (low_succ n) (Nat.le_succ n) _ _ _ h1],h2⟩
  |succ k ih=>
   intro x nx G t hk hG ht
   obtain ⟨n,o,h1,h2⟩:=(h x nx G hG).st t ht
   cases o with
   |norm s=>
    obtain ⟨x',hlt,ha,hg,hd,hp⟩:=h2
    obtain ⟨m,o,h3,h4⟩:=ih x' s.nx s.G s.tmps (by omega) hg ha
    refine ⟨max n m+1,o,?_,h4⟩
    unfold iter
    have e:n<=max n m+1:=Nat.le_succ_of_le (Nat.le_max_left n m)
    have e':m<=max n m:=Nat.le_max_right n m
    rw [code_mono (low_mono e) e _ _ _ h1]
    have:s=⟨s.tmps,s.G,s.nx,df,pk⟩:=by cases s;simp_all
    simp only
    rw [this]
    exact iter_mono (fun s x hx=>code_mono (low_mono (Nat.le_succ_of_le e')) (Nat.le_succ_of_le e') _ _ _ hx) _ _ e' _ _ h3
   |_=>exact ⟨n+1,_,by unfold iter;rw [code_mono (low_succ n) (Nat.le_succ n) _ _ _ h1],h2⟩
 refine .mk fun t ht=>?_
 obtain ⟨n,o,h1,h2⟩:=key _ x0 nx G t (Nat.le_refl _) hG (ht.sub hl)
 exact ⟨n,o,by unfold code;exact h1,h2⟩
theorem W.ret (h:∀ t,Agree t l->Φ (.ret ⟨t,G,nx,df,pk⟩)):W C fid nt .ret l G nx df pk Φ := .mk fun t ht=>⟨0,_,rfl,h t ht⟩
theorem W.exit {id:Nat} (h:∀ t,Agree t l->Φ (.exit id ⟨t,G,nx,df,pk⟩)):W C fid nt (.exit id) l G nx df pk Φ := .mk fun t ht=>⟨0,_,rfl,h t ht⟩
theorem W.skip (h:∀ t,Agree t l->Φ (.norm ⟨t,G,nx,df,pk⟩)):W C fid nt .skip l G nx df pk Φ := .mk fun t ht=>⟨0,_,rfl,h t ht⟩
theorem W.retI (h:W C fid nt .ret l G nx df pk Φ):∀ t,Agree t l->Φ (.ret ⟨t,G,nx,df,pk⟩):=fun t ht=>by
 obtain ⟨n,o,h1,h2⟩:=h.st t ht
 cases h1;exact h2
theorem W.exitI {id:Nat} (h:W C fid nt (.exit id) l G nx df pk Φ):∀ t,Agree t l->Φ (.exit id ⟨t,G,nx,df,pk⟩):=fun t ht=>by
 obtain ⟨n,o,h1,h2⟩:=h.st t ht
 cases h1;exact h2
theorem W.skipI (h:W C fid nt .skip l G nx df pk Φ):∀ t,Agree t l->Φ (.norm ⟨t,G,nx,df,pk⟩):=fun t ht=>by
 obtain ⟨n,o,h1,h2⟩:=h.st t ht
 cases h1;exact h2
/-! ends -/
theorem W.retAft {b:Code} (h:W C fid nt .ret l G nx df pk Φ):W C fid nt .ret l G nx df pk (aft C fid nt b Φ) := .ret h.retI
theorem W.retBlk {id:Nat} (h:W C fid nt .ret l G nx df pk Φ):W C fid nt .ret l G nx df pk (blk' id Φ) := .ret h.retI
theorem W.retLop {X:Type} {le:X->Env} {Ge:X->Nat->(Nat->Obj)->Prop} {mu:X->Nat} {df':List (AV×List AV)} {pk':Pk} {x:X} (h:W C fid nt .ret l G nx df pk Φ):W C fid nt .ret l G nx df pk (lop le Ge mu df' pk' x Φ) := .ret h.retI
theorem W.exitAft {id:Nat} {b:Code} (h:W C fid nt (.exit id) l G nx df pk Φ):W C fid nt (.exit id) l G nx df pk (aft C fid nt b Φ) := .exit h.exitI
theorem W.exitLop {id:Nat} {X:Type} {le:X->Env} {Ge:X->Nat->(Nat->Obj)->Prop} {mu:X->Nat} {df':List (AV×List AV)} {pk':Pk} {x:X} (h:W C fid nt (.exit id) l G nx df pk Φ):W C fid nt (.exit id) l G nx df pk (lop le Ge mu df' pk' x Φ) := .exit h.exitI
theorem W.exitBlk {id:Nat} (h:W C fid nt .skip l G nx df pk Φ):W C fid nt (.exit id) l G nx df pk (blk' id Φ) := .exit fun t ht=>by
 show (if id=id then _ else _)
 rw [if_pos rfl];exact h.skipI t ht
theorem W.exitBlkNe {id id':Nat} (hn:Nat.beq id id'=false) (h:W C fid nt (.exit id) l G nx df pk Φ):W C fid nt (.exit id) l G nx df pk (blk' id' Φ) := .exit fun t ht=>by
 show (if id=id' then _ else _)
 rw [if_neg (fun e=>by subst e;rw [Nat.beq_refl] at hn;cases hn)];exact h.exitI t ht
theorem W.skipAft {b:Code} {fid':Nat} (h:W C fid' nt b l G nx df pk Φ):W C fid nt .skip l G nx df pk (aft C fid' nt b Φ) := .skip h.st
theorem W.skipBlk {id:Nat} (h:W C fid nt .skip l G nx df pk Φ):W C fid nt .skip l G nx df pk (blk' id Φ) := .skip h.skipI
theorem W.skipLop {X:Type} {le:X->Env} {Ge:X->Nat->(Nat->Obj)->Prop} {mu:X->Nat} {x:X} (x':X) (hm:mu x' < mu x) (hl:Sub (le x') l) (hG:Ge x' nx G):W C fid nt .skip l G nx df pk (lop le Ge mu df pk x Φ):=
 .skip fun _ ht=>⟨x',hm,ht.sub hl,hG,rfl,rfl⟩
/-! ### operations -/
variable {ol r:List Oper} {base i d:Nat} {ty:TypeId} {pos:String} {af:Array Edge} {v:AV} {ups:List (Nat×U)}
structure OpV (C:Cfg) (id:Nat) (l:Env) (G:Nat->Obj) (nx:Nat) (df:List (AV×List AV)) (pk:Pk) (op:Op) (v:AV) (ups:List (Nat×U)):Prop where
 st:∀ t,Agree t l->∃ n,opA C (low C n) id ⟨t,G,nx,df,pk⟩ op=some (.val v ups)
theorem R.opU {op:Op} (h:OpV C (base+i) l G nx df pk op v ups) (hd:Nat.ble (d+1) nt=true)
  (next:R C nt ol base (i+1) r ((d,v)::l) (updL G ups) nx df pk Φ):R C nt ol base i (⟨some d,op,ty,pos,af,none⟩::r) l G nx df pk Φ:=by
 refine .mk fun t ht=>?_
 obtain ⟨n,hn⟩:=h.st t ht
 obtain ⟨m,o,h1,h2⟩:=next.st (upd t d v) (ht.put d v)
 refine ⟨max n m,o,?_,h2⟩
 have hlt:d < nt:=Nat.le_of_ble_eq_true hd
 unfold runL stepA
 simp only [wantA,opA_mono (low_mono (Nat.le_max_left n m)) hn,Go.Abs.put,if_pos hlt]
 exact runL_mono (low_mono (Nat.le_max_right n m)) _ _ _ h1
theorem R.opN {op:Op} (h:OpV C (base+i) l G nx df pk op v ups)
  (next:R C nt ol base (i+1) r l (updL G ups) nx df pk Φ):R C nt ol base i (⟨none,op,ty,pos,af,none⟩::r) l G nx df pk Φ:=by
 refine .mk fun t ht=>?_
 obtain ⟨n,hn⟩:=h.st t ht
 obtain ⟨m,o,h1,h2⟩:=next.st t ht
 refine ⟨max n m,o,?_,h2⟩
 unfold runL stepA
 simp only [wantA,opA_mono (low_mono (Nat.le_max_left n m)) hn,Go.Abs.put]
 exact runL_mono (low_mono (Nat.le_max_right n m)) _ _ _ h1
theorem R.op0 {op:Op} (h:OpV C (base+i) l G nx df pk op v []) (hd:Nat.ble (d+1) nt=true)
  (next:R C nt ol base (i+1) r ((d,v)::l) G nx df pk Φ):R C nt ol base i (⟨some d,op,ty,pos,af,none⟩::r) l G nx df pk Φ:=R.opU h hd next
theorem R.op1 {op:Op} {q:Nat} {x:Obj} (h:OpV C (base+i) l G nx df pk op v [(q, .set x)]) (hd:Nat.ble (d+1) nt=true)
  (next:R C nt ol base (i+1) r ((d,v)::l) (upd G q x) nx df pk Φ):R C nt ol base i (⟨some d,op,ty,pos,af,none⟩::r) l G nx df pk Φ:=R.opU h hd next
theorem R.opN1 {op:Op} {q:Nat} {x:Obj} (h:OpV C (base+i) l G nx df pk op v [(q, .set x)])
  (next:R C nt ol base (i+1) r l (upd G q x) nx df pk Φ):R C nt ol base i (⟨none,op,ty,pos,af,none⟩::r) l G nx df pk Φ:=R.opN h next
def gdst (ol:List Oper) (j:Nat):Option Nat:=(ol[j]?).bind (·.dst)
theorem wantA_eq {ol:List Oper} {t:Nat->AV} {o:Oper} {j d:Nat} {want:Bool} (hg:o.guard=some (j,want)) (hj:gdst ol j=some d):wantA ⟨ol⟩ t o=match t d with
  | .imm (.bool b)=>some (b==want)
  | .imm (.tup [])=>some false
  |_=>none:=by
 unfold gdst at hj
 unfold wantA
 rw [hg]
 simp only [List.getElem?_toArray,hj]<;>rfl
theorem want_t {t:Nat->AV} (ht:Agree t l) {o:Oper} {j e:Nat} {want x:Bool} (hg:o.guard=some (j,want)) (hj:gdst ol j=some e) (he:look l e=some (.imm (.bool x))) (hx:x=want):wantA ⟨ol⟩ t o=some true:=by
 subst hx
 rw [wantA_eq hg hj,ht e _ he];simp
theorem want_f {t:Nat->AV} (ht:Agree t l) {o:Oper} {j e:Nat} {want x:Bool} (hg:o.guard=some (j,want)) (hj:gdst ol j=some e) (he:look l e=some (.imm (.bool x))) (hx:x = !want):wantA ⟨ol⟩ t o=some false:=by
 subst hx
 rw [wantA_eq hg hj,ht e _ he];cases want<;>rfl
theorem want_n {t:Nat->AV} (ht:Agree t l) {o:Oper} {j e:Nat} {want:Bool} (hg:o.guard=some (j,want)) (hj:gdst ol j=some e) (he:look l e=some (.imm (.tup []))):wantA ⟨ol⟩ t o=some false:=by
 rw [wantA_eq hg hj,ht e _ he]
theorem R.guardT {o:Option Nat} {op:Op} {j e:Nat} {want x:Bool} (hj:gdst ol j=some e) (he:look l e=some (.imm (.bool x))) (hx:x=want) (h:R C nt ol base i (⟨o,op,ty,pos,af,none⟩::r) l G nx df pk Φ) :
  R C nt ol base i (⟨o,op,ty,pos,af,some (j,want)⟩::r) l G nx df pk Φ:=by
 refine .mk fun t ht=>?_
 obtain ⟨n,out,h1,h2⟩:=h.st t ht
 refine ⟨n,out,?_,h2⟩
 have hw:wantA ⟨ol⟩ t ⟨o,op,ty,pos,af,some (j,want)⟩=some true:=want_t ht rfl hj he hx
 rw [<-h1]
 unfold runL stepA
 simp only [hw]
 rfl
theorem R.guardS {op:Op} {j:Nat} {want:Bool} (hw:∀ t,Agree t l->wantA ⟨ol⟩ t ⟨some d,op,ty,pos,af,some (j,want)⟩=some false) (hd:Nat.ble (d+1) nt=true) (h:R C nt ol base (i+1) r ((d, .imm (.tup []))::l) G nx df pk Φ) :
  R C nt ol base i (⟨some d,op,ty,pos,af,some (j,want)⟩::r) l G nx df pk Φ:=by
 refine .mk fun t ht=>?_
 obtain ⟨n,out,h1,h2⟩:=h.st _ (ht.put d _)
 refine ⟨n,out,?_,h2⟩
 have hlt:d < nt:=Nat.le_of_ble_eq_true hd
 unfold runL stepA
 simp only [hw t ht,Go.Abs.put,if_pos hlt]
 exact h1
theorem R.guardF {op:Op} {j e:Nat} {want x:Bool} (hj:gdst ol j=some e) (he:look l e=some (.imm (.bool x))) (hx:x = !want) (hd:Nat.ble (d+1) nt=true) (h:R C nt ol base (i+1) r ((d, .imm (.tup []))::l) G nx df pk Φ) :
  R C nt ol base i (⟨some d,op,ty,pos,af,some (j,want)⟩::r) l G nx df pk Φ:=R.guardS (fun _ ht=>want_f ht rfl hj he hx) hd h
theorem R.guardN {op:Op} {j e:Nat} {want:Bool} (hj:gdst ol j=some e) (he:look l e=some (.imm (.tup []))) (hd:Nat.ble (d+1) nt=true) (h:R C nt ol base (i+1) r ((d, .imm (.tup []))::l) G nx df pk Φ) :
  R C nt ol base i (⟨some d,op,ty,pos,af,some (j,want)⟩::r) l G nx df pk Φ:=R.guardS (fun _ ht=>want_n ht rfl hj he) hd h
/-! ### regions that draw their order -/
def runE (C:Cfg) (L:Low) (nt:Nat) (ops:Array Oper) (base:Nat):Nat->List Oper->List Fp->St->Option (St×List Fp)
 |_,[],fs,s=>some (s,fs)
 |i,o::r,fs,s=>match stepP C L nt ops base i o s fs with
  |some (s1,fs1)=>runE C L nt ops base (i+1) r fs1 s1
  |none=>none
theorem runP_eq (C:Cfg) (L:Low) (nt:Nat) (ops:Array Oper) (base:Nat):∀ (l:List Oper) (i:Nat) (fs:List Fp) (s:St),ops.toList.drop i=l->runP C L nt ops base (List.range' i l.length) fs s=runE C L nt ops base i l fs s
 |[],_,_,_,_=>rfl
 |o::r,i,fs,s,h=>by
  have h0:ops[i]? = some o:=by
   have:=congrArg (fun l=>l[0]?) h
   simpa using this
  have h1:ops.toList.drop (i+1)=r:=by
   have:=congrArg List.tail h
   simpa using this
  simp only [List.length_cons,List.range'_succ,runP,h0,runE]
  cases stepP C L nt ops base i o s fs with
  |none=>rfl
  |some x=>exact runP_eq C L nt ops base r (i+1) x.2 x.1 h1
theorem runE_mono {L L':Low} (h:L.le L') {nt:Nat} {ops:Array Oper} {base:Nat}:∀ (l:List Oper) (i:Nat) (fs:List Fp) (s:St) {x:St×List Fp},runE C L nt ops base i l fs s=some x->runE C L' nt ops base i l fs s=some x
 |[],_,_,_,_,he=>he
 |o::r,i,fs,s,x,he=>by
  unfold runE at he ⊢
  cases hs:stepP C L nt ops base i o s fs with
  |none=>rw [hs] at he;cases he
  |some y=>
   rw [stepP_mono h hs];rw [hs] at he
   exact runE_mono h r (i+1) _ _ he
structure D (C:Cfg) (nt:Nat) (ol:List Oper) (base i:Nat) (r:List Oper) (l:Env) (G:Nat->Obj) (nx:Nat) (df:List (AV×List AV)) (pk:Pk) (fs:List Fp) (Φ:Out->Prop):Prop where
 st:∀ t,Agree t l->∃ n s' fs',runE C (low C n) nt ⟨ol⟩ base i r fs ⟨t,G,nx,df,pk⟩=some (s',fs')/\(drawOK ⟨ol⟩ fs'.reverse&&edgesOK ⟨ol⟩)=true/\Φ (.norm s')
theorem W.draw {k:Nat} {ol:List Oper} (h:D C nt ol nx 0 ol l G (nx+ol.length) df pk [] Φ):W C fid nt (.region k ⟨ol⟩ true) l G nx df pk Φ:=by
 refine .mk fun t ht=>?_
 obtain ⟨n,s',fs',h1,h2,h3⟩:=h.st t ht
 refine ⟨n, .norm s',?_,h3⟩
 unfold code regionA
 rw [if_pos rfl]
 rw [<-runP_eq C (low C n) nt ⟨ol⟩ nx ol 0 _ _ rfl,<-List.range_eq_range'] at h1
 have h1':runP C (low C n) nt ⟨ol⟩ nx (List.range (Array.mk ol).size) [] { tmps:=t,G:=G,nx:=nx+(Array.mk ol).size,defers:=df,pk:=pk }=some (s',fs'):=h1
 simp only [h1']
 rw [if_pos h2]
theorem D.done {fs:List Fp} (hk:(drawOK ⟨ol⟩ fs.reverse&&edgesOK ⟨ol⟩)=true) (h:W C fid nt b l G nx df pk Φ):D C nt ol base i [] l G nx df pk fs (aft C fid nt b Φ):=
 .mk fun t ht=>⟨0,_,fs,rfl,hk,h.st t ht⟩
theorem D.skip {fs:List Fp} (hk:(drawOK ⟨ol⟩ fs.reverse&&edgesOK ⟨ol⟩)=true) (h:W C 0 nt .skip l G nx df pk Φ):D C nt ol base i [] l G nx df pk fs Φ := .mk fun t ht=>by
 obtain ⟨n,o,h1,h2⟩:=h.st t ht
 cases h1
 exact ⟨0,_,fs,rfl,hk,h2⟩
def rdE (l:Env) (G:Nat->Obj) (o:Op):Option (List Nat):=
 match pureOp o with
 |true=>some []
 |false=>match o with
  | .call { callee := .builtin _,args, .. }=>match looks l args.toList with
   |some vs=>some (vs.flatMap direct)
   |none=>none
  | .call { callee := .value f,args, .. }=>match lookO l f with
   |some fv=>match fnOf fv with
    |some (_,cap)=>match looks l args.toList with
     |some vs=>some ((vs++cap).flatMap (touch G pkDepth))
     |none=>none
    |none=>none
   |none=>none
  | .slice _ x _ _ _=>match lookO l x with
   |some v=>some (touch G pkDepth v)
   |none=>none
  | .store _ a _=>match lookO l a with
   |some v=>some (direct v)
   |none=>none
  | .mapUpdate _ m _ _ | .insert _ m _ _=>match lookO l m with
   |some v=>some (direct v)
   |none=>none
  | .load _ x=>match lookO l x with
   |some v=>some (direct v)
   |none=>none
  | .indexAddr _ x y | .lookup _ x y _=>match lookO l x,lookO l y with
   |some v,some w=>some (direct v++direct w)
   |_,_=>none
  | .convert _ _ x=>match lookO l x with
   |some v=>some (direct v)
   |none=>none
  |_=>none
theorem flat_map (h:AV->List Nat) {t:Nat->AV} (ht:Agree t l) {xs:List Operand} {vs:List AV} (hx:looks l xs=some vs):(xs.flatMap fun x=>h (Go.Abs.ev t x))=vs.flatMap h:=by
 rw [<-ht.evs hx,List.flatMap_map]
theorem rdE_ok {t:Nat->AV} (ht:Agree t l) {op:Op} {rd:List Nat} (h:rdE l G op=some rd):readsOf ⟨t,G,nx,df,pk⟩ op=rd:=by
 unfold rdE at h
 unfold readsOf
 split at h
 ·rename_i hp
  rw [if_pos hp];cases h;rfl
 ·rename_i hp
  rw [if_neg (by simp [hp])]
  split at h
  ·simp only
   split at h
   ·rename_i hl;cases h;exact flat_map direct ht hl
   ·cases h
  ·simp only
   split at h
   ·rename_i fv hf
    split at h
    ·rename_i cap hfn
     split at h
     ·rename_i vs hl
      cases h
      rw [ht.ev hf,hfn,ht.evs hl]
     ·cases h
    ·cases h
   ·cases h
  ·simp only
   split at h
   ·rename_i hl;cases h;rw [ht.ev hl]
   ·cases h
  ·simp only
   split at h
   ·rename_i hl;cases h;rw [ht.ev hl]
   ·cases h
  ·simp only
   split at h
   ·rename_i hl;cases h;rw [ht.ev hl]
   ·cases h
  ·simp only
   split at h
   ·rename_i hl;cases h;rw [ht.ev hl]
   ·cases h
  ·split at h
   ·rename_i hl;cases h;simp [Op.operands,ht.ev hl]
   ·cases h
  ·split at h
   ·rename_i hl hl';cases h;simp [Op.operands,ht.ev hl,ht.ev hl']
   ·cases h
  ·split at h
   ·rename_i hl hl';cases h;simp [Op.operands,ht.ev hl,ht.ev hl']
   ·cases h
  ·split at h
   ·rename_i hl;cases h;simp [Op.operands,ht.ev hl]
   ·cases h
  ·cases h
theorem D.opU {op:Op} {fs:List Fp} {rd:List Nat} (h:OpV C (base+i) l G nx df pk op v ups) (hr:rdE l G op=some rd) (hd:Nat.ble (d+1) nt=true)
  (next:D C nt ol base (i+1) r ((d,v)::l) (updL G ups) nx df pk (⟨i,rd,wrOf ups,fzOf ups⟩::fs) Φ):D C nt ol base i (⟨some d,op,ty,pos,af,none⟩::r) l G nx df pk fs Φ:=by
 refine .mk fun t ht=>?_
 obtain ⟨n,hn⟩:=h.st t ht
 obtain ⟨m,s',fs',h1,h2,h3⟩:=next.st (upd t d v) (ht.put d v)
 refine ⟨max n m,s',fs',?_,h2,h3⟩
 have hlt:d < nt:=Nat.le_of_ble_eq_true hd
 unfold runE stepP stepD
 simp only [wantA,opA_mono (low_mono (Nat.le_max_left n m)) hn,Go.Abs.put,if_pos hlt,rdE_ok ht hr]
 exact runE_mono (low_mono (Nat.le_max_right n m)) _ _ _ _ h1
theorem D.opN {op:Op} {fs:List Fp} {rd:List Nat} (h:OpV C (base+i) l G nx df pk op v ups) (hr:rdE l G op=some rd)
  (next:D C nt ol base (i+1) r l (updL G ups) nx df pk (⟨i,rd,wrOf ups,fzOf ups⟩::fs) Φ):D C nt ol base i (⟨none,op,ty,pos,af,none⟩::r) l G nx df pk fs Φ:=by
 refine .mk fun t ht=>?_
 obtain ⟨n,hn⟩:=h.st t ht
 obtain ⟨m,s',fs',h1,h2,h3⟩:=next.st t ht
 refine ⟨max n m,s',fs',?_,h2,h3⟩
 unfold runE stepP stepD
 simp only [wantA,opA_mono (low_mono (Nat.le_max_left n m)) hn,Go.Abs.put,rdE_ok ht hr]
 exact runE_mono (low_mono (Nat.le_max_right n m)) _ _ _ _ h1
theorem D.op0 {op:Op} {fs:List Fp} {rd:List Nat} (h:OpV C (base+i) l G nx df pk op v []) (hr:rdE l G op=some rd) (hd:Nat.ble (d+1) nt=true)
  (next:D C nt ol base (i+1) r ((d,v)::l) G nx df pk (⟨i,rd,[],[]⟩::fs) Φ):D C nt ol base i (⟨some d,op,ty,pos,af,none⟩::r) l G nx df pk fs Φ:=D.opU h hr hd next
theorem D.op1 {op:Op} {q:Nat} {x:Obj} {fs:List Fp} {rd:List Nat} (h:OpV C (base+i) l G nx df pk op v [(q, .set x)]) (hr:rdE l G op=some rd) (hd:Nat.ble (d+1) nt=true)
  (next:D C nt ol base (i+1) r ((d,v)::l) (upd G q x) nx df pk (⟨i,rd,[q],[]⟩::fs) Φ):D C nt ol base i (⟨some d,op,ty,pos,af,none⟩::r) l G nx df pk fs Φ:=D.opU h hr hd next
theorem D.opN1 {op:Op} {q:Nat} {x:Obj} {fs:List Fp} {rd:List Nat} (h:OpV C (base+i) l G nx df pk op v [(q, .set x)]) (hr:rdE l G op=some rd)
  (next:D C nt ol base (i+1) r l (upd G q x) nx df pk (⟨i,rd,[q],[]⟩::fs) Φ):D C nt ol base i (⟨none,op,ty,pos,af,none⟩::r) l G nx df pk fs Φ:=D.opN h hr next
theorem D.guardT {o:Option Nat} {op:Op} {j e:Nat} {want x:Bool} {fs:List Fp} (hj:gdst ol j=some e) (he:look l e=some (.imm (.bool x))) (hx:x=want) (h:D C nt ol base i (⟨o,op,ty,pos,af,none⟩::r) l G nx df pk fs Φ) :
  D C nt ol base i (⟨o,op,ty,pos,af,some (j,want)⟩::r) l G nx df pk fs Φ:=by
 refine .mk fun t ht=>?_
 obtain ⟨n,s',fs',h1,h2⟩:=h.st t ht
 refine ⟨n,s',fs',?_,h2⟩
 have hw:wantA ⟨ol⟩ t ⟨o,op,ty,pos,af,some (j,want)⟩=some true:=want_t ht rfl hj he hx
 rw [<-h1]
 unfold runE stepP stepD stepA
 simp only [hw]
 rfl
theorem D.guardS {op:Op} {j:Nat} {want:Bool} {fs:List Fp} (hw:∀ t,Agree t l->wantA ⟨ol⟩ t ⟨some d,op,ty,pos,af,some (j,want)⟩=some false) (hd:Nat.ble (d+1) nt=true) (h:D C nt ol base (i+1) r ((d, .imm (.tup []))::l) G nx df pk (⟨i,[],[],[]⟩::fs) Φ) :
  D C nt ol base i (⟨some d,op,ty,pos,af,some (j,want)⟩::r) l G nx df pk fs Φ:=by
 refine .mk fun t ht=>?_
 obtain ⟨n,s',fs',h1,h2,h3⟩:=h.st _ (ht.put d _)
 refine ⟨n,s',fs',?_,h2,h3⟩
 have hlt:d < nt:=Nat.le_of_ble_eq_true hd
 unfold runE stepP stepD
 simp only [hw t ht,Go.Abs.put,if_pos hlt]
 exact h1
theorem D.guardF {op:Op} {j e:Nat} {want x:Bool} {fs:List Fp} (hj:gdst ol j=some e) (he:look l e=some (.imm (.bool x))) (hx:x = !want) (hd:Nat.ble (d+1) nt=true) (h:D C nt ol base (i+1) r ((d, .imm (.tup []))::l) G nx df pk (⟨i,[],[],[]⟩::fs) Φ) :
  D C nt ol base i (⟨some d,op,ty,pos,af,some (j,want)⟩::r) l G nx df pk fs Φ:=D.guardS (fun _ ht=>want_f ht rfl hj he hx) hd h
theorem D.guardN {op:Op} {j e:Nat} {want:Bool} {fs:List Fp} (hj:gdst ol j=some e) (he:look l e=some (.imm (.tup []))) (hd:Nat.ble (d+1) nt=true) (h:D C nt ol base (i+1) r ((d, .imm (.tup []))::l) G nx df pk (⟨i,[],[],[]⟩::fs) Φ) :
  D C nt ol base i (⟨some d,op,ty,pos,af,some (j,want)⟩::r) l G nx df pk fs Φ:=D.guardS (fun _ ht=>want_n ht rfl hj he) hd h
theorem R.guardT1 {o:Option Nat} {op:Op} {j e:Nat} {x:Bool} (hj:gdst ol j=some e) (he:look l e=some (.imm (.bool x))) (hx:x=true) (h:R C nt ol base i (⟨o,op,ty,pos,af,none⟩::r) l G nx df pk Φ) :
  R C nt ol base i (⟨o,op,ty,pos,af,some (j,true)⟩::r) l G nx df pk Φ:=R.guardT hj he hx h
theorem R.guardF1 {op:Op} {j e:Nat} {x:Bool} (hj:gdst ol j=some e) (he:look l e=some (.imm (.bool x))) (hx:x=false) (hd:Nat.ble (d+1) nt=true) (h:R C nt ol base (i+1) r ((d, .imm (.tup []))::l) G nx df pk Φ) :
  R C nt ol base i (⟨some d,op,ty,pos,af,some (j,true)⟩::r) l G nx df pk Φ:=R.guardF hj he hx hd h
theorem R.guardC1 {op:Op} {j e:Nat} {x:Bool} (hj:gdst ol j=some e) (he:look l e=some (.imm (.bool x))) (hd:Nat.ble (d+1) nt=true)
  (h1:x=true->R C nt ol base i (⟨some d,op,ty,pos,af,none⟩::r) l G nx df pk Φ) (h0:x=false->R C nt ol base (i+1) r ((d, .imm (.tup []))::l) G nx df pk Φ) :
  R C nt ol base i (⟨some d,op,ty,pos,af,some (j,true)⟩::r) l G nx df pk Φ:=by
 by_cases hx:x=true
 ·exact R.guardT hj he hx (h1 hx)
 ·have hx':x=false:=by simpa using hx
  exact R.guardF hj he hx' hd (h0 hx')
theorem R.guardT0 {o:Option Nat} {op:Op} {j e:Nat} {x:Bool} (hj:gdst ol j=some e) (he:look l e=some (.imm (.bool x))) (hx:x=false) (h:R C nt ol base i (⟨o,op,ty,pos,af,none⟩::r) l G nx df pk Φ) :
  R C nt ol base i (⟨o,op,ty,pos,af,some (j,false)⟩::r) l G nx df pk Φ:=R.guardT hj he hx h
theorem R.guardF0 {op:Op} {j e:Nat} {x:Bool} (hj:gdst ol j=some e) (he:look l e=some (.imm (.bool x))) (hx:x=true) (hd:Nat.ble (d+1) nt=true) (h:R C nt ol base (i+1) r ((d, .imm (.tup []))::l) G nx df pk Φ) :
  R C nt ol base i (⟨some d,op,ty,pos,af,some (j,false)⟩::r) l G nx df pk Φ:=R.guardF hj he hx hd h
theorem R.guardC0 {op:Op} {j e:Nat} {x:Bool} (hj:gdst ol j=some e) (he:look l e=some (.imm (.bool x))) (hd:Nat.ble (d+1) nt=true)
  (h1:x=false->R C nt ol base i (⟨some d,op,ty,pos,af,none⟩::r) l G nx df pk Φ) (h0:x=true->R C nt ol base (i+1) r ((d, .imm (.tup []))::l) G nx df pk Φ) :
  R C nt ol base i (⟨some d,op,ty,pos,af,some (j,false)⟩::r) l G nx df pk Φ:=by
 by_cases hx:x=false
 ·exact R.guardT hj he hx (h1 hx)
 ·have hx':x=true:=by simpa using hx
  exact R.guardF hj he hx' hd (h0 hx')
theorem D.guardT1 {o:Option Nat} {op:Op} {j e:Nat} {x:Bool} {fs:List Fp} (hj:gdst ol j=some e) (he:look l e=some (.imm (.bool x))) (hx:x=true) (h:D C nt ol base i (⟨o,op,ty,pos,af,none⟩::r) l G nx df pk fs Φ) :
  D C nt ol base i (⟨o,op,ty,pos,af,some (j,true)⟩::r) l G nx df pk fs Φ:=D.guardT hj he hx h
theorem D.guardF1 {op:Op} {j e:Nat} {x:Bool} {fs:List Fp} (hj:gdst ol j=some e) (he:look l e=some (.imm (.bool x))) (hx:x=false) (hd:Nat.ble (d+1) nt=true) (h:D C nt ol base (i+1) r ((d, .imm (.tup []))::l) G nx df pk (⟨i,[],[],[]⟩::fs) Φ) :
  D C nt ol base i (⟨some d,op,ty,pos,af,some (j,true)⟩::r) l G nx df pk fs Φ:=D.guardF hj he hx hd h
theorem D.guardT0 {o:Option Nat} {op:Op} {j e:Nat} {x:Bool} {fs:List Fp} (hj:gdst ol j=some e) (he:look l e=some (.imm (.bool x))) (hx:x=false) (h:D C nt ol base i (⟨o,op,ty,pos,af,none⟩::r) l G nx df pk fs Φ) :
  D C nt ol base i (⟨o,op,ty,pos,af,some (j,false)⟩::r) l G nx df pk fs Φ:=D.guardT hj he hx h
theorem D.guardF0 {op:Op} {j e:Nat} {x:Bool} {fs:List Fp} (hj:gdst ol j=some e) (he:look l e=some (.imm (.bool x))) (hx:x=true) (hd:Nat.ble (d+1) nt=true) (h:D C nt ol base (i+1) r ((d, .imm (.tup []))::l) G nx df pk (⟨i,[],[],[]⟩::fs) Φ) :
  D C nt ol base i (⟨some d,op,ty,pos,af,some (j,false)⟩::r) l G nx df pk fs Φ:=D.guardF hj he hx hd h
/-! ### what each operation comes to -/
variable {id:Nat}
theorem O.of {op:Op} (h:∀ t L,Agree t l->opA C L id ⟨t,G,nx,df,pk⟩ op=some (.val v ups)):OpV C id l G nx df pk op v ups:=⟨fun t ht=>⟨0,h t _ ht⟩⟩
theorem O.move {x:Operand} (hx:lookO l x=some v):OpV C id l G nx df pk (.move x) v []:=O.of fun t L ht=>by simp only [opA,ht.ev hx]
theorem O.assign {x:Operand} (hx:lookO l x=some v):OpV C id l G nx df pk (.assign x) v []:=O.of fun t L ht=>by simp only [opA,ht.ev hx]
theorem O.pickT {c x y:Operand} {z:Bool} (hc:lookO l c=some (.imm (.bool z))) (hz:z=true) (hx:lookO l x=some v):OpV C id l G nx df pk (.pick c x y) v []:=
 O.of fun t L ht=>by subst hz;simp only [opA,ht.ev hc,ht.ev hx,cond_true]
theorem O.pickF {c x y:Operand} {z:Bool} (hc:lookO l c=some (.imm (.bool z))) (hz:z=false) (hx:lookO l y=some v):OpV C id l G nx df pk (.pick c x y) v []:=
 O.of fun t L ht=>by subst hz;simp only [opA,ht.ev hc,ht.ev hx,cond_false]
theorem O.int {op:BinOp} {t:TypeId} {x y:Operand} {t2:TypeId} {k:IntKind} {m n:Int} {u:IV} (hx:lookO l x=some (.imm (.int k m))) (hy:lookO l y=some (.imm (.int k n))) (hv:intOp op k m n=some u):OpV C id l G nx df pk (.binOp op t x y t2) (.imm u) []:=
 O.of fun t L ht=>by simp only [opA,ht.ev hx,ht.ev hy,binA,if_pos,hv,Option.map_some]
theorem O.cmp {op:BinOp} {t:TypeId} {x y:Operand} {t2:TypeId} {k:IntKind} {m n:Int} {u:Bool} (hx:lookO l x=some (.imm (.int k m))) (hy:lookO l y=some (.imm (.int k n))) (hv:intOp op k m n=some (.bool u)):OpV C id l G nx df pk (.binOp op t x y t2) (.imm (.bool u)) []:=O.int hx hy hv
theorem O.str {op:BinOp} {t:TypeId} {x y:Operand} {t2:TypeId} {m n:ByteArray} {u:IV} (hx:lookO l x=some (.imm (.str m))) (hy:lookO l y=some (.imm (.str n))) (hv:strOp op m n=some u):OpV C id l G nx df pk (.binOp op t x y t2) (.imm u) []:=
 O.of fun t L ht=>by simp only [opA,ht.ev hx,ht.ev hy,binA,hv,Option.map_some]
theorem wrap64 {x:Int} (h : -9223372036854775808<=x/\x<=9223372036854775807):IntKind.i64.wrap x=x:=by
 simp [IntKind.wrap,IntKind.bits,IntKind.signed]
 omega
theorem wrap8 {x:Int} (h:0<=x/\x<=255):IntKind.u8.wrap x=x:=by
 simp [IntKind.wrap,IntKind.bits,IntKind.signed]
 omega
theorem add64 {m n:Int} (h : -9223372036854775808<=m+n/\m+n<=9223372036854775807):intOp .add .i64 m n=some (.int .i64 (m+n)):=by simp only [intOp,wrap64 h]
theorem sub64 {m n:Int} (h : -9223372036854775808<=m-n/\m-n<=9223372036854775807):intOp .sub .i64 m n=some (.int .i64 (m-n)):=by simp only [intOp,wrap64 h]
theorem add8 {m n:Int} (h:0<=m+n/\m+n<=255):intOp .add .u8 m n=some (.int .u8 (m+n)):=by simp only [intOp,wrap8 h]
theorem O.not {t:TypeId} {x:Operand} {z:Bool} (hx:lookO l x=some (.imm (.bool z))):OpV C id l G nx df pk (.unOp .not t x) (.imm (.bool !z)) []:=O.of fun t L ht=>by simp only [opA,ht.ev hx,unA]
class TyIs (C:Cfg) (t:TypeId) (k:outParam TyI):Prop where
 is:C.ty t=some k
theorem O.boolEq {t:TypeId} {x y:Operand} {t2:TypeId} {m n:Bool} {k:TyI} [hk:TyIs C t k] (hb:k.d = .bool) (hx:lookO l x=some (.imm (.bool m))) (hy:lookO l y=some (.imm (.bool n))):OpV C id l G nx df pk (.binOp .eql t x y t2) (.imm (.bool (m==n))) []:=
 O.of fun t L ht=>by simp only [opA,ht.ev hx,ht.ev hy,binA,eqAV,hk.is,hb,eqOp,Option.map_some]
theorem O.len {x:Operand} {t:TypeId} {k:TyI} [hk:TyIs C t k] (hx:lookO l x=some v) {m:Nat} (hl:lenA G k.d v=some m):OpV C id l G nx df pk (.call { callee := .builtin .len,args := #[x],argTypes := #[t] }) (.imm (.int .i64 m)) []:=
 O.of fun t L ht=>by simp only [opA,List.map_cons,List.map_nil,ht.ev hx,aBuiltin,hk.is,hl]
theorem O.lenL {x:Operand} {t:TypeId} {k:TyI} {e:TypeId} [hk:TyIs C t k] {xs:List IV} (hx:lookO l x=some (.imm (.lst xs))) (hl:k.d = .sl e):OpV C id l G nx df pk (.call { callee := .builtin .len,args := #[x],argTypes := #[t] }) (.imm (.int .i64 xs.length)) []:=
 O.len (m:=xs.length) hx (by rw [hl];simp [lenA,elems])
theorem O.lenS {x:Operand} {t:TypeId} {k:TyI} [hk:TyIs C t k] {s:ByteArray} (hx:lookO l x=some (.imm (.str s))) (hl:k.d = .str):OpV C id l G nx df pk (.call { callee := .builtin .len,args := #[x],argTypes := #[t] }) (.imm (.int .i64 s.size)) []:=
 O.len (m:=s.size) hx (by rw [hl];simp [lenA])
theorem O.lenR {x:Operand} {t:TypeId} {k:TyI} {e et:TypeId} {o n sz:Nat} {xs:List AV} {fr:Bool} [hk:TyIs C t k] (hx:lookO l x=some (.row o n)) (hl:k.d = .sl e) (hG:G o = .row et sz xs fr) (hn:xs.length=n) :
  OpV C id l G nx df pk (.call { callee := .builtin .len,args := #[x],argTypes := #[t] }) (.imm (.int .i64 n)) []:=
 O.len (m:=n) hx (by rw [hl];simp [lenA,elems,hG,hn])
theorem O.index {x y:Operand} {t:TypeId} {k:TyI} {kk:IntKind} {w:ByteArray} {n:Int} [hk:TyIs C t k] (ht:k.d = .str) (hx:lookO l x=some (.imm (.str w))) (hy:lookO l y=some (.imm (.int kk n))) (hn:0<=n/\n < w.size) :
  OpV C id l G nx df pk (.index t x y) (.imm (.int .u8 (w.data.getD n.toNat 0).toNat)) []:=
 O.of fun t L hA=>by simp only [opA,hA.ev hx,hA.ev hy,aIndex,hk.is,ht,if_pos hn]
theorem O.addrL {x y:Operand} {t e:TypeId} {k ke:TyI} {xs:List IV} {kk:IntKind} {n:Int} {u:IV} [hk:TyIs C t k] (ht:k.d = .sl e) [he:TyIs C e ke] (hx:lookO l x=some (.imm (.lst xs))) (hy:lookO l y=some (.imm (.int kk n)))
  (h0:0<=n) (hu:xs[n.toNat]? = some u) (hs:u.cells.length=ke.sz):OpV C id l G nx df pk (.indexAddr t x y) (.imm (.eptr xs n.toNat 0)) []:=
 O.of fun t L hA=>by simp only [opA,hA.ev hx,hA.ev hy,aIndexAddr,hk.is,ht,he.is,if_pos h0,elemAddr,hu,if_pos hs]
theorem O.load1 {x:Operand} {t:TypeId} {k:TyI} {xs:List IV} {n:Nat} {u:IV} [hk:TyIs C t k] (hx:lookO l x=some (.imm (.eptr xs n 0))) (hu:xs[n]? = some u) (hc:u.cells=[u]) (hg:k.d.isAgg=false) (hs:k.sz=1) :
  OpV C id l G nx df pk (.load t x) (.imm u) []:=
 O.of fun t L hA=>by simp [opA,hA.ev hx,aLoad,hk.is,hg,hs,readAt,hu,hc,sub]
theorem O.addrR {x y:Operand} {t e et:TypeId} {k ke:TyI} {o m sz:Nat} {xs:List AV} {fr:Bool} {kk:IntKind} {n:Int} [hk:TyIs C t k] (ht:k.d = .sl e) [he:TyIs C e ke] (hx:lookO l x=some (.row o m)) (hy:lookO l y=some (.imm (.int kk n)))
  (hG:G o = .row et sz xs fr) (hm:xs.length=m) (h0:0<=n/\n < m) (hs:sz=ke.sz):OpV C id l G nx df pk (.indexAddr t x y) (.rptr o m n.toNat 0) []:=
 O.of fun t L hA=>by
  have:n.toNat < m:=by omega
  simp only [opA,hA.ev hx,hA.ev hy,aIndexAddr,hk.is,ht,he.is,if_pos h0.1,elemAddr,hG]
  rw [if_pos ⟨hm,this,hs⟩]
theorem O.loadR {x:Operand} {t et:TypeId} {k:TyI} {o m n sz:Nat} {xs:List AV} {fr:Bool} {u:AV} [hk:TyIs C t k] (hx:lookO l x=some (.rptr o m n 0)) (hG:G o = .row et sz xs fr) (hm:xs.length=m) (hu:xs[n]? = some u) (hc:u.cells=[u]) (hg:k.d.isAgg=false) (hs:k.sz=1) :
  OpV C id l G nx df pk (.load t x) u []:=
 O.of fun t L hA=>by simp [opA,hA.ev hx,aLoad,hk.is,hg,hs,readAt,hG,hm,hu,hc,sub]
theorem O.alloc {t:TypeId} {k:TyI} [hk:TyIs C t k] {cs:List AV} (hc:k.zero.cells=cs) (hs:cs.length=k.sz):OpV C id l G nx df pk (.alloc t) (.ptr id 0) [(id, .set (.box cs false))]:=
 O.of fun t L hA=>by simp [opA,aAlloc,hk.is,hs,hc]
def Ret (C:Cfg) (f:FuncId) (ivs:List IV) (x:IV):Prop:=∃ n v G' nx' pk' ids,(low C n).call f (ivs.map .imm) .no (fun _ => .gone) 0=some (.ret v G' nx',pk')/\peek G' pkDepth v=some (x,ids)
class FnIs (C:Cfg) (f:FuncId):Prop where
 byref:C.byref f=false
 orc:∀ l,C.orc f l=none
theorem peeks_imm (G:Nat->Obj):∀ l:List IV,peeks G (l.map .imm)=some (l,[])
 |[]=>rfl
 |x::r=>by
  have:=peeks_imm G r
  unfold peeks at this ⊢
  simp only [List.map_cons,peekL,this]
  rfl
theorem give_nil (small:Bool) (v:AV):give [] small v = .val v []:=by cases small<;>rfl
def imms:List AV->Option (List IV)
 |[]=>some []
 | .imm x::r=>match imms r with
  |some l=>some (x::l)
  |none=>none
 |_::_=>none
theorem imms_eq:∀ {l:List AV} {xs:List IV},imms l=some xs->l=xs.map .imm
 |[],xs,h=>by cases h;rfl
 | .imm x::r,xs,h=>by
  unfold imms at h
  split at h
  ·rename_i l hl
   cases h
   rw [List.map_cons,imms_eq hl]
  ·cases h
 | .undef::r,xs,h=>by cases h
 | .nils::r,xs,h=>by cases h
 | .ptr _ _::r,xs,h=>by cases h
 | .rptr _ _ _ _::r,xs,h=>by cases h
 | .row _ _::r,xs,h=>by cases h
 | .map _::r,xs,h=>by cases h
 | .fn _ _::r,xs,h=>by cases h
 | .agg _::r,xs,h=>by cases h
 | .tup _::r,xs,h=>by cases h
 | .yld _::r,xs,h=>by cases h
theorem O.call {f:FuncId} {ars:List Operand} {ats:Array TypeId} {vs:List AV} {ivs:List IV} {x:IV} [hf:FnIs C f] (ha:looks l ars=some vs) (hi:imms vs=some ivs) (hr:Ret C f ivs x) :
  OpV C id l G nx df pk (.call { callee := .value (.func f),args:=⟨ars⟩,argTypes:=ats }) (.imm x) []:=by
 obtain ⟨n,v,G',nx',pk',ids,h1,h2⟩:=hr
 refine ⟨fun t ht=>⟨n,?_⟩⟩
 simp only [opA,ev,aCall,fnOf,List.map_nil,List.append_nil,callA,hf.byref,Bool.false_eq_true,if_false,ht.evs ha,imms_eq hi,peeks_imm,hf.orc,h1,h2,give_nil]
/-! ### a function's end -/
def fin (C:Cfg) (rs:List ResultVar) (Ψ:AV->(Nat->Obj)->Nat->Prop):Out->Prop
 | .norm s | .ret s=>s.defers=[]/\s.pk = .no/\∃ v,resultsA C s rs=some v/\Ψ v s.G s.nx
 |_=>False
theorem call_of {f:FuncId} {fn:Func} {b:Code} {args:List AV} {Ψ:AV->(Nat->Obj)->Nat->Prop} (hf:C.fn f=some fn) (hb:fn.body=some b) (hn:args.length<=fn.ntmps)
  (h:Wst C f fn.ntmps b ⟨initT args,G,nx,[], .no⟩ (fin C fn.results.toList Ψ)) (ha:C.at f=C:=by exact rfl):∃ n v G' nx',(low C n).call f args .no G nx=some (.ret v G' nx', .no)/\Ψ v G' nx':=by
 obtain ⟨n,o,h1,h2⟩:=h
 have go:∀ s:St,(s.defers=[]/\s.pk = .no/\∃ v,resultsA C s fn.results.toList=some v/\Ψ v s.G s.nx)->∃ v,leaveA C (low C n) fn.results.toList s.defers none s=some (.ret v s.G s.nx, .no)/\Ψ v s.G s.nx:=by
  intro s ⟨hd,hp,v,hv,hΨ⟩
  exact ⟨v,by rw [hd];simp only [leaveA,hv,hp],hΨ⟩
 cases o with
 |norm s=>
  obtain ⟨v,h3,h4⟩:=go s h2
  exact ⟨n+1,v,s.G,s.nx,by simp only [low,ha,callF,hf,hb,if_pos hn,h1,h3],h4⟩
 |ret s=>
  obtain ⟨v,h3,h4⟩:=go s h2
  exact ⟨n+1,v,s.G,s.nx,by simp only [low,ha,callF,hf,hb,if_pos hn,h1,h3],h4⟩
 |exit _ _=>exact h2.elim
 |pan _ _=>exact h2.elim
def envOf:Nat->List AV->Env
 |_,[]=>[]
 |i,v::r=>(i,v)::envOf (i+1) r
theorem agree_init (args:List AV):Agree (initT args) (envOf 0 args):=by
 have key:∀ (l:List AV) (k:Nat) i v,look (envOf k l) i=some v->k<=i/\l[i-k]? = some v:=by
  intro l
  induction l with
  |nil=>intro k i v h;cases h
  |cons x r ih=>
   intro k i v h
   unfold envOf look at h
   split at h
   ·rename_i hb
    have:i=k:=Nat.eq_of_beq_eq_true hb
    cases h
    subst this
    simp
   ·obtain ⟨h1,h2⟩:=ih (k+1) i v h
    refine ⟨by omega,?_⟩
    have:i-k=(i-(k+1))+1:=by omega
    rw [this];simpa using h2
 intro i v h
 obtain ⟨_,h2⟩:=key args 0 i v h
 unfold initT
 simp only [Nat.sub_zero] at h2
 rw [h2];rfl
theorem Ret.of {f:FuncId} {fn:Func} {b:Code} {ivs:List IV} {x:IV} (hf:C.fn f=some fn) (hb:fn.body=some b) (hn:Nat.ble ivs.length fn.ntmps=true)
  (h:W C f fn.ntmps b (envOf 0 (ivs.map .imm)) (fun _ => .gone) 0 [] .no (fin C fn.results.toList fun v G _=>∃ ids,peek G pkDepth v=some (x,ids))) (ha:C.at f=C:=by exact rfl):Ret C f ivs x:=by
 obtain ⟨n,v,G',nx',h1,ids,h2⟩:=call_of hf hb (by simpa using Nat.le_of_ble_eq_true hn) (h.st _ (agree_init _)) ha
 exact ⟨n,v,G',nx', .no,ids,h1,h2⟩
def resE (l:Env):List ResultVar->Option (List AV)
 |[]=>some []
 | .tmp t::rs=>match look l t,resE l rs with
  |some v,some vs=>some (v::vs)
  |_,_=>none
 |_::_=>none
theorem resE_ok {s:St} (h:Agree s.tmps l):∀ {rs:List ResultVar} {vs:List AV},resE l rs=some vs->resultsL C s rs=some vs
 |[],vs,hr=>by cases hr;rfl
 | .tmp t::rs,vs,hr=>by
  unfold resE at hr
  split at hr
  ·rename_i v ws hv hw
   cases hr
   simp only [resultsL,resultA,h t v hv,resE_ok h hw]
  ·cases hr
 | .cell _ _::rs,vs,hr=>by cases hr
theorem W.retFin1 {t:Nat} {Ψ:AV->(Nat->Obj)->Nat->Prop} (hv:look l t=some v) (h:Ψ v G nx):W C fid nt .ret l G nx [] .no (fin C [.tmp t] Ψ):=
 .ret fun t ht=>⟨rfl,rfl,v,by simp only [resultsA,resultsL,resultA,ht _ v hv],h⟩
theorem W.retFin {rs:List ResultVar} {vs:List AV} {Ψ:AV->(Nat->Obj)->Nat->Prop} (hv:resE l rs=some vs) (hn:Nat.beq vs.length 1=false) (h:Ψ (mkTup vs) G nx):W C fid nt .ret l G nx [] .no (fin C rs Ψ):=
 .ret fun t ht=>⟨rfl,rfl,mkTup vs,by
  simp only [resultsA,resE_ok (s:=⟨t,G,nx,[], .no⟩) ht hv]
  split
  ·simp_all
  ·rename_i heq;cases heq;rfl
  ·simp_all,h⟩
end Go.Abs

/- The abstract interpreter: a logic of what code comes to: calls by reference, rounds, ranges over functions. -/
namespace Go.Abs
variable {C:Cfg} {fid nt:Nat} {l:Env} {G:Nat->Obj} {nx:Nat} {df:List (AV×List AV)} {pk:Pk} {Φ Φ':Out->Prop} {a b:Code} {ol r:List Oper} {base i d:Nat} {ty:TypeId} {pos:String} {af:Array Edge} {v:AV} {id:Nat}
theorem R.gen {P:(Nat->Obj)->Nat->Nat->Prop} (h0:P G nx base) (h:∀ G nx base,P G nx base->R C nt ol base i r l G nx df pk Φ):R C nt ol base i r l G nx df pk Φ:=h _ _ _ h0
def Cal (C:Cfg) (f:FuncId) (vs:List AV) (G:Nat->Obj) (nx:Nat) (Ψ:AV->(Nat->Obj)->Nat->Prop):Prop:=∃ n v G' nx',(low C n).call f vs .no G nx=some (.ret v G' nx', .no)/\Ψ v G' nx'
theorem Cal.mono {q:Nat} {vs:List AV} {Ψ Ψ':AV->(Nat->Obj)->Nat->Prop} (h:Cal C q vs G nx Ψ) (hi:∀ v G' nx',Ψ v G' nx'->Ψ' v G' nx'):Cal C q vs G nx Ψ':=by
 obtain ⟨n,v,G',nx',h1,h2⟩:=h
 exact ⟨n,v,G',nx',h1,hi _ _ _ h2⟩
theorem Cal.of {f:FuncId} {fn:Func} {b:Code} {vs:List AV} {Ψ:AV->(Nat->Obj)->Nat->Prop} (hf:C.fn f=some fn) (hb:fn.body=some b) (hn:Nat.ble vs.length fn.ntmps=true)
  (h:W C f fn.ntmps b (envOf 0 vs) G nx [] .no (fin C fn.results.toList Ψ)) (ha:C.at f=C:=by exact rfl):Cal C f vs G nx Ψ:=
 call_of hf hb (Nat.le_of_ble_eq_true hn) (h.st _ (agree_init _)) ha
theorem R.wr {op:Op} {G':Nat->Obj} {nx':Nat} (h:∀ t,Agree t l->∃ n,opA C (low C n) (base+i) ⟨t,G,nx,df,pk⟩ op=some (.wr v ⟨t,G',nx',df,pk⟩)) (hd:Nat.ble (d+1) nt=true)
  (next:R C nt ol base (i+1) r ((d,v)::l) G' nx' df pk Φ):R C nt ol base i (⟨some d,op,ty,pos,af,none⟩::r) l G nx df pk Φ:=by
 refine .mk fun t ht=>?_
 obtain ⟨n,hn⟩:=h t ht
 obtain ⟨m,o,h1,h2⟩:=next.st (upd t d v) (ht.put d v)
 refine ⟨max n m,o,?_,h2⟩
 have hlt:d < nt:=Nat.le_of_ble_eq_true hd
 unfold runL stepA
 simp only [wantA,opA_mono (low_mono (Nat.le_max_left n m)) hn,put,if_pos hlt]
 exact runL_mono (low_mono (Nat.le_max_right n m)) _ _ _ h1
theorem R.callB {f:Operand} {ars:List Operand} {ats:Array TypeId} {vs cap:List AV} {fv:AV} {k:FuncId} (hf:lookO l f=some fv) (hfn:fnOf fv=some (.func k,cap)) (hb:C.byref k=true) (ha:looks l ars=some vs) (hd:Nat.ble (d+1) nt=true)
  (hr:Cal C k (vs++cap) G nx fun v G' nx'=>R C nt ol base (i+1) r ((d,v)::l) G' nx' df pk Φ) :
  R C nt ol base i (⟨some d, .call { callee := .value f,args:=⟨ars⟩,argTypes:=ats },ty,pos,af,none⟩::r) l G nx df pk Φ:=by
 obtain ⟨n,v,G',nx',h1,h2⟩:=hr
 refine R.wr (G':=G') (nx':=nx') (fun t ht=>⟨n,?_⟩) hd h2
 simp only [opA,ht.ev hf,ht.evs ha]
 have:aCall C (low C n) (base+i) ⟨t,G,nx,df,pk⟩ fv vs=callA C (low C n) (base+i) ⟨t,G,nx,df,pk⟩ k (vs++cap):=by
  unfold aCall
  split
  ·cases hfn
  ·rw [hfn]
 rw [this]
 simp only [callA,hb,if_true,h1]
/-! ### rounds -/
def bindE (l:Env):List (Nat×AV)->Env
 |[]=>l
 |(p,v)::r=>bindE ((p,v)::l) r
theorem agree_bind:∀ (ps:List (Nat×AV)) {t:Nat->AV} {l:Env},Agree t l->Agree (bindT t ps) (bindE l ps)
 |[],_,_,h=>h
 |(p,v)::r,_,_,h=>agree_bind r (h.put p v)
/-! ### ranges over functions -/
def rng (q:Nat) (t:Nat->AV) (df:List (AV×List AV)) (pk:Pk) (Φ:Out->Prop) (_:AV) (G1:Nat->Obj) (nx1:Nat):Prop:=
 ∃ t2 n2 p2 a2 b2 f2 st pend,G1 q = .lp t2 n2 p2 a2 b2 f2 st pend/\st≠1/\match pend with
  |none=>Φ (.norm ⟨t,upd G1 q .gone,nx1,df,pk⟩)
  |some (.exit id)=>Φ (.exit id ⟨t,upd G1 q .gone,nx1,df,pk⟩)
  |some .ret=>Φ (.ret ⟨t,upd G1 q .gone,nx1,df,pk⟩)
  |_=>False
def pendOut (s:St):Option Code->Option Out
 |none=>some (.norm s)
 |some (.exit id)=>some (.exit id s)
 |some .ret=>some (.ret s)
 |_=>none
def Pk.isRnd:Pk->Bool
 | .rnd=>true
 |_=>false
/-! ### rows of the call's own -/
theorem O.buildS {t e:TypeId} {n:Nat} {parts:List (Nat×Operand)} {k ke:TyI} {xs:List AV} [hk:TyIs C t k] (ht:k.d = .sl e) [he:TyIs C e ke] (hp:looks l (parts.map (·.2))=some xs) (hi:parts.map (·.1)=List.range n)
  (hn:n*ke.sz<=4096) (hz:ke.zero.fits ke.sz=true) (hx:xs.all (AV.fits ke.sz)=true) (hs:0 < ke.sz) :
  OpV C id l G nx df pk (.buildSlice t n ⟨parts⟩) (.row id n) [(id, .set (.row e ke.sz xs false))]:=by
 have hlen:xs.length=n:=by
  have:∀ (l':List Operand) {vs:List AV},looks l l'=some vs->vs.length=l'.length:=by
   intro l'
   induction l' with
   |nil=>intro vs h;cases h;rfl
   |cons x r ih=>
    intro vs h
    unfold looks at h
    split at h
    ·split at h
     ·rename_i hw;cases h;simp [ih hw]
     ·cases h
    ·cases h
  have h1:=this _ hp
  have h2:=congrArg List.length hi
  simp at h1 h2
  omega
 refine O.of fun t' L hA=>?_
 have hev:=hA.evs hp
 have hparts:(parts.map fun p=>(p.1,Go.Abs.ev t' p.2))=(List.range n).zip xs:=by
  rw [<-hi,<-hev,List.map_map]
  rw [List.zip_map', ]
  rfl
 have key:∀ (xs ys:List AV) (k:Nat),k+xs.length=ys.length->fillE ys ((List.range' k xs.length).zip xs)=ys.take k++xs:=by
  intro xs
  induction xs with
  |nil=>intro ys k h;simp at h;simp [fillE,h]
  |cons x r ih=>
   intro ys k h
   simp only [List.length_cons] at h
   simp only [List.length_cons,List.range'_succ,List.zip_cons_cons,fillE]
   rw [ih (ys.set k x) (k+1) (by simp;omega)]
   rw [List.take_set,List.take_succ_eq_append_getElem (by omega)]
   rw [List.set_append_right _ _ (by simp;omega)]
   simp
   have:k-min k ys.length=0:=by omega
   rw [this];simp
 have hfill:fillE (List.replicate n ke.zero) ((List.range n).zip xs)=xs:=by
  rw [List.range_eq_range',<-hlen]
  have:=key xs (List.replicate xs.length ke.zero) 0 (by simp)
  simpa using this
 have hall:((List.range n).zip xs).all (fun p=>p.2.fits ke.sz&&decide (p.1 < n))=true:=by
  rw [List.all_eq_true]
  intro p hp
  have h1:=List.of_mem_zip hp
  rw [List.all_eq_true] at hx
  simp only [List.mem_range] at h1
  simp [hx _ h1.2,h1.1]
 simp only [opA,aBuildSlice,hk.is,ht,he.is,hparts]
 rw [if_pos ⟨hn,hz,hall,hs⟩,hfill]
theorem O.appNil {t u e:TypeId} {x y:Operand} {k ke:TyI} {ys:List AV} [hk:TyIs C t k] (ht:k.d = .sl e) [he:TyIs C e ke] (hu:Nat.beq t u=true) (hx:lookO l x=some .nils) {w:AV} (hy:lookO l y=some w) (hw:elems G w=some ys)
  (hs:0 < ke.sz) (hb:ke.bytes<=4096) (hz:ke.zero.fits ke.sz=true) (hys:ys.all (AV.fits ke.sz)=true) (hm:ys.length<=most) :
  OpV C id l G nx df pk (.call { callee := .builtin .append,args := #[x,y],argTypes := #[t,u] }) (.row id ys.length) [(id, .set (.row e ke.sz ys false))]:=by
 have:t=u:=Nat.eq_of_beq_eq_true hu
 subst this
 refine O.of fun t' L hA=>?_
 simp only [opA,List.map_cons,List.map_nil,hA.ev hx,hA.ev hy,aBuiltin,aAppend,hk.is,ht,he.is,hw]
 rw [if_pos ⟨.inl trivial,hs,hb,hz,hys⟩]
 simp [hm]
theorem O.appRow {t u e:TypeId} {x y:Operand} {k ke:TyI} {xs ys:List AV} {o n:Nat} [hk:TyIs C t k] (ht:k.d = .sl e) [he:TyIs C e ke] (hu:Nat.beq t u=true) (hx:lookO l x=some (.row o n)) (hG:G o = .row e ke.sz xs false) (hn:xs.length=n) {w:AV} (hy:lookO l y=some w) (hw:elems G w=some ys)
  (hs:0 < ke.sz) (hb:ke.bytes<=4096) (hz:ke.zero.fits ke.sz=true) (hys:ys.all (AV.fits ke.sz)=true) (hm:n+ys.length<=most) :
  OpV C id l G nx df pk (.call { callee := .builtin .append,args := #[x,y],argTypes := #[t,u] }) (.row o (xs++ys).length) [(o, .set (.row e ke.sz (xs++ys) false))]:=by
 have:t=u:=Nat.eq_of_beq_eq_true hu
 subst this
 refine O.of fun t' L hA=>?_
 simp only [opA,List.map_cons,List.map_nil,hA.ev hx,hA.ev hy,aBuiltin,aAppend,hk.is,ht,he.is,hw]
 rw [if_pos ⟨.inl trivial,hs,hb,hz,hys⟩]
 simp only [hG]
 rw [if_pos ⟨hn,trivial,trivial,hm⟩]
theorem slT_is {u e2:TypeId} {ku:TyI} [hu:TyIs C u ku] (h:ku.d = .sl e2):slT C u=true:=by unfold slT;rw [hu.is];simp only [h]
theorem O.appNilU {t u e e2:TypeId} {x y:Operand} {k ku ke:TyI} {ys:List AV} [hk:TyIs C t k] (ht:k.d = .sl e) [he:TyIs C e ke] [hu:TyIs C u ku] (hu2:ku.d = .sl e2) (hx:lookO l x=some .nils) {w:AV} (hy:lookO l y=some w) (hw:elems G w=some ys)
  (hs:0 < ke.sz) (hb:ke.bytes<=4096) (hz:ke.zero.fits ke.sz=true) (hys:ys.all (AV.fits ke.sz)=true) (hm:ys.length<=most) :
  OpV C id l G nx df pk (.call { callee := .builtin .append,args := #[x,y],argTypes := #[t,u] }) (.row id ys.length) [(id, .set (.row e ke.sz ys false))]:=by
 refine O.of fun t' L hA=>?_
 simp only [opA,List.map_cons,List.map_nil,hA.ev hx,hA.ev hy,aBuiltin,aAppend,hk.is,ht,he.is,hw]
 rw [if_pos ⟨.inr (slT_is hu2),hs,hb,hz,hys⟩]
 simp [hm]
theorem O.appRowU {t u e e2:TypeId} {x y:Operand} {k ku ke:TyI} {xs ys:List AV} {o n:Nat} [hk:TyIs C t k] (ht:k.d = .sl e) [he:TyIs C e ke] [hu:TyIs C u ku] (hu2:ku.d = .sl e2) (hx:lookO l x=some (.row o n)) (hG:G o = .row e ke.sz xs false) (hn:xs.length=n) {w:AV} (hy:lookO l y=some w) (hw:elems G w=some ys)
  (hs:0 < ke.sz) (hb:ke.bytes<=4096) (hz:ke.zero.fits ke.sz=true) (hys:ys.all (AV.fits ke.sz)=true) (hm:n+ys.length<=most) :
  OpV C id l G nx df pk (.call { callee := .builtin .append,args := #[x,y],argTypes := #[t,u] }) (.row o (xs++ys).length) [(o, .set (.row e ke.sz (xs++ys) false))]:=by
 refine O.of fun t' L hA=>?_
 simp only [opA,List.map_cons,List.map_nil,hA.ev hx,hA.ev hy,aBuiltin,aAppend,hk.is,ht,he.is,hw]
 rw [if_pos ⟨.inr (slT_is hu2),hs,hb,hz,hys⟩]
 simp only [hG]
 rw [if_pos ⟨hn,trivial,trivial,hm⟩]
end Go.Abs
