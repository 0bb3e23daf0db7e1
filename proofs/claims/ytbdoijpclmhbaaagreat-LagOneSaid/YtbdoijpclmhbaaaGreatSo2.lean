/- The seat: the program's types, its functions that are called by reference, and those with a contract. -/
import Derived.Test.YtbdoijpclmhbaaaGreatSo1
import Derived.Test.YtbdoijpclmhbaaaGreatProg
import Derived.KernelRfl
import Derived.Laws.Strings
import Derived.Below
import Derived.Laws.AppendOwn
import Derived.Laws.Cells
import Derived.Laws.Rows
import Derived.Laws.Alloc2
import Derived.Laws.Entries
import Derived.Laws.Append
import Derived.Laws.MakeOwn
open Go Go.Abs
namespace Go.Abs
def byrefs:Nat->Bool:=fun f=>[162,163,106,131,132,134,133,175,107,129,102,82,85,86,87,157,75,77,89,90,93,94,139,140,143,144,147,148,149,150,152,203,204,100,161,189].contains f
def ints:List IV->List Int
 |[]=>[]
 | .int _ n::r=>n::ints r
 |_::r=>ints r
def ins (x:Int):List Int->List Int
 |[]=>[x]
 |y::r=>if x<=y then x::y::r else y::ins x r
def isort:List Int->List Int
 |[]=>[]
 |x::r=>ins x (isort r)
def isStrIV:IV->Bool
 | .str _=>true
 |_=>false
def isIntIV:IV->Bool
 | .int .i64 _=>true
 |_=>false
def orcs:Nat->List IV->Option OrcR
 |50,[.lst xs]=>if xs.all isStrIV=true/\xs.length<=4294967296 then some (.own 9 1 xs) else none
 |69,[.fmp ks _]=>if ks.all isIntIV=true/\ks.length<=4294967296 then some (.own 3 1 ((isort (ints ks)).map (.int .i64))) else none
 |205,[.lst xs]=>if xs.all isIntIV=true/\xs.length<=4294967296 then some (.own 3 1 xs) else none
 |_,_=>none
def odds:Nat->Option (Nat->Bool):=fun f=>if f==900000||f==116 then some fun g=>g==48 else none
noncomputable def CC:Cfg:={ P:=Go.Proofs.Tryz.prog,byref:=byrefs,orc:=orcs,odd:=odds }
def ty3:TyI:={ d:=TyD.int IntKind.i64,sz:=1,bytes:=8,zero:=AV.imm (IV.int IntKind.i64 (0)) }
instance tyis3:TyIs CC 3 ty3:=⟨by kernel_rfl⟩
def ty4:TyI:={ d:=TyD.bool,sz:=1,bytes:=1,zero:=AV.imm (IV.bool false) }
instance tyis4:TyIs CC 4 ty4:=⟨by kernel_rfl⟩
def ty5:TyI:={ d:=TyD.int IntKind.u8,sz:=1,bytes:=1,zero:=AV.imm (IV.int IntKind.u8 (0)) }
instance tyis5:TyIs CC 5 ty5:=⟨by kernel_rfl⟩
def ty9:TyI:={ d:=TyD.str,sz:=1,bytes:=16,zero:=AV.imm (IV.str { data:={ toList:=[] } }) }
instance tyis9:TyIs CC 9 ty9:=⟨by kernel_rfl⟩
def ty22:TyI:={ d:=TyD.sl 9,sz:=1,bytes:=24,zero:=AV.nils }
instance tyis22:TyIs CC 22 ty22:=⟨by kernel_rfl⟩
def ty61:TyI:={ d:=TyD.mp 9 4,sz:=1,bytes:=8,zero:=AV.imm IV.nilmap }
instance tyis61:TyIs CC 229 ty61:=⟨by kernel_rfl⟩
noncomputable def retOf (C:Cfg) (n:Nat) (f:FuncId) (ivs:List IV):Option IV:=match (low C n).call f (ivs.map .imm) .no (fun _ => .gone) 0 with
 |some (.ret v G' _,_)=>match peek G' pkDepth v with
  |some (x,_)=>some x
  |none=>none
 |_=>none
theorem Ret.reckon {n:Nat} {f:FuncId} {ivs:List IV} {x:IV} {C:Cfg} (h:retOf C n f ivs=some x):Ret C f ivs x:=by
 unfold retOf at h
 split at h
 ·rename_i v G' nx' pk' hc
  split at h
  ·rename_i y ids hp
   cases h
   exact ⟨n,v,G',nx',pk',ids,hc,hp⟩
  ·cases h
 ·cases h
/-! strings, as lists of their bytes -/
abbrev Str:=List UInt8
def sv (s:Str):IV := .str ⟨s.toArray⟩
theorem sv_size (s:Str):(ByteArray.mk s.toArray).size=s.length:=by simp [ByteArray.size]
theorem sv_toList (s:Str):(ByteArray.mk s.toArray).toList=s:=by rw [ByteArray.toList_eq]
theorem sv_get (s:Str) (i:Nat):(ByteArray.mk s.toArray).data.getD i 0=s.getD i 0:=by simp
theorem sv_eta (b:ByteArray):IV.str b=sv b.data.toList:=by cases b;simp [sv]
theorem sv_beq (a b:Str):((ByteArray.mk a.toArray)==(ByteArray.mk b.toArray))=(a==b):=by
 show (a.toArray==b.toArray)=(a==b)
 simp
variable {C:Cfg} {l:Env} {G:Nat->Obj} {nx:Nat} {df:List (AV×List AV)} {pk:Pk} {id:Nat}
theorem O.svEq {t:TypeId} {x y:Operand} {t2:TypeId} {a b:Str} (hx:lookO l x=some (.imm (sv a))) (hy:lookO l y=some (.imm (sv b))):OpV C id l G nx df pk (.binOp .eql t x y t2) (.imm (.bool (a==b))) []:=
 O.str hx hy (by simp only [strOp,sv_toList])
theorem O.svNe {t:TypeId} {x y:Operand} {t2:TypeId} {a b:Str} (hx:lookO l x=some (.imm (sv a))) (hy:lookO l y=some (.imm (sv b))):OpV C id l G nx df pk (.binOp .neq t x y t2) (.imm (.bool !(a==b))) []:=
 O.str hx hy (by simp only [strOp,sv_toList])
theorem O.lenSv {x:Operand} {t:TypeId} {k:TyI} [hk:TyIs C t k] {s:Str} (hx:lookO l x=some (.imm (sv s))) (hl:k.d = .str):OpV C id l G nx df pk (.call { callee := .builtin .len,args := #[x],argTypes := #[t] }) (.imm (.int .i64 s.length)) []:=by
 have:=O.lenS (C:=C) (t:=t) (id:=id) (G:=G) (nx:=nx) (df:=df) (pk:=pk) hx hl
 rwa [sv_size] at this
theorem O.indexSv {x y:Operand} {t:TypeId} {k:TyI} {kk:IntKind} {s:Str} {n:Nat} {c:UInt8} [hk:TyIs C t k] (ht:k.d = .str) (hx:lookO l x=some (.imm (sv s))) (hy:lookO l y=some (.imm (.int kk n))) (hn:s[n]? = some c) :
  OpV C id l G nx df pk (.index t x y) (.imm (.int .u8 c.toNat)) []:=by
 have h1:n < s.length:=by
  rw [List.getElem?_eq_some_iff] at hn;exact hn.1
 have:=O.index (C:=C) (t:=t) (id:=id) (G:=G) (nx:=nx) (df:=df) (pk:=pk) ht hx hy ⟨Int.natCast_nonneg _,by rw [sv_size];omega⟩
 rw [sv_get] at this
 have e:s.getD n 0=c:=by rw [List.getD_eq_getElem?_getD,hn];rfl
 rwa [Int.toNat_natCast,e] at this
def keyAt (k:IV) (ks vs:List IV) (z:IV):Option IV:=match keyFind k ks with
 |some (some j)=>vs[j]?
 |some none=>some z
 |none=>none
theorem O.lookF {t kt e:TypeId} {m x:Operand} {k kk ke:TyI} {key z:IV} {ks vs:List IV} {u:IV} [hk:TyIs C t k] (ht:k.d = .mp kt e) [hkk:TyIs C kt kk] [hke:TyIs C e ke] (hm:lookO l m=some (.imm (.fmp ks vs))) (hx:lookO l x=some (.imm key)) (ho:keyOk kk.d key=true)
  (hz:ke.zero = .imm z) (hu:keyAt key ks vs z=some u):OpV C id l G nx df pk (.lookup t m x false) (.imm u) []:=by
 refine O.of fun t' L hA=>?_
 unfold keyAt at hu
 simp only [opA,hA.ev hm,hA.ev hx,Go.Abs.lookA,hk.is,ht,mapKV,hkk.is,if_pos ho]
 split at hu
 ·rename_i j hj
  simp only [hj,List.getElem?_map,hu,Option.map_some]
  rfl
 ·rename_i hj
  cases hu
  simp only [hj,hke.is,hz]
  rfl
 ·cases hu
end Go.Abs

/- The abstract interpreter: what abstract values and states say of the machine's. -/
namespace Go.Abs
abbrev Mem:=Nat->Option Go.Obj
def at_ (vs:Array Value) (i:Nat):Value:=vs.getD i Go.undef
def VL {α:Type} (P:α->Value->Prop) (l:List α) (vs:Array Value):Prop:=
 l.length=vs.size/\∀ (i:Nat) x,l[i]? = some x->P x (at_ vs i)
def Born (es:Array MapEntry) (clk:Nat):Prop:=(∀ x∈es.toList,x.born < clk)/\(es.toList.map (·.born)).Nodup
inductive VI (M:Mem):IV->Value->Prop where
 |bool (b):VI M (.bool b) (.bool b)
 |int (k n):VI M (.int k n) (.int k n)
 |str (s):VI M (.str s) (.string s)
 |nil:VI M (.lst []) (.slice none 0 0)
 |empty (a:Addr) (c):VI M (.lst []) (.slice (some a) 0 c)
 |lst (xs b off c cs e fr sz) (h0:xs≠[]) (hc:xs.length<=c) (h:M b=some (.cells cs e fr)) (hs:0 < sz)
   (h1:∀ (i:Nat) x,xs[i]? = some x->(IV.cells x).length=sz) (h2:off+xs.length*sz<=cs.size)
   (hl:∀ (i:Nat) x (j:Nat) y,xs[i]? = some x->(IV.cells x)[j]? = some y->VI M y (at_ cs (off+i*sz+j))) :
   VI M (.lst xs) (.slice (some ⟨b,off,none⟩) xs.length c)
 |agg (xs) (vs:Array Value) (h:xs.length=vs.size) (hl:∀ (i:Nat) x,xs[i]? = some x->VI M x (at_ vs i)):VI M (.agg xs) (.agg vs)
 |tup (xs) (vs:Array Value) (h:xs.length=vs.size) (hl:∀ (i:Nat) x,xs[i]? = some x->VI M x (at_ vs i)):VI M (.tup xs) (.tuple vs)
 |fptr (cs off b vs e fr o0) (h:M b=some (.cells vs e fr)) (h2:o0+cs.length<=vs.size) (hl:∀ (j:Nat) y,cs[j]? = some y->VI M y (at_ vs (o0+j))) :
   VI M (.fptr cs off) (.pointer (some ⟨b,o0+off,none⟩))
 |eptr (xs i off b vs e fr o0 sz) (h:M b=some (.cells vs e fr)) (hs:0 < sz)
   (h1:∀ (i:Nat) x,xs[i]? = some x->(IV.cells x).length=sz) (h2:o0+xs.length*sz<=vs.size)
   (hl:∀ (i:Nat) x (j:Nat) y,xs[i]? = some x->(IV.cells x)[j]? = some y->VI M y (at_ vs (o0+i*sz+j))) :
   VI M (.eptr xs i off) (.pointer (some ⟨b,o0+i*sz+off,none⟩))
 |nilp:VI M .nilp (.pointer none)
 |nilfn:VI M .nilfn .nilFunc
 |nilmap:VI M .nilmap (.map none)
 |niliface:VI M .niliface .nilIface
 |iface (t x v) (h:VI M x v):VI M (.iface t x) (.iface t v)
 |fn (f cap) (vs:Array Value) (h:cap.length=vs.size) (hl:∀ (i:Nat) x,cap[i]? = some x->VI M x (at_ vs i)):VI M (.fn f cap) (.func f #[] vs)
 |fmp (ks vs b es clk) (h:M b=some (.map es clk)) (hk:ks.length=es.size) (hv:vs.length=es.size)
   (hks:∀ (i:Nat) x,ks[i]? = some x->VI M x (es.getD i default).key) (hvs:∀ (i:Nat) x,vs[i]? = some x->VI M x (es.getD i default).val) (hbn:Born es clk) :
   VI M (.fmp ks vs) (.map (some b))
def Mem.le (M M':Mem):Prop:=∀ b o,M b=some o->M' b=some o
theorem Mem.le_refl (M:Mem):M.le M:=fun _ _ h=>h
theorem Mem.le_trans {A B C:Mem} (h:A.le B) (k:B.le C):A.le C:=fun b o e=>k b o (h b o e)
theorem VI.mono {M M':Mem} (hm:M.le M') {x:IV} {v:Value} (h:VI M x v):VI M' x v:=by
 induction h with
 |bool=>exact .bool _
 |int=>exact .int _ _
 |str=>exact .str _
 |nil=>exact .nil
 |empty=>exact .empty _ _
 |lst xs b off c cs e fr sz h0 hc h hs h1 h2 _ ih=>exact .lst xs b off c cs e fr sz h0 hc (hm _ _ h) hs h1 h2 ih
 |agg xs vs h _ ih=>exact .agg xs vs h ih
 |tup xs vs h _ ih=>exact .tup xs vs h ih
 |fptr cs off b vs e fr o0 h h2 _ ih=>exact .fptr cs off b vs e fr o0 (hm _ _ h) h2 ih
 |eptr xs i off b vs e fr o0 sz h hs h1 h2 _ ih=>exact .eptr xs i off b vs e fr o0 sz (hm _ _ h) hs h1 h2 ih
 |nilp=>exact .nilp
 |nilfn=>exact .nilfn
 |nilmap=>exact .nilmap
 |niliface=>exact .niliface
 |iface t x v _ ih=>exact .iface t x v ih
 |fn f cap vs h _ ih=>exact .fn f cap vs h ih
 |fmp ks vs b es clk h hk hv _ _ hbn ih1 ih2=>exact .fmp ks vs b es clk (hm _ _ h) hk hv ih1 ih2 hbn
theorem VI.any {M:Mem} {x:IV} {v:Value} (h:VI M x v) (hs:x.scalar=true) (M':Mem):VI M' x v:=by
 have key:∀ l:List IV,IV.scalars l=true->∀ (i:Nat) x,l[i]? = some x->x.scalar=true:=by
  intro l
  induction l with
  |nil=>intro _ i x hx;simp at hx
  |cons y r ih=>
   intro hl i x hx
   simp only [IV.scalars,Bool.and_eq_true] at hl
   cases i with
   |zero=>simp at hx;exact hx▸hl.1
   |succ i=>exact ih hl.2 i x (by simpa using hx)
 induction h with
 |bool=>exact .bool _
 |int=>exact .int _ _
 |str=>exact .str _
 |agg xs vs h _ ih=>exact .agg xs vs h fun i x hx=>ih i x hx (key _ (by simpa [IV.scalar] using hs) i x hx)
 |tup xs vs h _ ih=>exact .tup xs vs h fun i x hx=>ih i x hx (key _ (by simpa [IV.scalar] using hs) i x hx)
 |nilp=>exact .nilp
 |nilfn=>exact .nilfn
 |nilmap=>exact .nilmap
 |niliface=>exact .niliface
 |iface t x v _ ih=>exact .iface t x v (ih (by simpa [IV.scalar] using hs))
 |_=>simp [IV.scalar] at hs
abbrev Ref:=Nat->Option Value
inductive VA (M:Mem) (ρ:Ref) (G:Nat->Obj):AV->Value->Prop where
 |imm (x v) (h:VI M x v):VA M ρ G (.imm x) v
 |undef (v):VA M ρ G .undef v
 |nils:VA M ρ G .nils (.slice none 0 0)
 |ptr (o off b) (h:ρ o=some (.pointer (some ⟨b,0,none⟩))):VA M ρ G (.ptr o off) (.pointer (some ⟨b,off,none⟩))
 |row (o n a l c) (hb:ρ o≠none) (h:∀ et sz xs fr,G o = .row et sz xs fr->n<=xs.length/\(n=xs.length->ρ o=some (.slice a l c))):VA M ρ G (.row o n) (.slice a l c)
 |rptr (o n i off b f) (hb:ρ o≠none)
   (h:∀ et sz xs fr,G o = .row et sz xs fr->n<=xs.length/\(n=xs.length->∃ l c,ρ o=some (.slice (some ⟨b,0,none⟩) l c)/\f=i*sz+off)) :
   VA M ρ G (.rptr o n i off) (.pointer (some ⟨b,f,none⟩))
 |map (o b) (h:ρ o=some (.map (some b))):VA M ρ G (.map o) (.map (some b))
 |yld (o l) (h:ρ o=some (.func (.yield l) #[] #[])):VA M ρ G (.yld o) (.func (.yield l) #[] #[])
 |fn (f cap) (vs:Array Value) (h:cap.length=vs.size) (hl:∀ (i:Nat) x,cap[i]? = some x->VA M ρ G x (at_ vs i)):VA M ρ G (.fn f cap) (.func f #[] vs)
 |agg (xs) (vs:Array Value) (h:xs.length=vs.size) (hl:∀ (i:Nat) x,xs[i]? = some x->VA M ρ G x (at_ vs i)):VA M ρ G (.agg xs) (.agg vs)
 |tup (xs) (vs:Array Value) (h:xs.length=vs.size) (hl:∀ (i:Nat) x,xs[i]? = some x->VA M ρ G x (at_ vs i)):VA M ρ G (.tup xs) (.tuple vs)
structure Ev (M:Mem) (ρ:Ref) (G:Nat->Obj) (M':Mem) (ρ':Ref) (G':Nat->Obj):Prop where
 mem:M.le M'
 ref:∀ o v,ρ o=some v->ρ' o=some v\/(∃ a l c,v = .slice a l c)/\ρ' o≠none
 row:∀ o,ρ o≠none->∀ et sz xs fr,G' o = .row et sz xs fr->∃ xs0 fr0,G o = .row et sz xs0 fr0/\xs0.length<=xs.length/\(xs0.length=xs.length->ρ' o=ρ o)
theorem Ev.refl (M:Mem) (ρ:Ref) (G:Nat->Obj):Ev M ρ G M ρ G:=⟨Mem.le_refl M,fun _ _ h => .inl h,fun _ _ _ _ xs fr h=>⟨xs,fr,h,Nat.le_refl _,fun _=>rfl⟩⟩
theorem Ev.born {M M':Mem} {ρ ρ':Ref} {G G':Nat->Obj} (h:Ev M ρ G M' ρ' G') {o:Nat} (hb:ρ o≠none):ρ' o≠none:=by
 cases e:ρ o with
 |none=>exact absurd e hb
 |some v=>
       rcases h.ref o v e with h|⟨_,h⟩
       ·rw [h];simp
       ·exact h
theorem Ev.trans {A B C:Mem} {ρ ρ1 ρ2:Ref} {G G1 G2:Nat->Obj} (h:Ev A ρ G B ρ1 G1) (k:Ev B ρ1 G1 C ρ2 G2):Ev A ρ G C ρ2 G2:=by
 refine ⟨Mem.le_trans h.mem k.mem,fun o v e=>?_,fun o hb et sz xs fr e=>?_⟩
 ·rcases h.ref o v e with h1|⟨h1,h2⟩
  ·exact k.ref o v h1
  ·exact .inr ⟨h1,k.born h2⟩
 ·obtain ⟨x1,f1,e1,l1,p1⟩:=k.row o (h.born hb) et sz xs fr e
  obtain ⟨x0,f0,e0,l0,p0⟩:=h.row o hb et sz x1 f1 e1
  exact ⟨x0,f0,e0,Nat.le_trans l0 l1,fun hq=>(p1 (by omega)).trans (p0 (by omega))⟩
theorem VA.mono {M M':Mem} {ρ ρ':Ref} {G G':Nat->Obj} (hv:Ev M ρ G M' ρ' G') {x:AV} {v:Value} (h:VA M ρ G x v):VA M' ρ' G' x v:=by
 induction h with
 |imm x v h=>exact .imm x v (h.mono hv.mem)
 |undef=>exact .undef _
 |nils=>exact .nils
 |ptr o off b h=>
  refine .ptr o off b ?_
  rcases hv.ref _ _ h with h|⟨⟨a,l,c,h⟩,_⟩
  ·exact h
  ·cases h
 |row o n a l c hb h=>
  refine .row o n a l c (hv.born hb) fun et sz xs fr e=>?_
  obtain ⟨x0,f0,e0,l0,p0⟩:=hv.row o hb et sz xs fr e
  obtain ⟨h1,h2⟩:=h et sz x0 f0 e0
  exact ⟨by omega,fun hq=>(p0 (by omega)).trans (h2 (by omega))⟩
 |rptr o n i off b f hb h=>
  refine .rptr o n i off b f (hv.born hb) fun et sz xs fr e=>?_
  obtain ⟨x0,f0,e0,l0,p0⟩:=hv.row o hb et sz xs fr e
  obtain ⟨h1,h2⟩:=h et sz x0 f0 e0
  exact ⟨by omega,fun hq=>by rw [p0 (by omega)];exact h2 (by omega)⟩
 |map o b h=>
  refine .map o b ?_
  rcases hv.ref _ _ h with h|⟨⟨a,l,c,h⟩,_⟩
  ·exact h
  ·cases h
 |yld o l h=>
  refine .yld o l ?_
  rcases hv.ref _ _ h with h|⟨⟨a,l,c,h⟩,_⟩
  ·exact h
  ·cases h
 |fn f cap vs h _ ih=>exact .fn f cap vs h ih
 |agg xs vs h _ ih=>exact .agg xs vs h ih
 |tup xs vs h _ ih=>exact .tup xs vs h ih
def blk:Value->Option Nat
 | .pointer (some a)=>some a.block
 | .slice (some a) _ _=>some a.block
 | .map (some b)=>some b
 | .func (.yield l) _ _=>some l
 |_=>none
structure RowIs (M:Mem) (ρ:Ref) (G:Nat->Obj) (sz:Nat) (xs:List AV) (cs:List Value):Prop where
 fit:∀ x∈xs,x.fits sz=true
 cell:∀ (i:Nat) x (j:Nat) y,xs[i]? = some x->x.cells[j]? = some y->VA M ρ G y (cs.getD (i*sz+j) Go.undef)
structure LoopIs (M:Mem) (ρ:Ref) (G:Nat->Obj) (tmps:Nat->AV) (nt:Nat) (params:List Nat) (assign body:Code) (fn:FuncId) (st:Nat) (pending:Option Code) (r:Loop):Prop where
 tmps:∀ t,VA M ρ G (tmps t) (r.tmps.getD t Go.undef)
 size:r.tmps.size=nt
 params:r.params.toList=params
 assign:r.assign=assign
 body:r.body=body
 fn:r.fn=fn
 state:(st=0/\r.state = .ready)\/(st=1/\r.state = .busy)\/(st=2/\r.state = .done)
 pending:r.pending=pending
def ObjOK (w:World) (M:Mem) (ρ:Ref) (G:Nat->Obj) (o:Nat):Prop:=
 match G o with
 | .gone=>True
 | .box cs fr=>∃ b vs e,ρ o=some (.pointer (some ⟨b,0,none⟩))/\w.heap[b]? = some (.cells vs e (0,0))/\VL (VA M ρ G) cs vs/\(fr=true->M b≠none)
 | .row et sz xs fr=>0 < sz/\∃ v cs,ρ o=some v/\w.ownsRow 0 et sz v xs.length cs/\RowIs M ρ G sz xs cs/\(fr=true->∀ b,blk v=some b->M b≠none)
 | .mp ks vs fr=>∃ b es clk,ρ o=some (.map (some b))/\w.heap[b]? = some (.map es clk)/\ks.length=es.size/\vs.length=es.size /\
   (∀ (i:Nat) x,ks[i]? = some x->VI M x (es.getD i default).key)/\(∀ (i:Nat) x,vs[i]? = some x->VA M ρ G x (es.getD i default).val)/\(fr=true->M b≠none)/\Born es clk
 | .it ks vs done=>∃ r,ρ o=some (.pointer (some ⟨r,0,none⟩))/\((w.heap[r]? = some (.mapIter none 0 #[] 0)/\ks=[])\/∃ bm es clk seen,w.heap[r]? = some (.mapIter (some bm) clk seen clk)/\M bm=some (.map es clk)/\Born es clk /\
   ks.length=es.size/\vs.length=es.size/\es.size<=1/\(∀ (i:Nat) x,ks[i]? = some x->VI M x (es.getD i default).key)/\(∀ (i:Nat) x,vs[i]? = some x->VI M x (es.getD i default).val) /\
   (done=false->seen = #[])/\(done=true->∃ e,es = #[e]/\seen = #[e.born]))
 | .lp tmps nt params assign body fn st pending=>∃ l r,ρ o=some (.func (.yield l) #[] #[])/\w.heap[l]? = some (.loop r)/\LoopIs M ρ G tmps nt params assign body fn st pending r
def Obj.live:Obj->Bool
 | .gone=>false
 |_=>true
structure Inv (Q:Nat->Prop) (w:World) (M:Mem) (ρ:Ref) (G:Nat->Obj) (nx:Nat):Prop where
 mem:∀ b o,M b=some o->w.heap[b]? = some o
 obj:∀ o,ObjOK w M ρ G o
 free:∀ o,nx<=o->ρ o=none
 gone:∀ o,ρ o=none->G o = .gone
 sep:∀ o o' v v' b,(G o).live=true->(G o').live=true->ρ o=some v->ρ o'=some v'->blk v=some b->blk v'=some b->o=o'
 own:∀ o v b,(G o).live=true->(G o).frozen=false->ρ o=some v->blk v=some b->M b=none/\Q b
 new:∀ b,w.heap.size<=b->Q b
structure WS (Q:Nat->Prop) (w w':World):Prop where
 os:w'.os=w.os
 tape:w'.tape=w.tape
 output:w'.output=w.output
 size:w.heap.size<=w'.heap.size
 block:∀ b,¬ Q b->w'.heap[b]? = w.heap[b]?
theorem WS.refl (Q:Nat->Prop) (w:World):WS Q w w:=⟨rfl,rfl,rfl,Nat.le_refl _,fun _ _=>rfl⟩
theorem WS.trans {Q:Nat->Prop} {a b c:World} (h:WS Q a b) (k:WS Q b c):WS Q a c:=
 ⟨k.os.trans h.os,k.tape.trans h.tape,k.output.trans h.output,Nat.le_trans h.size k.size,fun i hi=>(k.block i hi).trans (h.block i hi)⟩
end Go.Abs

/- The abstract interpreter: how its relation to the machine is kept. -/
namespace Go.Abs
variable {M M':Mem} {ρ ρ':Ref} {G G':Nat->Obj} {w w':World} {nx:Nat} {Q:Nat->Prop}
theorem VL.imp {α:Type} {P P':α->Value->Prop} {l:List α} {vs:Array Value} (h:VL P l vs) (hp:∀ x v,P x v->P' x v):VL P' l vs:=
 ⟨h.1,fun i x hx=>hp _ _ (h.2 i x hx)⟩
theorem Mem.ne (h:M.le M') {b:Nat} (hb:M b≠none):M' b≠none:=by
 cases e:M b with
 |none=>exact absurd e hb
 |some o=>rw [h b o e];simp
theorem ownsRow_heap {base n sz:Nat} {et:TypeId} {v:Value} {cs:List Value} (h:w.ownsRow base et sz v n cs) (hw:∀ b,blk v=some b->w'.heap[b]? = w.heap[b]?):w'.ownsRow base et sz v n cs:=by
 refine ⟨h.1,?_⟩
 rcases h.2 with h|⟨g,cap,cur,rfl,h1,h2,h3⟩
 ·exact .inl h
 ·exact .inr ⟨g,cap,cur,rfl,h1,(hw g rfl).trans h2,h3⟩
theorem RowIs.mono {sz:Nat} {xs:List AV} {cs:List Value} (h:RowIs M ρ G sz xs cs) (hv:Ev M ρ G M' ρ' G'):RowIs M' ρ' G' sz xs cs:=
 ⟨h.fit,fun i x j y hx hy=>(h.cell i x j y hx hy).mono hv⟩
theorem ObjOK.mono {o:Nat} (h:ObjOK w M ρ G o) (hG:G' o=G o) (hr:ρ' o=ρ o) (hv:Ev M ρ G M' ρ' G')
  (hw:∀ v b,ρ o=some v->blk v=some b->w'.heap[b]? = w.heap[b]?):ObjOK w' M' ρ' G' o:=by
 have hm:=hv.mem
 unfold ObjOK at *
 rw [hG,hr]
 cases e:G o with
 |gone=>trivial
 |box cs fr=>
  rw [e] at h
  obtain ⟨b,vs,e',h1,h2,h3,h4⟩:=h
  exact ⟨b,vs,e',h1,(hw _ b h1 rfl).trans h2,h3.imp fun _ _=>VA.mono hv,fun hf=>Mem.ne hm (h4 hf)⟩
 |row et sz xs fr=>
  rw [e] at h
  obtain ⟨h0,v,cs,h1,h2,h3,h4⟩:=h
  exact ⟨h0,v,cs,h1,ownsRow_heap h2 (hw v · h1),h3.mono hv,fun hf b hb=>Mem.ne hm (h4 hf b hb)⟩
 |mp ks vs fr=>
  rw [e] at h
  obtain ⟨b,es,clk,h1,h2,h3,h4,h5,h6,h7,h8⟩:=h
  exact ⟨b,es,clk,h1,(hw _ b h1 rfl).trans h2,h3,h4,fun i x hx=>(h5 i x hx).mono hm,fun i x hx=>(h6 i x hx).mono hv,fun hf=>Mem.ne hm (h7 hf),h8⟩
 |it ks vs done=>
  rw [e] at h
  obtain ⟨r,h1,h2⟩:=h
  refine ⟨r,h1,?_⟩
  rw [hw _ r h1 rfl]
  rcases h2 with h2|⟨bm,es,clk,seen,h2,h3,h4,h6,h7,h8,h9,h10,h11⟩
  ·exact .inl h2
  ·exact .inr ⟨bm,es,clk,seen,h2,hm _ _ h3,h4,h6,h7,h8,fun i x hx=>(h9 i x hx).mono hm,fun i x hx=>(h10 i x hx).mono hm,h11⟩
 |lp tmps nt params assign body fn st pending=>
  rw [e] at h
  obtain ⟨l,r,h1,h2,h3⟩:=h
  exact ⟨l,r,h1,(hw _ l h1 rfl).trans h2,{ h3 with tmps:=fun t=>(h3.tmps t).mono hv }⟩
theorem Inv.lt (h:Inv Q w M ρ G nx) {o b:Nat} {v:Value} (hl:(G o).live=true) (hv:ρ o=some v) (hb:blk v=some b):b < w.heap.size:=by
 have:=h.obj o
 unfold ObjOK at this
 cases e:G o with
 |gone=>rw [e] at hl;simp [Obj.live] at hl
 |box cs fr=>
  rw [e] at this
  obtain ⟨b',vs,e',h1,h2,_⟩:=this
  rw [hv] at h1;cases h1;simp [blk] at hb;subst hb
  exact (Array.getElem?_eq_some_iff.1 h2).1
 |row et sz xs fr=>
  rw [e] at this
  obtain ⟨_,v',cs,h1,h2,_⟩:=this
  rw [hv] at h1;cases h1
  rcases h2.2 with ⟨rfl,_⟩|⟨g,cap,cur,rfl,_,h3,_⟩
  ·simp [blk] at hb
  ·simp [blk] at hb;subst hb;exact (Array.getElem?_eq_some_iff.1 h3).1
 |mp ks vs fr=>
  rw [e] at this
  obtain ⟨b',es,clk,h1,h2,_⟩:=this
  rw [hv] at h1;cases h1;simp [blk] at hb;subst hb
  exact (Array.getElem?_eq_some_iff.1 h2).1
 |it ks vs done=>
  rw [e] at this
  obtain ⟨r,h1,h2⟩:=this
  rw [hv] at h1;cases h1;simp [blk] at hb;subst hb
  rcases h2 with ⟨h2,_⟩|⟨_,_,_,_,h2,_⟩
  ·exact (Array.getElem?_eq_some_iff.1 h2).1
  ·exact (Array.getElem?_eq_some_iff.1 h2).1
 |lp tmps nt params assign body fn st pending=>
  rw [e] at this
  obtain ⟨l,r,h1,h2,_⟩:=this
  rw [hv] at h1;cases h1;simp [blk] at hb;subst hb
  exact (Array.getElem?_eq_some_iff.1 h2).1
theorem Inv.put (h:Inv Q w M ρ G nx) {q:Nat} {x:Obj} {r:Value} (hq:q < nx) (hv:Ev M ρ G M (upd ρ q (some r)) (upd G q x))
  (hw:∀ b,w'.heap[b]? = w.heap[b]? \/ w.heap.size<=b\/((G q).live=true/\(G q).frozen=false/\∃ v,ρ q=some v/\blk v=some b))
  (hsz:w.heap.size<=w'.heap.size) (hx:ObjOK w' M (upd ρ q (some r)) (upd G q x) q)
  (hb:∀ b,blk r=some b->w.heap.size<=b\/((G q).live=true/\(G q).frozen=false/\∃ v,ρ q=some v/\blk v=some b))
  :
  Inv Q w' M (upd ρ q (some r)) (upd G q x) nx:=by
 have hout:∀ o v b,o≠q->(G o).live=true->ρ o=some v->blk v=some b->w'.heap[b]? = w.heap[b]? := by
  intro o v b hne hl hv hb
  rcases hw b with h1|h1|⟨hlq,_,v',hv',hb'⟩
  ·exact h1
  ·have:=h.lt hl hv hb;omega
  ·exact absurd (h.sep o q v v' b hl hlq hv hv' hb hb') hne
 refine ⟨fun b o hm=>?_,fun o=>?_,fun o ho=>?_,fun o ho=>?_,?_,?_,fun b hb=>h.new b (by omega)⟩
 ·have hb:=h.mem b o hm
  rcases hw b with h1|h1|⟨hlq,hfq,v',hv',hb'⟩
  ·rw [h1];exact hb
  ·have:=(Array.getElem?_eq_some_iff.1 hb).1;omega
  ·have:=(h.own q v' b hlq hfq hv' hb').1;rw [hm] at this;cases this
 ·by_cases hoq:o=q
  ·subst hoq;exact hx
  ·by_cases hl:(G o).live=true
   ·exact (h.obj o).mono (by simp [upd,hoq]) (by simp [upd,hoq]) hv (fun v b hv' hb'=>hout o v b hoq hl hv' hb')
   ·have:G o = .gone:=by cases e:G o<;>simp_all [Obj.live]
    unfold ObjOK;simp [upd,hoq,this]
 ·simp only [upd];rw [if_neg (by omega)];exact h.free o ho
 ·by_cases hoq:o=q
  ·subst hoq;simp [upd] at ho
  ·simp only [upd,if_neg hoq] at ho ⊢;exact h.gone o ho
 ·intro o o' v v' b hl hl' hv1 hv2 hb1 hb2
  by_cases ho:o=q
  ·by_cases ho':o'=q
   ·rw [ho,ho']
   ·exfalso
    subst ho
    simp only [upd,if_true,Option.some.injEq] at hv1
    subst hv1
    simp only [upd,if_neg ho'] at hl' hv2
    rcases hb b hb1 with h1|⟨h1,_,v0,h2,h3⟩
    ·have:=h.lt hl' hv2 hb2;omega
    ·exact ho' (h.sep o' o v' v0 b hl' h1 hv2 h2 hb2 h3)
  ·by_cases ho':o'=q
   ·exfalso
    subst ho'
    simp only [upd,if_true,Option.some.injEq] at hv2
    subst hv2
    simp only [upd,if_neg ho] at hl hv1
    rcases hb b hb2 with h1|⟨h1,_,v0,h2,h3⟩
    ·have:=h.lt hl hv1 hb1;omega
    ·exact ho (h.sep o o' v v0 b hl h1 hv1 h2 hb1 h3)
   ·simp only [upd,if_neg ho] at hl hv1
    simp only [upd,if_neg ho'] at hl' hv2
    exact h.sep o o' v v' b hl hl' hv1 hv2 hb1 hb2
 ·intro o v b hl hfr hv1 hb1
  by_cases ho:o=q
  ·subst ho
   simp only [upd,if_true,Option.some.injEq] at hv1
   subst hv1
   rcases hb b hb1 with h1|⟨h1,h1',v0,h2,h3⟩
   ·refine ⟨?_,h.new b h1⟩
    cases e:M b with
    |none=>rfl
    |some x'=>have:=(Array.getElem?_eq_some_iff.1 (h.mem b x' e)).1;omega
   ·exact h.own o v0 b h1 h1' h2 h3
  ·simp only [upd,if_neg ho] at hl hfr hv1
   exact h.own o v b hl hfr hv1 hb1
theorem Inv.world (h:Inv Q w M ρ G nx) (hw:∀ b,b < w.heap.size->w'.heap[b]? = w.heap[b]?) (hsz:w.heap.size<=w'.heap.size):Inv Q w' M ρ G nx:=by
 refine ⟨fun b o hm=>?_,fun o=>?_,h.free,h.gone,h.sep,h.own,fun b hb=>h.new b (by omega)⟩
 ·have:=h.mem b o hm
  rw [hw b (Array.getElem?_eq_some_iff.1 this).1];exact this
 ·by_cases hl:(G o).live=true
  ·exact (h.obj o).mono rfl rfl (Ev.refl _ _ _) fun v b hv hb=>hw b (h.lt hl hv hb)
  ·have:G o = .gone:=by cases e:G o<;>simp_all [Obj.live]
   unfold ObjOK;rw [this];trivial
theorem WS.alloc (h:∀ b,w.heap.size<=b->Q b) (o:Go.Obj):WS Q w (w.alloc o):=
 ⟨rfl,rfl,rfl,by simp,fun b hb=>by
  have:b < w.heap.size:=by
   rcases Nat.lt_or_ge b w.heap.size with h1|h1
   ·exact h1
   ·exact absurd (h b h1) hb
  exact Go.RowKit.Below.heap_alloc w o b this⟩
theorem Ev.new {q:Nat} {x:Obj} {r:Value} (hq:ρ q=none):Ev M ρ G M (upd ρ q (some r)) (upd G q x):=by
 refine ⟨Mem.le_refl M,fun o v h => .inl ?_,fun o hb et sz xs fr h=>?_⟩
 ·have:o≠q:=fun e=>by subst e;rw [hq] at h;cases h
  simp [upd,this,h]
 ·have:o≠q:=fun e=>by subst e;exact hb hq
  simp only [upd,if_neg this] at h ⊢
  exact ⟨xs,fr,h,Nat.le_refl _,fun _=>trivial⟩
theorem Ev.same {q:Nat} {x:Obj} {r:Value} (hq:ρ q=some r) (hx:∀ et sz xs fr,x = .row et sz xs fr->∃ xs0 fr0,G q = .row et sz xs0 fr0/\xs0.length=xs.length) :
  Ev M ρ G M (upd ρ q (some r)) (upd G q x):=by
 have e:upd ρ q (some r)=ρ:=by funext o;by_cases h:o=q<;>simp [upd,h,hq]
 rw [e]
 refine ⟨Mem.le_refl M,fun o v h => .inl h,fun o hb et sz xs fr h=>?_⟩
 by_cases ho:o=q
 ·subst ho
  simp only [upd,if_true] at h
  obtain ⟨xs0,fr0,h1,h2⟩:=hx et sz xs fr h
  exact ⟨xs0,fr0,h1,by omega,fun _=>rfl⟩
 ·simp only [upd,if_neg ho] at h
  exact ⟨xs,fr,h,Nat.le_refl _,fun _=>rfl⟩
end Go.Abs

/- The abstract interpreter: values, types, operands. -/
namespace Go.Abs
variable {M M':Mem} {ρ ρ':Ref} {G G':Nat->Obj} {w w':World} {nx:Nat} {Q:Nat->Prop} {P:Program}
/-! ### cells -/
theorem VI.cells {x:IV} {v:Value} (h:VI M x v):VL (VI M) x.cells v.cells:=by
 cases h with
 |agg xs vs h hl=>exact ⟨h,hl⟩
 |_=>
  refine ⟨rfl,fun i y hy=>?_⟩
  cases i with
  |zero=>simp [IV.cells] at hy;subst hy;simp only [at_,Value.cells];first|exact .bool _|exact .int _ _|exact .str _|exact .nil|exact .empty _ _ _|constructor<;>assumption
  |succ i=>simp [IV.cells] at hy
theorem VA.one {x:AV} {v:Value} (h:VA M ρ G x v) (h1:x.one=true):v.oneCell'=true:=by
 cases h with
 |imm x v h=>cases h<;>first|rfl|simp [AV.one] at h1
 |undef=>simp [AV.one] at h1
 |agg=>simp [AV.one] at h1
 |tup=>simp [AV.one] at h1
 |_=>rfl
theorem AV.fits_len {x:AV} {n:Nat} (h:x.fits n=true):x.cells.length=n:=by simp [AV.fits] at h;exact h.1
theorem AV.fits_one {x:AV} {n:Nat} (h:x.fits n=true):∀ y∈x.cells,y.one=true:=by simp [AV.fits] at h;exact h.2
theorem VA.cells {x:AV} {v:Value} (h:VA M ρ G x v) {n:Nat} (hf:x.fits n=true):VL (VA M ρ G) x.cells v.cells:=by
 have h1:=AV.fits_one hf
 cases h with
 |imm x v h=>
  have hc:=h.cells
  cases x with
  |agg cs=>simp only [AV.cells];exact ⟨by simpa [IV.cells] using hc.1,fun i y hy=>by
    rw [List.getElem?_map] at hy
    cases e:cs[i]? with
    |none=>rw [e] at hy;cases hy
    |some z=>rw [e] at hy;cases hy;exact .imm _ _ (hc.2 i z e)⟩
  |_=>
   refine ⟨by simpa [AV.cells,IV.cells] using hc.1,fun i y hy=>?_⟩
   cases i with
   |zero=>simp [AV.cells] at hy;subst hy;exact .imm _ _ (hc.2 0 _ (by simp [IV.cells]))
   |succ i=>simp [AV.cells] at hy
 |undef=>simp [AV.cells,AV.one] at h1
 |agg xs vs h hl=>exact ⟨h,hl⟩
 |tup xs vs h hl=>simp [AV.cells,AV.one] at h1
 |nils=>exact ⟨rfl,fun i y hy=>by cases i with
   |zero=>simp [AV.cells] at hy;subst hy;exact .nils
   |succ i=>simp [AV.cells] at hy⟩
 |ptr o off b h=>exact ⟨rfl,fun i y hy=>by cases i with
   |zero=>simp [AV.cells] at hy;subst hy;exact .ptr o off b h
   |succ i=>simp [AV.cells] at hy⟩
 |row o n a l c hb h=>exact ⟨rfl,fun i y hy=>by cases i with
   |zero=>simp [AV.cells] at hy;subst hy;exact .row o n a l c hb h
   |succ i=>simp [AV.cells] at hy⟩
 |rptr o n i off b f hb h=>exact ⟨rfl,fun i y hy=>by cases i with
   |zero=>simp [AV.cells] at hy;subst hy;exact .rptr o n _ off b f hb h
   |succ i=>simp [AV.cells] at hy⟩
 |map o b h=>exact ⟨rfl,fun i y hy=>by cases i with
   |zero=>simp [AV.cells] at hy;subst hy;exact .map o b h
   |succ i=>simp [AV.cells] at hy⟩
 |yld o l h=>exact ⟨rfl,fun i y hy=>by cases i with
   |zero=>simp [AV.cells] at hy;subst hy;exact .yld o l h
   |succ i=>simp [AV.cells] at hy⟩
 |fn f cap vs h hl=>exact ⟨rfl,fun i y hy=>by cases i with
   |zero=>simp [AV.cells] at hy;subst hy;exact .fn f cap vs h hl
   |succ i=>simp [AV.cells] at hy⟩
theorem VL.one {l:List AV} {vs:Array Value} (h:VL (VA M ρ G) l vs) (h1:∀ y∈l,y.one=true):∀ v∈vs,v.oneCell'=true:=by
 intro v hv
 obtain ⟨i,hi,rfl⟩:=Array.mem_iff_getElem.1 hv
 have hl:i < l.length:=by rw [h.1];exact hi
 have:=h.2 i l[i] (List.getElem?_eq_getElem hl)
 have e:at_ vs i=vs[i]:=by simp [at_,Array.getD_eq_getD_getElem?,hi]
 rw [e] at this
 exact this.one (h1 _ (List.getElem_mem hl))
theorem VA.imm_inv {x:IV} {c:Value} (h:VA M ρ G (.imm x) c):VI M x c:=by cases h with|imm _ _ h=>exact h
theorem VA.int_inv {k:IntKind} {n:Int} {c:Value} (h:VA M ρ G (.imm (.int k n)) c):c = .int k n:=by have h:=h.imm_inv;cases h;rfl
theorem VA.bool_inv {b:Bool} {c:Value} (h:VA M ρ G (.imm (.bool b)) c):c = .bool b:=by have h:=h.imm_inv;cases h;rfl
theorem VA.str_inv {s:ByteArray} {c:Value} (h:VA M ρ G (.imm (.str s)) c):c = .string s:=by have h:=h.imm_inv;cases h;rfl
theorem allImm_some {cs:List AV} {l:List IV} (h:allImm cs=some l):cs=l.map .imm:=by
 induction cs generalizing l with
 |nil=>simp [allImm] at h;subst h;rfl
 |cons v r ih=>
  cases v<;>simp only [allImm,Option.map_eq_some_iff,reduceCtorEq] at h
  obtain ⟨a,ha,rfl⟩:=h
  rw [ih ha];rfl
theorem VL_imm {l:List IV} {vs:Array Value} (h:VL (VA M ρ G) (l.map .imm) vs):VL (VI M) l vs:=by
 refine ⟨by simpa using h.1,fun i x hx=>?_⟩
 have:=h.2 i (.imm x) (by simp [hx])
 cases this;assumption
theorem VA_mkAgg {cs:List AV} {vs:Array Value} (h:VL (VA M ρ G) cs vs):VA M ρ G (mkAgg cs) (.agg vs):=by
 unfold mkAgg
 cases e:allImm cs with
 |none=>exact .agg cs vs h.1 h.2
 |some l=>rw [allImm_some e] at h;have:=VL_imm h;exact .imm _ _ (.agg l vs this.1 this.2)
theorem VA_mkTup {cs:List AV} {vs:Array Value} (h:VL (VA M ρ G) cs vs):VA M ρ G (mkTup cs) (.tuple vs):=by
 unfold mkTup
 cases e:allImm cs with
 |none=>exact .tup cs vs h.1 h.2
 |some l=>rw [allImm_some e] at h;have:=VL_imm h;exact .imm _ _ (.tup l vs this.1 this.2)
theorem VA_mkFn {f:Fn} {cs:List AV} {vs:Array Value} (h:VL (VA M ρ G) cs vs):VA M ρ G (mkFn f cs) (.func f #[] vs):=by
 unfold mkFn
 cases e:allImm cs with
 |none=>exact .fn f cs vs h.1 h.2
 |some l=>rw [allImm_some e] at h;have:=VL_imm h;exact .imm _ _ (.fn f l vs this.1 this.2)
/-! ### constants -/
theorem VA_cv1 (v:Value):VA M ρ G (cv1 v) v:=by
 unfold cv1
 split
 ·exact .imm _ _ (.bool _)
 ·exact .imm _ _ (.int _ _)
 ·exact .imm _ _ (.str _)
 ·exact .nils
 ·exact .imm _ _ .nilp
 ·exact .imm _ _ .nilmap
 ·exact .imm _ _ .nilfn
 ·exact .imm _ _ .niliface
 ·exact .undef _
theorem at_toList {vs:Array Value} {i:Nat} {z:Value} (e:vs.toList[i]? = some z):at_ vs i=z:=by
 have e':vs[i]? = some z:=by rw [<-Array.getElem?_toList];exact e
 simp [at_,Array.getD_eq_getD_getElem?,e']
theorem VL_cv1 (vs:Array Value):VL (VA M ρ G) (vs.toList.map cv1) vs:=by
 refine ⟨by simp,fun i x hx=>?_⟩
 rw [List.getElem?_map] at hx
 cases e:vs.toList[i]? with
 |none=>rw [e] at hx;cases hx
 |some z=>rw [e] at hx;cases hx;rw [at_toList e];exact VA_cv1 z
theorem cv_agg (cs:Array Value):cv (.agg cs)=mkAgg (cs.toList.map cv1):=rfl
theorem cv_other {v:Value} (h:∀ cs,v ≠ .agg cs):cv v=cv1 v:=by
 cases v<;>first|rfl|exact absurd rfl (h _)
theorem VA_cv (v:Value):VA M ρ G (cv v) v:=by
 by_cases h:∃ cs,v = .agg cs
 ·obtain ⟨cs,rfl⟩:=h
  rw [cv_agg];exact VA_mkAgg (VL_cv1 cs)
 ·rw [cv_other fun cs e=>h ⟨cs,e⟩];exact VA_cv1 v
theorem cells_mkAgg (l:List AV):(mkAgg l).cells=l:=by
 unfold mkAgg
 cases e:allImm l with
 |none=>rfl
 |some x=>simp only [AV.cells];exact (allImm_some e).symm
theorem cells_one {a:AV} (h1:∀ l,a ≠ .imm (.agg l)) (h2:∀ l,a ≠ .agg l):a.cells=[a]:=by
 cases a with
 |imm x=>cases x<;>first|rfl|exact absurd rfl (h1 _)
 |agg l=>exact absurd rfl (h2 l)
 |_=>rfl
theorem cv1_not (v:Value):(∀ l,cv1 v ≠ .imm (.agg l))/\(∀ l,cv1 v ≠ .agg l):=by
 unfold cv1
 split<;>exact ⟨fun l=>by simp,fun l=>by simp⟩
theorem cells_cv (v:Value):(cv v).cells.length=v.cells.size/\VL (VA M ρ G) (cv v).cells v.cells:=by
 by_cases h:∃ cs,v = .agg cs
 ·obtain ⟨cs,rfl⟩:=h
  rw [cv_agg,cells_mkAgg];exact ⟨by simp [Value.cells],VL_cv1 cs⟩
 ·have hn:∀ cs,v ≠ .agg cs:=fun cs e=>h ⟨cs,e⟩
  have hv:v.cells = #[v]:=by cases v<;>first|rfl|exact absurd rfl (hn _)
  rw [cv_other hn,cells_one (cv1_not v).1 (cv1_not v).2,hv]
  refine ⟨rfl,rfl,fun i x hx=>?_⟩
  cases i with
  |zero=>simp at hx;subst hx;exact VA_cv1 v
  |succ i=>simp at hx
/-! ### operands -/
def evV (arr:Array Value):Operand->Value
 | .tmp t=>arr.getD t Go.undef
 | .const v=>v
 | .global g => .pointer (some ⟨g,0,none⟩)
 | .func f => .func (.func f) #[] #[]
def TR (M:Mem) (ρ:Ref) (G:Nat->Obj) (tmps:Nat->AV) (arr:Array Value):Prop:=∀ t,VA M ρ G (tmps t) (arr.getD t Go.undef)
theorem TR.ev {tmps:Nat->AV} {arr:Array Value} (h:TR M ρ G tmps arr) (x:Operand):VA M ρ G (ev tmps x) (evV arr x):=by
 cases x with
 |tmp t=>exact h t
 |const v=>exact VA_cv v
 |global g=>exact .undef _
 |func f=>exact .imm _ _ (.fn _ _ _ rfl (fun i x hx=>by simp at hx))
theorem TR.mono {tmps:Nat->AV} {arr:Array Value} (h:TR M ρ G tmps arr) (hv:Ev M ρ G M' ρ' G'):TR M' ρ' G' tmps arr:=fun t=>(h t).mono hv
/-! ### types -/
theorem tyOf_some {t:TypeId} {i:TyI} (h:tyOf P t=some i) :
  ∃ info zv d,P.info? t=some info/\P.underlying t=some d/\info.zero=some zv/\fieldsOk P d=true/\i.d=tyd P d/\i.sz=info.size/\i.bytes=info.bytes/\i.zero=cv zv:=by
 unfold tyOf at h
 split at h
 ·rename_i info d h1 h2
  split at h
  ·rename_i zv h3 h4
   cases h
   exact ⟨info,zv,d,h1,h2,h3,h4,rfl,rfl,rfl,rfl⟩
  ·cases h
 ·cases h
theorem run_typeInfo' {t:TypeId} {info:TypeInfo} (h:P.info? t=some info):(typeInfo t).run P w = .ok info w:=by simp [typeInfo,h]
theorem run_sizeOf' {t:TypeId} {info:TypeInfo} (h:P.info? t=some info):(sizeOf t).run P w = .ok info.size w:=by simp [sizeOf,run_typeInfo' h]
theorem run_underlying' {t:TypeId} {d:TypeDesc} (h:P.underlying t=some d):(underlying t).run P w = .ok d w:=by simp [underlying,h]
theorem run_zeroValue' {t:TypeId} {info:TypeInfo} {v:Value} (h:P.info? t=some info) (hz:info.zero=some v):(zeroValue t).run P w = .ok v w:=by simp [zeroValue,run_typeInfo' h,hz]
theorem run_isAgg' {t:TypeId} {d:TypeDesc} (h:P.underlying t=some d):(isAgg t).run P w = .ok (tyd P d).isAgg w:=by
 simp only [isAgg,Sem.run_bind,run_underlying' h,Result.andThen_ok]
 cases d<;>rfl
end Go.Abs

/- The abstract interpreter: reading. -/
namespace Go.Abs
variable {M M':Mem} {ρ ρ':Ref} {G G':Nat->Obj} {w w':World} {nx:Nat} {Q:Nat->Prop} {P:Program}
theorem sub_some {α:Type} {l:List α} {off n:Nat} {cs:List α} (h:sub l off n=some cs):off+n<=l.length/\cs=(l.drop off).take n:=by
 unfold sub at h
 split at h
 ·cases h;exact ⟨by assumption,rfl⟩
 ·cases h
theorem sub_get {α:Type} {l:List α} {off n:Nat} {cs:List α} (h:sub l off n=some cs):off+n<=l.length/\cs.length=n/\∀ (j:Nat) y,cs[j]? = some y->j < n/\l[off+j]? = some y:=by
 obtain ⟨h1,rfl⟩:=sub_some h
 refine ⟨h1,by simp;omega,fun j y hy=>?_⟩
 have hj:j < n:=by
  have:=(List.getElem?_eq_some_iff.1 hy).1
  simp at this;omega
 rw [List.getElem?_take,if_pos hj,List.getElem?_drop] at hy
 exact ⟨hj,hy⟩
def CellsAt (w:World) (M:Mem) (ρ:Ref) (G:Nat->Obj) (cs:List AV) (b off:Nat):Prop:=
 ∃ vs e fr,w.heap[b]? = some (.cells vs e fr)/\off+cs.length<=vs.size/\∀ (j:Nat) y,cs[j]? = some y->VA M ρ G y (at_ vs (off+j))
theorem list_getD_take {l:List Value} {n i:Nat} (h:i < n):(l.take n).getD i Go.undef=l.getD i Go.undef:=by
 simp [List.getD_eq_getElem?_getD,h]
theorem at_list (vs:Array Value) (i:Nat):vs.toList.getD i Go.undef=at_ vs i:=by
 simp [at_,List.getD_eq_getElem?_getD,Array.getD_eq_getD_getElem?]
theorem imm_get {l:List IV} {j:Nat} {y:AV} (h:(l.map AV.imm)[j]? = some y):∃ z,y = .imm z/\l[j]? = some z:=by
 rw [List.getElem?_map] at h
 cases e:l[j]? with
 |none=>rw [e] at h;cases h
 |some z=>rw [e] at h;cases h;exact ⟨z,rfl,rfl⟩
theorem row_block {et:TypeId} {sz:Nat} {xs:List AV} {fr:Bool} {q:Nat} (hI:Inv Q w M ρ G nx) (hG:G q = .row et sz xs fr) {b l c:Nat} (hr:ρ q=some (.slice (some ⟨b,0,none⟩) l c)) :
  l=xs.length/\0 < sz/\l<=c/\c<=maxLen/\∃ cur,w.heap[b]? = some (.cells cur et (0,0))/\cur.size=c*sz/\(∀ x∈xs,x.fits sz=true) /\
   ∀ (i:Nat) x (j:Nat) y,xs[i]? = some x->x.cells[j]? = some y->VA M ρ G y (at_ cur (i*sz+j)):=by
 have:=hI.obj q
 unfold ObjOK at this
 rw [hG] at this
 obtain ⟨h0,v,cs,h1,h2,h3,h4⟩:=this
 rw [hr] at h1;cases h1
 rcases h2.2 with ⟨h,_⟩|⟨g,cap,cur,h,_,h5,h6,h7,h8,h9⟩
 ·cases h
 ·cases h
  refine ⟨rfl,h0,h6,h7,cur,h5,h8,h3.fit,fun i x j y hx hy=>?_⟩
  have hi:=(List.getElem?_eq_some_iff.1 hx).1
  have hj:=(List.getElem?_eq_some_iff.1 hy).1
  have hl:=AV.fits_len (h3.fit x (List.mem_of_getElem? hx))
  have hlt:i*sz+j < xs.length*sz:=by
   have:i*sz+sz<=xs.length*sz:=by rw [<-Nat.succ_mul];exact Nat.mul_le_mul_right _ hi
   omega
  have:=h3.cell i x j y hx hy
  rw [<-h9,list_getD_take hlt,at_list] at this
  exact this
theorem readAt_ok {n:Nat} {a:AV} {c:Value} {cs:List AV} (h:readAt G n a=some cs) (hI:Inv Q w M ρ G nx) (ha:VA M ρ G a c) :
  cs.length=n/\∃ b off,c = .pointer (some ⟨b,off,none⟩)/\CellsAt w M ρ G cs b off:=by
 cases a with
 |ptr o off=>
  simp only [readAt] at h
  split at h
  ·rename_i bs fr e
   obtain ⟨h1,h2,h3⟩:=sub_get h
   cases ha with
   |ptr _ _ b hr=>
    have:=hI.obj o
    unfold ObjOK at this
    rw [e] at this
    obtain ⟨b',vs,e',g1,g2,g3,_⟩:=this
    rw [hr] at g1;cases g1
    refine ⟨h2,b,off,rfl,vs,e',_,g2,by rw [h2,<-g3.1];exact h1,fun j y hy=>?_⟩
    exact g3.2 _ _ (h3 j y hy).2
  ·cases h
 |rptr o m i off=>
  simp only [readAt] at h
  split at h
  ·rename_i et sz xs fr e
   split at h
   ·rename_i hm
    split at h
    ·rename_i x hx
     obtain ⟨h1,h2,h3⟩:=sub_get h
     cases ha with
     |rptr _ _ _ _ b f hb hr1=>
      obtain ⟨_,hr2⟩:=hr1 et sz xs fr e
      obtain ⟨l,c,hr3,rfl⟩:=hr2 hm.symm
      obtain ⟨rfl,h0,_,_,cur,g1,g2,g3,g4⟩:=row_block hI e hr3
      have hl:=AV.fits_len (g3 x (List.mem_of_getElem? hx))
      have hi:=(List.getElem?_eq_some_iff.1 hx).1
      refine ⟨h2,b,_,rfl,cur,et,_,g1,?_,fun j y hy=>?_⟩
      ·have h5:i*sz+sz<=xs.length*sz:=by rw [<-Nat.succ_mul];exact Nat.mul_le_mul_right _ hi
       have h6:xs.length*sz<=c*sz:=Nat.mul_le_mul_right _ (by omega)
       rw [h2];omega
      ·have:=g4 i x (off+j) y hx (h3 j y hy).2
       rw [show i*sz+off+j=i*sz+(off+j) by omega];exact this
    ·cases h
   ·cases h
  ·cases h
 |imm x=>
  cases ha with
  |imm _ _ hv=>
  cases x with
  |fptr bs off=>
   simp only [readAt,Option.map_eq_some_iff] at h
   obtain ⟨l,h,rfl⟩:=h
   obtain ⟨h1,h2,h3⟩:=sub_get h
   cases hv with
   |fptr _ _ b vs e fr o0 hM hz hl=>
    refine ⟨by simpa using h2,b,_,rfl,vs,e,fr,hI.mem _ _ hM,by simp;omega,fun j y hy=>?_⟩
    obtain ⟨z,rfl,hz⟩:=imm_get hy
    have:=hl _ _ (h3 j z hz).2
    rw [show o0+off+j=o0+(off+j) by omega]
    exact .imm _ _ this
  |eptr xs i off=>
   simp only [readAt] at h
   split at h
   ·rename_i x hx
    simp only [Option.map_eq_some_iff] at h
    obtain ⟨l,h,rfl⟩:=h
    obtain ⟨h1,h2,h3⟩:=sub_get h
    cases hv with
    |eptr _ _ _ b vs e fr o0 sz hM hs hz1 hz2 hl=>
     have hi:=(List.getElem?_eq_some_iff.1 hx).1
     have hxl:=hz1 i x hx
     have h5:i*sz+sz<=xs.length*sz:=by rw [<-Nat.succ_mul];exact Nat.mul_le_mul_right _ hi
     refine ⟨by simpa using h2,b,_,rfl,vs,e,fr,hI.mem _ _ hM,by simp;omega,fun j y hy=>?_⟩
     obtain ⟨z,rfl,hz⟩:=imm_get hy
     have:=hl i x (off+j) z hx (h3 j z hz).2
     rw [show o0+i*sz+off+j=o0+i*sz+(off+j) by omega]
     exact .imm _ _ this
   ·cases h
  |_=>simp [readAt] at h
 |_=>simp [readAt] at h
theorem add_none (b off n:Nat):(⟨b,off,none⟩:Addr).add n=⟨b,off+n,none⟩:=Addr.add_lit b off n
theorem cell_at {w:World} {b i:Nat} {vs:Array Value} {e:TypeId} {fr:Nat×Nat} (hg:w.heap[b]? = some (.cells vs e fr)) (hi:i < vs.size):w.cell? ⟨b,i,none⟩=some (at_ vs i):=by
 rw [cell_of_row w b i vs e fr hg]
 simp [at_,Array.getD_eq_getD_getElem?,hi]
theorem loadVar_ok {t:TypeId} {i:TyI} {cs:List AV} {b off:Nat} (ht:tyOf P t=some i) (hc:CellsAt w M ρ G cs b off) (hn:cs.length=i.sz) (h1c:i.d.isAgg=false->∃ v,cs=[v]) :
  ∃ u,(loadVar t ⟨b,off,none⟩).run P w = .ok u w/\(if i.d.isAgg then VA M ρ G (mkAgg cs) u else ∀ v,cs=[v]->VA M ρ G v u):=by
 obtain ⟨info,zv,d,h1,h2,h3,_,h4,h5,_⟩:=tyOf_some ht
 obtain ⟨vs,e,fr,g1,g2,g3⟩:=hc
 have hld:(loadCells ⟨b,off,none⟩ info.size).run P w = .ok ((List.range info.size).map fun j=>at_ vs (off+j)).toArray w:=
  run_loadCells w ⟨b,off,none⟩ info.size _ fun j hj=>by rw [add_none];exact cell_at g1 (by omega)
 simp only [loadVar,Sem.run_bind,run_isAgg' h2,Result.andThen_ok,<-h4]
 cases hag:i.d.isAgg with
 |true=>
  simp only [if_true,Sem.run_bind,run_sizeOf' h1,Result.andThen_ok,hld,Sem.run_pure]
  refine ⟨_,rfl,VA_mkAgg ⟨by simp;omega,fun j y hy=>?_⟩⟩
  have hj:=(List.getElem?_eq_some_iff.1 hy).1
  have:at_ ((List.range info.size).map fun j=>at_ vs (off+j)).toArray j=at_ vs (off+j):=by
   apply at_toList;simp [List.getElem?_range (show j < info.size by omega)]
  rw [this];exact g3 j y hy
 |false=>
  simp only [Bool.false_eq_true,if_false]
  obtain ⟨v0,rfl⟩:=h1c hag
  have h0:off < vs.size:=by simp at g2;omega
  refine ⟨at_ vs off,by rw [run_load,cell_at g1 h0],fun v hv=>?_⟩
  cases hv
  exact g3 0 v0 rfl
/-! ### writing -/
theorem aLoad_ok {t:TypeId} {a v:AV} {c:Value} {ups:List (Nat×U)} {C:Cfg} (h:aLoad C G t a=some (.val v ups)) (hI:Inv Q w M ρ G nx) (ha:VA M ρ G a c) :
  ups=[]/\∃ u,(Instr.loadAt t c).run C.P w = .ok u w/\VA M ρ G v u:=by
 unfold aLoad at h
 split at h
 ·rename_i i hi
  split at h
  ·rename_i cs hcs
   obtain ⟨hn,b,off,rfl,hc⟩:=readAt_ok hcs hI ha
   have hl:∀ (hone:i.d.isAgg=false->∃ v,cs=[v]),∃ u,(Instr.loadAt t (.pointer (some ⟨b,off,none⟩))).run C.P w = .ok u w/\(if i.d.isAgg then VA M ρ G (mkAgg cs) u else ∀ v,cs=[v]->VA M ρ G v u):=by
    intro hone
    obtain ⟨u,h1,h2⟩:=loadVar_ok (P:=C.P) hi hc hn hone
    exact ⟨u,by simp [Instr.loadAt,Instr.sureAddr,h1],h2⟩
   split at h
   ·rename_i hag
    cases h
    obtain ⟨u,h1,h2⟩:=hl (fun e=>by rw [hag] at e;cases e)
    rw [if_pos hag] at h2
    exact ⟨rfl,u,h1,h2⟩
   ·rename_i hag
    split at h
    ·rename_i v'
     cases h
     obtain ⟨u,h1,h2⟩:=hl (fun _=>⟨_,rfl⟩)
     rw [if_neg hag] at h2
     exact ⟨rfl,u,h1,h2 _ rfl⟩
    ·cases h
  ·cases h
 ·cases h
end Go.Abs

/- The abstract interpreter: operations. -/
namespace Go.Abs
variable {id:Nat}
variable {M M':Mem} {ρ ρ':Ref} {G G':Nat->Obj} {w w':World} {nx:Nat} {Q:Nat->Prop} {P:Program} {C:Cfg}
def MQ (Q:Nat->Prop) (M M':Mem):Prop:=∀ b,M' b≠none->M b≠none\/Q b
theorem MQ.refl (Q:Nat->Prop) (M:Mem):MQ Q M M:=fun _ h => .inl h
theorem MQ.trans {A B D:Mem} (h:MQ Q A B) (k:MQ Q B D):MQ Q A D:=fun b hb=>(k b hb).elim (h b) .inr
def Good (id:Nat) (Q:Nat->Prop) (M:Mem) (ρ:Ref) (G:Nat->Obj) (nx:Nat) (w:World) (G':Nat->Obj) (v:AV) (r:Result Next):Prop:=
 ∃ nxt c w' M' ρ',r = .ok nxt w'/\(nxt = .value c\/nxt = .skip/\c=Go.undef)/\Ev M ρ G M' ρ' G'/\Inv Q w' M' ρ' G' nx/\VA M' ρ' G' v c/\WS Q w w'/\MQ Q M M'/\∀ o,o≠id->ρ o=none->ρ' o=none
theorem Good.pure {v:AV} {c:Value} {r:Result Next} (hI:Inv Q w M ρ G nx) (hr:r = .ok (.value c) w) (hv:VA M ρ G v c):Good id Q M ρ G nx w G v r:=
 ⟨_,c,w,M,ρ,hr, .inl rfl,Ev.refl _ _ _,hI,hv,WS.refl _ _,MQ.refl _ _,fun _ _ e=>e⟩
def vNext (s:Sem Value):Sem Next:=do pure (.value (<-s))
def uNext (s:Sem Unit):Sem Next:=do s;pure .skip
theorem run_vNext {s:Sem Value} {c:Value} (h:s.run P w = .ok c w'):(vNext s).run P w = .ok (.value c) w':=by simp [vNext,h]
theorem run_uNext {s:Sem Unit} {u:Unit} (h:s.run P w = .ok u w'):(uNext s).run P w = .ok .skip w':=by simp [uNext,h]
theorem good_box {id:Nat} {cs:List AV} {vs:Array Value} {t:TypeId} (hI:Inv Q w M ρ G nx) (hid:ρ id=none) (hlt:id < nx) (hc:VL (VA M ρ G) cs vs) {s:Sem Value}
  (hs:s.run P w = .ok (.pointer (some ⟨w.heap.size,0,none⟩)) (w.alloc (.cells vs t))) :
  Good id Q M ρ G nx w (updL G [(id, .set (.box cs false))]) (.ptr id 0) ((vNext s).run P w):=by
 have hv:Ev M ρ G M (upd ρ id (some (.pointer (some ⟨w.heap.size,0,none⟩)))) (upd G id (.box cs false)):=Ev.new hid
 refine ⟨_,_,_,M,upd ρ id (some (.pointer (some ⟨w.heap.size,0,none⟩))),run_vNext hs, .inl rfl,hv,?_,?_,WS.alloc hI.new _,MQ.refl _ _,fun o h e=>by simp [upd,h,e]⟩
 ·refine hI.put hlt hv (fun b=>?_) (by simp) ?_ (fun b hb=>?_)
  ·rcases Nat.lt_or_ge b w.heap.size with h|h
   ·exact .inl (Go.RowKit.Below.heap_alloc w _ b h)
   ·exact .inr (.inl h)
  ·unfold ObjOK
   simp only [upd,if_true]
   exact ⟨w.heap.size,vs,t,rfl,heap_alloc_new w _,hc.imp fun _ _=>VA.mono hv,fun h=>by cases h⟩
  ·simp [blk] at hb;exact .inl (by omega)
 ·exact .ptr id 0 w.heap.size (by simp [upd])
theorem aAlloc_ok {id:Nat} {t:TypeId} {v:AV} {ups:List (Nat×U)} (h:aAlloc C id t=some (.val v ups)) (hI:Inv Q w M ρ G nx) (hid:ρ id=none) (hlt:id < nx) :
  Good id Q M ρ G nx w (updL G ups) v ((vNext (Instr.alloc t true (.tuple #[]))).run C.P w):=by
 unfold aAlloc at h
 split at h
 ·rename_i i hi
  split at h
  ·cases h
   obtain ⟨info,zv,d,h1,h2,h3,_,h4,h5,h6,h7⟩:=tyOf_some hi
   rw [h7]
   exact good_box (t:=t) hI hid hlt (cells_cv zv).2 (by simp [Instr.alloc,run_zeroValue' h1 h3,newVar,newRow])
  ·cases h
 ·cases h
theorem aBox_ok {id:Nat} {t:TypeId} {x v:AV} {c:Value} {ups:List (Nat×U)} (h:aBox C id t x=some (.val v ups)) (hI:Inv Q w M ρ G nx) (hid:ρ id=none) (hlt:id < nx) (hx:VA M ρ G x c) :
  Good id Q M ρ G nx w (updL G ups) v ((vNext (Instr.box t c)).run C.P w):=by
 unfold aBox at h
 split at h
 ·rename_i i hi
  split at h
  ·rename_i hf
   cases h
   exact good_box (t:=t) hI hid hlt (hx.cells hf) (by simp [Instr.box,newVar,newRow])
  ·cases h
 ·cases h
end Go.Abs

/- The abstract interpreter: literals. -/
namespace Go.Abs
variable {id:Nat}
variable {M M':Mem} {ρ ρ':Ref} {G G':Nat->Obj} {w w':World} {nx:Nat} {Q:Nat->Prop} {P:Program} {C:Cfg}
theorem at_set (cs:Array Value) (i k:Nat) (v:Value) (h:i < cs.size):at_ (cs.setIfInBounds i v) k=if k=i then v else at_ cs k:=by
 simp only [at_,Array.getD_eq_getD_getElem?,Array.getElem?_setIfInBounds]
 by_cases hk:k=i
 ·subst hk;simp [h]
 ·rw [if_neg (fun e=>hk e.symm),if_neg hk]
theorem fold_set (off:Nat) (l:List Value):∀ (s:Nat) (cs:Array Value),off+s+l.length<=cs.size ->
  ((l.zipIdx s).foldl (fun cs p=>cs.setIfInBounds (off+p.2) p.1) cs).size=cs.size /\
  ∀ k,at_ ((l.zipIdx s).foldl (fun cs p=>cs.setIfInBounds (off+p.2) p.1) cs) k=if off+s<=k/\k < off+s+l.length then l.getD (k-off-s) Go.undef else at_ cs k:=by
 induction l with
 |nil=>intro s cs _;exact ⟨rfl,fun k=>by rw [if_neg (by simp)];rfl⟩
 |cons v r ih=>
  intro s cs hs
  simp only [List.length_cons] at hs
  simp only [List.zipIdx_cons,List.foldl_cons]
  obtain ⟨h1,h2⟩:=ih (s+1) (cs.setIfInBounds (off+s) v) (by simp;omega)
  refine ⟨h1.trans (by simp),fun k=>?_⟩
  rw [h2 k]
  by_cases hk:k=off+s
  ·subst hk
   rw [if_neg (by omega),at_set _ _ _ _ (by omega),if_pos rfl,if_pos (by simp)]
   simp
  ·by_cases hk2:off+s<=k/\k < off+s+(r.length+1)
   ·rw [if_pos (by omega),if_pos (by simpa using hk2)]
    have:k-off-s=(k-off-(s+1))+1:=by omega
    rw [this];simp
   ·rw [if_neg (by omega),if_neg (by simpa using hk2),at_set _ _ _ _ (by omega),if_neg hk]
theorem splice_get {α:Type} (l:List α) (off:Nat) (new:List α) (h:off+new.length<=l.length) (k:Nat) :
  (splice l off new)[k]? = if k < off then l[k]? else if k < off+new.length then new[k-off]? else l[k]? := by
 unfold splice
 rw [List.append_assoc,List.getElem?_append]
 have ht:(l.take off).length=off:=by simp;omega
 rw [ht]
 split
 ·rename_i hk
  rw [List.getElem?_take,if_pos hk]
 ·rename_i hk
  rw [List.getElem?_append]
  split
  ·rename_i hk2
   rw [if_pos (by omega)]
  ·rename_i hk2
   rw [if_neg (by omega),List.getElem?_drop]
   congr 1;omega
theorem splice_len {α:Type} (l:List α) (off:Nat) (new:List α) (h:off+new.length<=l.length):(splice l off new).length=l.length:=by
 unfold splice;simp;omega
def Parts (M:Mem) (ρ:Ref) (G:Nat->Obj) (ps:List (Nat×AV)) (qs:List (Nat×Value)):Prop:=
 ps.length=qs.length/\∀ (k:Nat) p q,ps[k]? = some p->qs[k]? = some q->p.1=q.1/\VA M ρ G p.2 q.2
theorem Parts.tail {p:Nat×AV} {q:Nat×Value} {ps:List (Nat×AV)} {qs:List (Nat×Value)} (h:Parts M ρ G (p::ps) (q::qs)):Parts M ρ G ps qs:=
 ⟨by simpa using h.1,fun k a b ha hb=>h.2 (k+1) a b (by simpa using ha) (by simpa using hb)⟩
theorem fillA_ok (fs:List (Nat×Nat)):∀ (ps:List (Nat×AV)) (qs:List (Nat×Value)) (cs cs':List AV) (vs:Array Value),fillA fs cs ps=some cs'->Parts M ρ G ps qs->VL (VA M ρ G) cs vs ->
  ∃ vs',Instr.fill (fun i=>fs[i]?) vs qs=some vs'/\VL (VA M ρ G) cs' vs':=by
 intro ps
 induction ps with
 |nil=>
  intro qs cs cs' vs h hp hc
  cases qs with
  |nil=>simp only [fillA,Option.some.injEq] at h;subst h;exact ⟨vs,rfl,hc⟩
  |cons q qs=>simp [Parts] at hp
 |cons p ps ih=>
  intro qs cs cs' vs h hp hc
  cases qs with
  |nil=>simp [Parts] at hp
  |cons q qs=>
   obtain ⟨i,x⟩:=p
   obtain ⟨i',c⟩:=q
   obtain ⟨rfl,hx⟩:=hp.2 0 (i,x) (i',c) rfl rfl
   simp only at hx
   simp only [fillA] at h
   split at h
   ·cases h
   ·rename_i off size hfs
    split at h
    ·rename_i hf
     obtain ⟨hf,hlen⟩:=hf
     have hcell:=hx.cells hf
     have hn:=AV.fits_len hf
     have hvs:vs.size=cs.length:=hc.1.symm
     have hcs:c.cells.size=size:=by rw [<-hcell.1];exact hn
     obtain ⟨g1,g2⟩:=fold_set off c.cells.toList 0 vs (by simp;omega)
     have hfold:(c.cells.zipIdx.foldl (fun (cs:Array Value) (p:Value×Nat)=>cs.setIfInBounds (off+p.2) p.1) vs)=(c.cells.toList.zipIdx 0).foldl (fun cs p=>cs.setIfInBounds (off+p.2) p.1) vs:=by
      rw [<-Array.foldl_toList];simp
     have hnew:VL (VA M ρ G) (splice cs off x.cells) ((c.cells.toList.zipIdx 0).foldl (fun cs p=>cs.setIfInBounds (off+p.2) p.1) vs):=by
      refine ⟨by rw [splice_len _ _ _ (by omega),g1];exact hc.1,fun k y hy=>?_⟩
      rw [g2 k]
      rw [splice_get _ _ _ (by omega)] at hy
      split at hy
      ·rw [if_neg (by omega)];exact hc.2 k y hy
      ·split at hy
       ·rw [if_pos (by simp;omega)]
        have:=hcell.2 (k-off) y hy
        rw [<-at_list] at this
        simpa using this
       ·rw [if_neg (by simp;omega)];exact hc.2 k y hy
     obtain ⟨vs',k1,k2⟩:=ih qs _ cs' _ h hp.tail hnew
     refine ⟨vs',?_,k2⟩
     simp only [Instr.fill,hfs]
     rw [if_neg (by simp;omega)]
     rw [<-k1]
     congr 1
    ·cases h
theorem run_places (fs:Array Field) (h:fieldsOk P (.struct fs)=true) :
  (fs.mapM fun f=>(do pure (f.offset,<-sizeOf f.type):Sem (Nat×Nat))).run P w = .ok (fs.map fun f=>(f.offset,P.cellsOf f.type)) w:=by
 have key:∀ l:List Field,(l.all fun f=>(P.info? f.type).isSome)=true->(l.mapM fun f=>(do pure (f.offset,<-sizeOf f.type):Sem (Nat×Nat))).run P w = .ok (l.map fun f=>(f.offset,P.cellsOf f.type)) w:=by
  intro l
  induction l with
  |nil=>intro _;simp
  |cons f r ih=>
   intro hl
   simp only [List.all_cons,Bool.and_eq_true] at hl
   obtain ⟨info,hi⟩:=Option.isSome_iff_exists.1 hl.1
   simp only [List.mapM_cons,Sem.run_bind,run_sizeOf' hi,Result.andThen_ok,Sem.run_pure,ih hl.2,List.map_cons,Program.cellsOf,hi,Option.map_some,Option.getD_some]
 have:=key fs.toList (by simpa [fieldsOk] using h)
 rw [Array.mapM_eq_mapM_toList]
 erw [Sem.run_map,this]
 simp only [Result.andThen_ok]
 congr 1
 apply Array.ext'
 simp
theorem aBuild_ok {t:TypeId} {ps:List (Nat×AV)} {qs:Array (Nat×Value)} {v:AV} {ups:List (Nat×U)} (h:aBuild C t ps=some (.val v ups)) (hp:Parts M ρ G ps qs.toList) :
  ups=[]/\∃ u,(Instr.build t qs).run C.P w = .ok u w/\VA M ρ G v u:=by
 unfold aBuild at h
 split at h
 ·rename_i i hi
  split at h
  ·rename_i fs hd
   split at h
   ·rename_i cs hcs
    cases h
    obtain ⟨info,zv,d,h1,h2,h3,h4,h5,h6,h7,h8⟩:=tyOf_some hi
    rw [hd] at h5
    cases d<;>simp only [tyd,reduceCtorEq,TyD.st.injEq] at h5
    rename_i fds
    have hz:=(cells_cv (M:=M) (ρ:=ρ) (G:=G) zv).2
    rw [<-h8] at hz
    obtain ⟨vs',k1,k2⟩:=fillA_ok fs ps qs.toList _ cs _ hcs hp hz
    refine ⟨rfl, .agg vs',?_,VA_mkAgg k2⟩
    have hpl:(fun (i:Nat)=>(fds.map fun f=>(f.offset,C.P.cellsOf f.type))[i]?)=fun i=>fs[i]? := by
     funext j;rw [h5];simp
    simp only [Instr.build,Sem.run_bind,run_zeroValue' h1 h3,Result.andThen_ok,run_underlying' h2,run_places fds h4]
    rw [hpl,k1]
    simp
   ·cases h
  ·cases h
 ·cases h
theorem good_row {id:Nat} {et:TypeId} {sz:Nat} {xs:List AV} {v:Value} {w2:World} {s:Sem Value} {ids:List Nat} (hI:Inv Q w M ρ G nx) (hid:ρ id=none) (hlt:id < nx) (h0:0 < sz)
  {cs:List Value} (hown:w2.ownsRow 0 et sz v xs.length cs) (hfit:∀ x∈xs,x.fits sz=true)
  (hcell:∀ (i:Nat) x (j:Nat) y,xs[i]? = some x->x.cells[j]? = some y->VA M ρ G y (cs.getD (i*sz+j) Go.undef))
  (hnew:∀ b,blk v=some b->w.heap.size<=b) (hw:WS Q w w2) (hold:∀ b,b < w.heap.size->w2.heap[b]? = w.heap[b]?) (hs:s.run P w = .ok v w2) :
  Good id Q M ρ G nx w (updL G [(id, .set (.row et sz xs false))]) (.row id xs.length) ((vNext s).run P w):=by
 have hv:Ev M ρ G M (upd ρ id (some v)) (upd G id (.row et sz xs false)):=Ev.new hid
 refine ⟨_,_,_,M,upd ρ id (some v),run_vNext hs, .inl rfl,hv,?_,?_,hw,MQ.refl _ _,fun o h e=>by simp [upd,h,e]⟩
 ·refine hI.put hlt hv (fun b=>?_) hw.size ?_ (fun b hb => .inl (hnew b hb))
  ·rcases Nat.lt_or_ge b w.heap.size with h|h
   ·exact .inl (hold b h)
   ·exact .inr (.inl h)
  ·unfold ObjOK
   simp only [upd,if_true]
   exact ⟨h0,v,cs,rfl,hown,⟨hfit,fun i x j y hx hy=>(hcell i x j y hx hy).mono hv⟩,fun h=>by cases h⟩
 ·rcases hown.2 with ⟨rfl,h1⟩|⟨g,cap,cur,rfl,_⟩
  ·exact .row id _ none 0 0 (by simp [upd]) fun et' sz' xs' fr' e=>by
    simp only [updL,U.on,upd,if_true,Obj.row.injEq] at e
    obtain ⟨rfl,rfl,rfl,rfl⟩:=e
    exact ⟨Nat.le_refl _,fun _=>by simp [upd]⟩
  ·exact .row id _ _ _ _ (by simp [upd]) fun et' sz' xs' fr' e=>by
    simp only [updL,U.on,upd,if_true,Obj.row.injEq] at e
    obtain ⟨rfl,rfl,rfl,rfl⟩:=e
    exact ⟨Nat.le_refl _,fun _=>by simp [upd]⟩
def Elems (M:Mem) (ρ:Ref) (G:Nat->Obj) (sz:Nat) (xs:List AV) (cs:Array Value):Prop:=
 cs.size=xs.length*sz/\(∀ x∈xs,x.fits sz=true)/\∀ (i:Nat) x (j:Nat) y,xs[i]? = some x->x.cells[j]? = some y->VA M ρ G y (at_ cs (i*sz+j))
theorem mul_lt_of {i n sz j:Nat} (hi:i < n) (hj:j < sz):i*sz+j < n*sz:=by
 have:i*sz+sz<=n*sz:=by rw [<-Nat.succ_mul];exact Nat.mul_le_mul_right _ hi
 omega
theorem at_madeCells (z:Array Value) (n k:Nat) (h:k < n):at_ (madeCells z n) k=at_ z (k % z.size)\/z.size=0:=by
 rcases Nat.eq_zero_or_pos z.size with h0|h0
 ·exact .inr h0
 ·left
  have:=Nat.mod_lt k h0
  simp [madeCells,at_,Array.getD_eq_getD_getElem?,h,this,getElem!_pos]
theorem Elems_made {z:AV} {zv:Value} {n sz:Nat} (hz:VL (VA M ρ G) z.cells zv.cells) (hf:z.fits sz=true) (h0:0 < sz):Elems M ρ G sz (List.replicate n z) (madeCells zv.cells (n*sz)):=by
 have hl:=AV.fits_len hf
 have hzs:zv.cells.size=sz:=by rw [<-hz.1];exact hl
 refine ⟨by simp [size_madeCells],fun x hx=>by rw [List.eq_of_mem_replicate hx];exact hf,fun i x j y hx hy=>?_⟩
 obtain ⟨hi,hx⟩:=List.getElem?_eq_some_iff.1 hx
 simp at hi hx
 subst hx
 have hj:=(List.getElem?_eq_some_iff.1 hy).1
 rcases at_madeCells zv.cells (n*sz) (i*sz+j) (mul_lt_of hi (by omega)) with h|h
 ·rw [h,hzs]
  have:(i*sz+j) % sz=j:=by rw [Nat.mul_comm,Nat.mul_add_mod];exact Nat.mod_eq_of_lt (by omega)
  rw [this]
  exact hz.2 j y hy
 ·omega
theorem fillE_ok {sz len:Nat} (_h0:0 < sz):∀ (ps:List (Nat×AV)) (qs:List (Nat×Value)) (xs:List AV) (vs:Array Value),Parts M ρ G ps qs->ps.all (fun p=>p.2.fits sz&&decide (p.1 < len))=true->xs.length=len ->
  Elems M ρ G sz xs vs->∃ vs',Instr.fill (fun i=>some (i*sz,sz)) vs qs=some vs'/\(fillE xs ps).length=len/\Elems M ρ G sz (fillE xs ps) vs':=by
 intro ps
 induction ps with
 |nil=>
  intro qs xs vs hp _ hlen hE
  cases qs with
  |nil=>exact ⟨vs,rfl,hlen,hE⟩
  |cons q qs=>simp [Parts] at hp
 |cons p ps ih=>
  intro qs xs vs hp hall hlen hE
  cases qs with
  |nil=>simp [Parts] at hp
  |cons q qs=>
   obtain ⟨i,x⟩:=p
   obtain ⟨i',c⟩:=q
   obtain ⟨rfl,hx⟩:=hp.2 0 (i,x) (i',c) rfl rfl
   simp only at hx
   simp only [List.all_cons,Bool.and_eq_true,decide_eq_true_eq] at hall
   obtain ⟨⟨hf,hi⟩,hall⟩:=hall
   obtain ⟨e1,e2,e3⟩:=hE
   have hcell:=hx.cells hf
   have hn:=AV.fits_len hf
   have hcs:c.cells.size=sz:=by rw [<-hcell.1];exact hn
   have hfit:i*sz+sz<=xs.length*sz:=by rw [<-Nat.succ_mul];exact Nat.mul_le_mul_right _ (by omega)
   obtain ⟨g1,g2⟩:=fold_set (i*sz) c.cells.toList 0 vs (by simp;omega)
   have hfold:(c.cells.zipIdx.foldl (fun (cs:Array Value) (p:Value×Nat)=>cs.setIfInBounds (i*sz+p.2) p.1) vs)=(c.cells.toList.zipIdx 0).foldl (fun cs p=>cs.setIfInBounds (i*sz+p.2) p.1) vs:=by
    rw [<-Array.foldl_toList];simp
   have hnew:Elems M ρ G sz (xs.set i x) ((c.cells.toList.zipIdx 0).foldl (fun cs p=>cs.setIfInBounds (i*sz+p.2) p.1) vs):=by
    refine ⟨by rw [g1];simpa using e1,fun y hy=>?_,fun k y j u hy hu=>?_⟩
    ·rcases List.mem_or_eq_of_mem_set hy with h|rfl
     ·exact e2 y h
     ·exact hf
    ·rw [g2]
     rw [List.getElem?_set] at hy
     by_cases hk:i=k
     ·subst hk
      rw [if_pos rfl] at hy
      split at hy
      ·cases hy
       have hj:=(List.getElem?_eq_some_iff.1 hu).1
       rw [if_pos (by simp;omega)]
       have:=hcell.2 j u hu
       rw [<-at_list] at this
       simpa using this
      ·cases hy
     ·rw [if_neg hk] at hy
      have hj:=(List.getElem?_eq_some_iff.1 hu).1
      have hyl:=AV.fits_len (e2 y (List.mem_of_getElem? hy))
      rw [if_neg]
      ·exact e3 k y j u hy hu
      ·simp
       intro h1
       rcases Nat.lt_or_ge k i with h2|h2
       ·have:k*sz+sz<=i*sz:=by rw [<-Nat.succ_mul];exact Nat.mul_le_mul_right _ h2
        omega
       ·have:i*sz+sz<=k*sz:=by rw [<-Nat.succ_mul];exact Nat.mul_le_mul_right _ (by omega)
        omega
   obtain ⟨vs',k1,k2,k3⟩:=ih qs (xs.set i x) _ hp.tail hall (by simpa using hlen) hnew
   refine ⟨vs',?_,k2,k3⟩
   simp only [Instr.fill]
   rw [if_neg (by simp;omega),<-k1]
   congr 1
theorem Elems.getD {sz:Nat} {xs:List AV} {cs:Array Value} (h:Elems M ρ G sz xs cs) (i:Nat) x (j:Nat) y (hx:xs[i]? = some x) (hy:x.cells[j]? = some y):VA M ρ G y (cs.toList.getD (i*sz+j) Go.undef):=by
 rw [at_list];exact h.2.2 i x j y hx hy
theorem aBuildSlice_ok {id:Nat} {t:TypeId} {len:Nat} {ps:List (Nat×AV)} {qs:Array (Nat×Value)} {v:AV} {ups:List (Nat×U)} (h:aBuildSlice C id t len ps=some (.val v ups))
  (hI:Inv Q w M ρ G nx) (hid:ρ id=none) (hlt:id < nx) (hp:Parts M ρ G ps qs.toList):Good id Q M ρ G nx w (updL G ups) v ((vNext (Instr.buildSlice t len qs)).run C.P w):=by
 unfold aBuildSlice at h
 split at h
 ·rename_i k hk
  split at h
  ·rename_i et hd
   split at h
   ·rename_i i hi
    split at h
    ·rename_i hc
     obtain ⟨c1,c2,c3,c4⟩:=hc
     cases h
     obtain ⟨info,zv,d,h1,h2,h3,h4,h5,h6,h7,h8⟩:=tyOf_some hk
     rw [hd] at h5
     cases d<;>simp only [tyd,reduceCtorEq,TyD.sl.injEq] at h5
     subst h5
     obtain ⟨info',zv',d',k1,k2,k3,k4,k5,k6,k7,k8⟩:=tyOf_some hi
     have hz:=(cells_cv (M:=M) (ρ:=ρ) (G:=G) zv').2
     rw [<-k8] at hz
     have hE:=Elems_made (n:=len) hz c2 c4
     obtain ⟨vs',f1,f2,f3⟩:=fillE_ok (len:=len) c4 ps qs.toList _ _ hp c3 (List.length_replicate ..) hE
     have hlen:∀ m:Nat,m=(fillE (List.replicate len i.zero) ps).length->AV.row id len=AV.row id m:=fun m hm=>by rw [hm,f2]
     rw [hlen _ rfl]
     refine good_row (w2:=w.alloc (.cells vs' et)) (v := .slice (some ⟨w.heap.size,0,none⟩) len len) (cs:=vs'.toList) (ids:=[]) hI hid hlt c4 ?_ f3.2.1 f3.getD ?_ (WS.alloc hI.new _) (fun b hb=>Go.RowKit.Below.heap_alloc w _ b hb) ?_
     ·rw [f2]
      have hvs:vs'.size=len*i.sz:=by rw [f3.1,f2]
      refine ⟨by simpa using hvs, .inr ⟨w.heap.size,len,vs',rfl,Nat.zero_le _,heap_alloc_new w _,Nat.le_refl _,?_,hvs,List.take_of_length_le (by rw [Array.length_toList];omega)⟩⟩
      have:len<=len*i.sz:=Nat.le_mul_of_pos_right _ c4
      unfold maxLen;omega
     ·intro b hb;simp [blk] at hb;omega
     ·have hzero:(if len*i.sz=0 then (pure #[]:Sem (Array Value)) else do pure (<-zeroValue et).cells).run C.P w = .ok (if len*i.sz=0 then #[] else zv'.cells) w:=by
       split
       ·rfl
       ·simp [run_zeroValue' k1 k3]
      have hmade:(Array.range (len*i.sz)).map (fun x=>(if len*i.sz=0 then #[] else zv'.cells)[x % (if len*i.sz=0 then (#[]:Array Value) else zv'.cells).size]!)=madeCells zv'.cells (len*i.sz):=by
       unfold madeCells
       split
       ·rename_i h;rw [h];simp
       ·rfl
      have hsz:info'.size=i.sz:=k6.symm
      simp only [Instr.buildSlice,Sem.run_bind,run_underlying' h2,Result.andThen_ok,run_sizeOf' k1,hsz]
      rw [if_neg (by omega)]
      by_cases h00:len*i.sz=0
      ·rw [if_pos h00] at hmade ⊢
       simp only [h00] at hmade
       simp only [pure_bind]
       have e0:((Array.range (len*i.sz)).map fun x=>(#[]:Array Value)[x % (#[]:Array Value).size]!)=madeCells zv'.cells (len*i.sz):=by rw [h00];simp [madeCells]
       rw [e0,f1]
       simp [newRow]
      ·rw [if_neg h00]
       simp only [Sem.run_bind,run_zeroValue' k1 k3,Result.andThen_ok,Sem.run_pure]
       rw [show ((Array.range (len*i.sz)).map fun x=>zv'.cells[x % zv'.cells.size]!)=madeCells zv'.cells (len*i.sz) from rfl,f1]
       simp [newRow]
    ·cases h
   ·cases h
  ·cases h
 ·cases h
theorem aMakeSlice_ok {id:Nat} {t:TypeId} {len cap:AV} {cl cc:Value} {v:AV} {ups:List (Nat×U)} (h:aMakeSlice C id t len cap=some (.val v ups))
  (hI:Inv Q w M ρ G nx) (hid:ρ id=none) (hlt:id < nx) (hl:VA M ρ G len cl) (hcp:VA M ρ G cap cc):Good id Q M ρ G nx w (updL G ups) v ((vNext (Instr.makeSlice t cl cc)).run C.P w):=by
 unfold aMakeSlice at h
 split at h
 ·rename_i k hk
  split at h
  ·rename_i et hd
   split at h
   ·rename_i i kl l kc c hi
    split at h
    ·rename_i hc
     obtain ⟨c1,c2,c3,c4,c5,c6⟩:=hc
     cases h
     obtain rfl:=hl.int_inv
     obtain rfl:=hcp.int_inv
     obtain ⟨info,zv,d,h1,h2,h3,h4,h5,h6,h7,h8⟩:=tyOf_some hk
     rw [hd] at h5
     cases d<;>simp only [tyd,reduceCtorEq,TyD.sl.injEq] at h5
     subst h5
     obtain ⟨info',zv',d',k1,k2,k3,k4,k5,k6,k7,k8⟩:=tyOf_some hi
     have hz:=(cells_cv (M:=M) (ρ:=ρ) (G:=G) zv').2
     rw [<-k8] at hz
     have hE:=Elems_made (n:=c.toNat) hz c5 c6
     unfold most at c3
     have hrun:=run_make (P:=C.P) w t et info' zv' h2 k1 k3 kl kc l c c1 c2 (by rw [<-k7];calc (i.bytes:Int)*c<=4096*c:=Int.mul_le_mul_of_nonneg_right (by omega) (by omega)
        _<=281474976710656:=by omega) (by omega)
     rw [<-k6] at hrun
     have e1:(List.replicate l.toNat i.zero).length=l.toNat:=by simp
     have hrow:=good_row (w2:=w.alloc (.cells (madeCells zv'.cells (c.toNat*i.sz)) et)) (v := .slice (some ⟨w.heap.size,0,none⟩) l.toNat c.toNat) (xs:=List.replicate l.toNat i.zero) (et:=et) (sz:=i.sz)
      (cs:=(madeCells zv'.cells (c.toNat*i.sz)).toList.take (l.toNat*i.sz)) (ids:=[]) (s:=Instr.makeSlice t (.int kl l) (.int kc c)) (P:=C.P) hI hid hlt c6 ?_ (fun x hx=>by rw [List.eq_of_mem_replicate hx];exact c5) ?_ ?_ (WS.alloc hI.new _) (fun b hb=>Go.RowKit.Below.heap_alloc w _ b hb) hrun
     ·rw [e1] at hrow;exact hrow
     ·rw [e1]
      have hle:l.toNat*i.sz<=c.toNat*i.sz:=Nat.mul_le_mul_right _ (by omega)
      refine ⟨by rw [List.length_take,Array.length_toList,size_madeCells];exact Nat.min_eq_left hle, .inr ⟨w.heap.size,c.toNat,_,rfl,Nat.zero_le _,heap_alloc_new w _,by omega,by unfold maxLen;omega,size_madeCells _ _,rfl⟩⟩
     ·intro a x j y hx hy
      obtain ⟨ha,hx'⟩:=List.getElem?_eq_some_iff.1 hx
      rw [List.length_replicate] at ha
      rw [List.getElem_replicate] at hx'
      subst hx'
      have hj:=(List.getElem?_eq_some_iff.1 hy).1
      have hzl:=AV.fits_len c5
      rw [list_getD_take (mul_lt_of ha (by omega)),at_list]
      exact hE.2.2 a i.zero j y (by rw [List.getElem?_replicate,if_pos (by omega)]) hy
     ·intro b hb;simp [blk] at hb;omega
    ·cases h
   ·cases h
  ·cases h
 ·cases h
end Go.Abs

/- The abstract interpreter: writing. -/
namespace Go.Abs
variable {id:Nat}
variable {M M':Mem} {ρ ρ':Ref} {G G':Nat->Obj} {w w':World} {nx:Nat} {Q:Nat->Prop} {P:Program} {C:Cfg}
theorem setRow_other (w:World) (g k:Nat) (cs:Array Value) (h:k≠g):(w.setRow g cs).heap[k]? = w.heap[k]? := by
 simp only [World.setRow,Array.getElem?_modify]
 rw [if_neg (fun e=>h e.symm)]
theorem WS.setRow {b:Nat} (hb:Q b) (cs:Array Value):WS Q w (w.setRow b cs):=
 ⟨rfl,rfl,rfl,by simp,fun k hk=>setRow_other w b k cs (fun e=>hk (e▸hb))⟩
theorem good_set {q b:Nat} {r:Value} {x:Obj} {w2:World} {nxt:Next} {c:Value} {v:AV} {s:Result Next} (hI:Inv Q w M ρ G nx) (hr:ρ q=some r) (hb:blk r=some b)
  (hl:(G q).live=true) (hf:(G q).frozen=false) (hrow:∀ et sz xs fr,x = .row et sz xs fr->∃ xs0 fr0,G q = .row et sz xs0 fr0/\xs0.length=xs.length)
  (hw:WS Q w w2) (hold:∀ k,k≠b->w2.heap[k]? = w.heap[k]?)
  (hx:Ev M ρ G M ρ (upd G q x)->ObjOK w2 M ρ (upd G q x) q) (hv:Ev M ρ G M ρ (upd G q x)->VA M ρ (upd G q x) v c) (hs:s = .ok nxt w2) (hn:nxt = .value c\/nxt = .skip/\c=Go.undef) :
  Good id Q M ρ G nx w (updL G [(q, .set x)]) v s:=by
 have e:upd ρ q (some r)=ρ:=by funext o;by_cases h:o=q<;>simp [upd,h,hr]
 have hE:Ev M ρ G M ρ (upd G q x):=by have:=Ev.same (M:=M) (x:=x) hr hrow;rwa [e] at this
 have hq:q < nx:=by
  rcases Nat.lt_or_ge q nx with h|h
  ·exact h
  ·rw [hI.free q h] at hr;cases hr
 refine ⟨nxt,c,w2,M,ρ,hs,hn,hE,?_,hv hE,hw,MQ.refl _ _,fun _ _ e=>e⟩
 have:=hI.put (q:=q) (x:=x) (r:=r) (w':=w2) hq (by rw [e];exact hE) (fun k=>?_) hw.size (by rw [e];exact hx hE) (fun k hk=>?_)
 ·rwa [e] at this
 ·by_cases hk:k=b
  ·exact .inr (.inr ⟨hl,hf,r,hr,by rw [hk];exact hb⟩)
  ·exact .inl (hold k hk)
 ·exact .inr ⟨hl,hf,r,hr,hk⟩
theorem run_storeVar {t:TypeId} {info:TypeInfo} {c:Value} {b off:Nat} {cur:Array Value} {e:TypeId} (h1:P.info? t=some info) (hsz:c.cells.size=info.size) (hg:w.heap[b]? = some (.cells cur e (0,0)))
  (hfit:off+info.size<=cur.size) (hone:∀ v∈c.cells,v.oneCell'=true) :
  (storeVar t ⟨b,off,none⟩ c).run P w = .ok () (w.setRow b (splice cur.toList off c.cells.toList).toArray):=by
 have:=run_storeCells_at P b off e c.cells.toList 0 cur w hg (by simp;omega) (fun v hv=>hone v (by simpa using hv))
 simp only [storeVar,Sem.run_bind,run_sizeOf' h1,Result.andThen_ok]
 rw [if_neg (by omega)]
 simp only [Nat.add_zero] at this
 rw [this]
 rfl
theorem VL_splice {cs:List AV} {vs:Array Value} {off:Nat} {new:List AV} {nv:Array Value} (h:VL (VA M ρ G) cs vs) (hn:VL (VA M ρ G) new nv) (hfit:off+new.length<=cs.length) :
  VL (VA M ρ G) (splice cs off new) (splice vs.toList off nv.toList).toArray:=by
 have hl:off+nv.toList.length<=vs.toList.length:=by simp;rw [<-h.1,<-hn.1];exact hfit
 refine ⟨by rw [splice_len _ _ _ hfit];simp [splice_len _ _ _ hl];exact h.1,fun i x hx=>?_⟩
 rw [splice_get _ _ _ hfit] at hx
 have ha:at_ (splice vs.toList off nv.toList).toArray i=(splice vs.toList off nv.toList).getD i Go.undef:=by
  rw [<-at_list]
 rw [ha,List.getD_eq_getElem?_getD,splice_get _ _ _ hl]
 have e2:nv.toList.length=new.length:=by simp;exact hn.1.symm
 rw [e2]
 split
 ·rename_i hk
  rw [if_pos hk] at hx
  have:=h.2 i x hx
  rw [<-at_list,List.getD_eq_getElem?_getD] at this;exact this
 ·rename_i hk
  rw [if_neg hk] at hx
  split
  ·rename_i hk2
   rw [if_pos hk2] at hx
   have:=hn.2 _ x hx
   rw [<-at_list,List.getD_eq_getElem?_getD] at this;exact this
  ·rename_i hk2
   rw [if_neg hk2] at hx
   have:=h.2 i x hx
   rw [<-at_list,List.getD_eq_getElem?_getD] at this;exact this
theorem one_cells {y:AV} (h:y.one=true):y.cells=[y]:=cells_one (fun l e=>by subst e;simp [AV.one] at h) (fun l e=>by subst e;simp [AV.one] at h)
theorem avOf_fits {y:AV} {sz off:Nat} {new:List AV} (hy:y.fits sz=true) (hl:off+new.length<=y.cells.length) (h0:0 < new.length) (hone:∀ z∈new,z.one=true) :
  (avOf y (splice y.cells off new)).fits sz=true/\(avOf y (splice y.cells off new)).cells=splice y.cells off new:=by
 have hlen:=splice_len y.cells off new hl
 have hall:∀ z∈splice y.cells off new,z.one=true:=by
  intro z hz
  unfold splice at hz
  rcases List.mem_append.1 hz with hz|hz
  ·rcases List.mem_append.1 hz with hz|hz
   ·exact AV.fits_one hy z (List.mem_of_mem_take hz)
   ·exact hone z hz
  ·exact AV.fits_one hy z (List.mem_of_mem_drop hz)
 have hsz:=AV.fits_len hy
 have key:(avOf y (splice y.cells off new)).cells=splice y.cells off new:=by
  unfold avOf
  split
  ·exact cells_mkAgg _
  ·exact cells_mkAgg _
  ·rename_i h1 h2
   have hc:=cells_one h2 h1
   rw [hc] at hl ⊢
   simp at hl
   obtain ⟨rfl,hn⟩:off=0/\new.length=1:=by omega
   obtain ⟨z,rfl⟩:=List.length_eq_one_iff.1 hn
   simp only [splice,List.take_zero,List.nil_append,List.length_singleton,Nat.zero_add,List.drop_one,List.tail_cons,List.append_nil,List.headD_cons]
   exact one_cells (hone z (by simp))
 exact ⟨by simp only [AV.fits,key,Bool.and_eq_true,beq_iff_eq,List.all_eq_true];exact ⟨by omega,hall⟩,key⟩
theorem aStore_ok {s:St} {t:TypeId} {a x v:AV} {ca cx:Value} {ups:List (Nat×U)} (h:aStore C s t a x=some (.val v ups)) (hI:Inv Q w M ρ s.G nx) (ha:VA M ρ s.G a ca) (hx:VA M ρ s.G x cx) :
  Good id Q M ρ s.G nx w (updL s.G ups) v ((uNext (Instr.storeAt t ca cx)).run C.P w):=by
 unfold aStore at h
 split at h
 ·rename_i i hi
  split at h
  ·rename_i hf
   obtain ⟨info,zv,d,h1,h2,h3,h4,h5,h6,h7,h8⟩:=tyOf_some hi
   have hc:=hx.cells hf
   have hone:=hc.one (AV.fits_one hf)
   have hn:=AV.fits_len hf
   have hcs:cx.cells.size=info.size:=by rw [<-hc.1];omega
   split at h
   ·rename_i q off
    split at h
    ·rename_i old hG
     split at h
     ·rename_i hfit
      cases h
      cases ha with
      |ptr _ _ b hr=>
       have:=hI.obj q
       unfold ObjOK at this
       rw [hG] at this
       obtain ⟨b',vs,e',g1,g2,g3,_⟩:=this
       rw [hr] at g1;cases g1
       have hown:=hI.own q _ b (by rw [hG];rfl) (by rw [hG];rfl) hr rfl
       have hrun:=run_storeVar (P:=C.P) (w:=w) (off:=off) h1 hcs g2 (by rw [<-g3.1];omega) hone
       refine good_set hI hr rfl (by rw [hG];rfl) (by rw [hG];rfl) (fun _ _ _ _ e=>by cases e) (WS.setRow hown.2 _) (fun k hk=>setRow_other w b k _ hk) (fun hE=>?_) (fun _ => .undef _)
        (run_uNext (s:=Instr.storeAt t _ cx) (by simp only [Instr.storeAt,Instr.sureAddr,pure_bind];exact hrun)) (.inr ⟨rfl,rfl⟩)
       unfold ObjOK
       simp only [upd,if_true]
       exact ⟨b,_,e',hr,setRow_heap w b _ _ _ _ g2,(VL_splice g3 hc (by omega)).imp fun _ _=>VA.mono hE,fun h=>by cases h⟩
     ·cases h
    ·cases h
   ·rename_i q n j off
    split at h
    ·rename_i et sz xs hG
     split at h
     ·rename_i y hy
      split at h
      ·rename_i hcnd
       obtain ⟨hxn,hpos,hfit⟩:=hcnd
       cases h
       cases ha with
       |rptr _ _ _ _ b f hb0 hr1=>
        obtain ⟨_,hr2⟩:=hr1 et sz xs _ hG
        obtain ⟨l,cp,hr3,rfl⟩:=hr2 hxn.symm
        obtain ⟨rfl,h0,hle,hmx,cur,g1,g2,g3,g4⟩:=row_block hI hG hr3
        have hown:=hI.own q _ b (by rw [hG];rfl) (by rw [hG];rfl) hr3 rfl
        have hyf:=g3 y (List.mem_of_getElem? hy)
        have hyl:=AV.fits_len hyf
        have hj:=(List.getElem?_eq_some_iff.1 hy).1
        have hin:j*sz+sz<=xs.length*sz:=by rw [<-Nat.succ_mul];exact Nat.mul_le_mul_right _ hj
        have hin2:xs.length*sz<=cp*sz:=Nat.mul_le_mul_right _ hle
        have hrun:=run_storeVar (P:=C.P) (w:=w) (off:=j*sz+off) h1 hcs g1 (by omega) hone
        have hspl:(splice cur.toList (j*sz+off) cx.cells.toList).length=cur.size:=by
         rw [splice_len _ _ _ (by rw [Array.length_toList,Array.length_toList,g2,<-hc.1];omega)];simp
        refine good_set hI hr3 rfl (by rw [hG];rfl) (by rw [hG];rfl) (fun _ _ _ _ e=>by cases e;exact ⟨xs,_,hG,by simp⟩) (WS.setRow hown.2 _) (fun k hk=>setRow_other w b k _ hk) (fun hE=>?_) (fun _ => .undef _)
         (run_uNext (s:=Instr.storeAt t _ cx) (by simp only [Instr.storeAt,Instr.sureAddr,pure_bind];exact hrun)) (.inr ⟨rfl,rfl⟩)
        obtain ⟨hf1,hf2⟩:=avOf_fits (off:=off) (new:=x.cells) hyf (by omega) (by omega) (AV.fits_one hf)
        unfold ObjOK
        simp only [upd,if_true]
        refine ⟨h0,_,(splice cur.toList (j*sz+off) cx.cells.toList).take (xs.length*sz),hr3,⟨by rw [List.length_take,hspl,g2,Nat.min_eq_left hin2,List.length_set], .inr ⟨b,cp,_,by simp,Nat.zero_le _,setRow_heap w b _ _ _ _ g1,by simpa using hle,hmx,by simp [hspl];exact g2,by simp⟩⟩,⟨?_,?_⟩,fun h=>by cases h⟩
        ·intro z hz
         rcases List.mem_or_eq_of_mem_set hz with h|rfl
         ·exact g3 z h
         ·exact hf1
        ·intro k z m u hz hu
         have hk:k < xs.length:=by have:=(List.getElem?_eq_some_iff.1 hz).1;simpa using this
         have hzl:z.cells.length=sz:=by
          rcases List.mem_or_eq_of_mem_set (List.mem_of_getElem? hz) with h|rfl
          ·exact AV.fits_len (g3 z h)
          ·exact AV.fits_len hf1
         have hm:=(List.getElem?_eq_some_iff.1 hu).1
         have hfit2:j*sz+off+cx.cells.toList.length<=cur.toList.length:=by rw [Array.length_toList,Array.length_toList,g2,<-hc.1];omega
         rw [list_getD_take (mul_lt_of hk (by omega)),List.getD_eq_getElem?_getD,splice_get _ _ _ hfit2]
         have e2:cx.cells.toList.length=x.cells.length:=by simp;exact hc.1.symm
         rw [e2]
         rw [List.getElem?_set] at hz
         by_cases hkj:j=k
         ·subst hkj
          rw [if_pos rfl,if_pos hj] at hz
          cases hz
          rw [hf2,splice_get _ _ _ (by omega)] at hu
          by_cases c1:m < off
          ·rw [if_pos c1] at hu
           rw [if_pos (by omega)]
           have:=g4 j y m u hy hu
           rw [<-at_list,List.getD_eq_getElem?_getD] at this
           exact this.mono hE
          ·rw [if_neg c1] at hu
           rw [if_neg (by omega)]
           by_cases c2:m < off+x.cells.length
           ·rw [if_pos c2] at hu
            rw [if_pos (by omega)]
            have:=hc.2 (m-off) u hu
            rw [<-at_list,List.getD_eq_getElem?_getD] at this
            rw [show j*sz+m-(j*sz+off)=m-off by omega]
            exact this.mono hE
           ·rw [if_neg c2] at hu
            rw [if_neg (by omega)]
            have:=g4 j y m u hy hu
            rw [<-at_list,List.getD_eq_getElem?_getD] at this
            exact this.mono hE
         ·rw [if_neg hkj] at hz
          have hcase:k*sz+m < j*sz+off\/j*sz+off+x.cells.length<=k*sz+m:=by
           rcases Nat.lt_or_ge k j with h2|h2
           ·have:k*sz+sz<=j*sz:=by rw [<-Nat.succ_mul];exact Nat.mul_le_mul_right _ h2
            left;omega
           ·have:j*sz+sz<=k*sz:=by rw [<-Nat.succ_mul];exact Nat.mul_le_mul_right _ (by omega)
            right;omega
          have:=g4 k z m u hz hu
          rw [<-at_list,List.getD_eq_getElem?_getD] at this
          rcases hcase with c1|c1
          ·rw [if_pos c1];exact this.mono hE
          ·rw [if_neg (by omega),if_neg (by omega)];exact this.mono hE
      ·cases h
     ·cases h
    ·cases h
   ·cases h
  ·cases h
 ·cases h
end Go.Abs

/- The abstract interpreter: addresses, lengths, append, parts of slices. -/
namespace Go.Abs
variable {id:Nat}
variable {M M':Mem} {ρ ρ':Ref} {G G':Nat->Obj} {w w':World} {nx:Nat} {Q:Nat->Prop} {P:Program} {C:Cfg}
theorem moveAt_ok {d:Nat} {x v:AV} {c:Value} (h:moveAt d x=some v) (hx:VA M ρ G x c):∃ b off,c = .pointer (some ⟨b,off,none⟩)/\VA M ρ G v (.pointer (some ⟨b,off+d,none⟩)):=by
 unfold moveAt at h
 split at h
 ·rename_i o off
  cases h
  cases hx with|ptr _ _ b hr=>exact ⟨b,off,rfl, .ptr _ _ b hr⟩
 ·rename_i o n i off
  cases h
  cases hx with|rptr _ _ _ _ b f hb hr=>exact ⟨b,f,rfl, .rptr _ _ _ _ b _ hb fun et sz xs fr e=>⟨(hr et sz xs fr e).1,fun hn=>by
   obtain ⟨l,c,h1,h2⟩:=(hr et sz xs fr e).2 hn
   exact ⟨l,c,h1,by omega⟩⟩⟩
 ·rename_i cs off
  cases h
  have hx:=hx.imm_inv
  cases hx with|fptr _ _ b vs e fr o0 h1 h2 h3=>exact ⟨b,o0+off,rfl, .imm _ _ (by have:=VI.fptr (M:=M) _ (off+d) b vs e fr o0 h1 h2 h3;rwa [<-Nat.add_assoc] at this)⟩
 ·rename_i xs i off
  cases h
  have hx:=hx.imm_inv
  cases hx with|eptr _ _ _ b vs e fr o0 sz h1 h2 h3 h4 h5=>exact ⟨b,_,rfl, .imm _ _ (by have:=VI.eptr (M:=M) _ i (off+d) b vs e fr o0 sz h1 h2 h3 h4 h5;rwa [<-Nat.add_assoc] at this)⟩
 ·cases h
theorem aFieldAddr_ok {t:TypeId} {f:Nat} {x v:AV} {c:Value} {ups:List (Nat×U)} (h:aFieldAddr C t x f=some (.val v ups)) (hx:VA M ρ G x c) :
  ups=[]/\∃ u,(Instr.fieldAt t c f).run C.P w = .ok u w/\VA M ρ G v u:=by
 unfold aFieldAddr at h
 split at h
 ·rename_i i hi
  split at h
  ·rename_i fs hd
   split at h
   ·rename_i off sz hfs
    split at h
    ·cases h
    ·rename_i hsz
     split at h
     ·rename_i v' hv
      cases h
      obtain ⟨info,zv,d,h1,h2,h3,h4,h5,h6,h7,h8⟩:=tyOf_some hi
      rw [hd] at h5
      cases d<;>simp only [tyd,reduceCtorEq,TyD.st.injEq] at h5
      rename_i fds
      obtain ⟨b,o,rfl,hv⟩:=moveAt_ok hv hx
      rw [h5] at hfs
      rw [List.getElem?_map] at hfs
      cases e:fds.toList[f]? with
      |none=>rw [e] at hfs;cases hfs
      |some fd=>
       rw [e] at hfs
       simp only [Option.map_some,Option.some.injEq,Prod.mk.injEq] at hfs
       obtain ⟨rfl,rfl⟩:=hfs
       have e':fds[f]? = some fd:=by rw [<-Array.getElem?_toList];exact e
       have hfi:(C.P.info? fd.type).isSome=true:=by
        simp only [fieldsOk,List.all_eq_true] at h4
        exact h4 fd (List.mem_of_getElem? e)
       obtain ⟨fi,hfi⟩:=Option.isSome_iff_exists.1 hfi
       have hcs:fi.size≠0:=by simpa [Program.cellsOf,hfi] using hsz
       refine ⟨rfl,_,?_,hv⟩
       simp only [Instr.fieldAt,Sem.run_bind,run_underlying' h2,Result.andThen_ok,e',Instr.sureAddr,pure_bind]
       simp [fieldPlace,run_sizeOf' hfi,hcs,add_none]
     ·cases h
   ·cases h
  ·cases h
 ·cases h
theorem elemAddr_ok {sz n:Nat} {x v:AV} {c:Value} (h:elemAddr G sz x n=some v) (hI:Inv Q w M ρ G nx) (hx:VA M ρ G x c) :
  ∃ b off len cap,c = .slice (some ⟨b,off,none⟩) len cap/\n < len/\VA M ρ G v (.pointer (some ⟨b,off+n*sz,none⟩)):=by
 unfold elemAddr at h
 split at h
 ·rename_i xs
  split at h
  ·rename_i y hy
   split at h
   ·rename_i hsz
    cases h
    have hn:=(List.getElem?_eq_some_iff.1 hy).1
    have hx:=hx.imm_inv
    cases hx with
    |nil=>simp at hn
    |empty=>simp at hn
    |lst _ b off cp cs e fr sz' h0 hcp hM hs h1 h2 h3=>
     have:sz'=sz:=by rw [<-h1 n y hy];exact hsz
     subst this
     exact ⟨b,off,_,cp,rfl,hn, .imm _ _ (by have:=VI.eptr (M:=M) xs n 0 b cs e fr off sz' hM hs h1 h2 h3;exact this)⟩
   ·cases h
  ·cases h
 ·rename_i q m
  split at h
  ·rename_i et sz' xs fr hG
   split at h
   ·rename_i hc
    obtain ⟨h1,h2,rfl⟩:=hc
    cases h
    cases hx with
    |row _ _ a l cp hb hr=>
     have hr:=(hr et sz' xs fr hG).2 h1.symm
     have:=hI.obj q
     unfold ObjOK at this
     rw [hG] at this
     obtain ⟨h0,v,cs,g1,g2,g3,g4⟩:=this
     rw [hr] at g1;cases g1
     rcases g2.2 with ⟨g,g'⟩|⟨g,cap,cur,g',_⟩
     ·omega
     ·cases g'
      refine ⟨g,0,_,_,rfl,by omega, .rptr _ _ _ _ g _ hb fun et2 sz2 xs2 fr2 e2=>?_⟩
      rw [hG] at e2;cases e2
      exact ⟨by omega,fun _=>⟨_,_,hr,by omega⟩⟩
   ·cases h
  ·cases h
 ·cases h
theorem aIndexAddr_ok {t:TypeId} {x ix v:AV} {c ci:Value} {ups:List (Nat×U)} (h:aIndexAddr C G t x ix=some (.val v ups)) (hI:Inv Q w M ρ G nx) (hx:VA M ρ G x c) (hix:VA M ρ G ix ci) :
  ups=[]/\∃ u,(Instr.indexAt t c ci).run C.P w = .ok u w/\VA M ρ G v u:=by
 unfold aIndexAddr at h
 split at h
 ·rename_i k kk n hk
  obtain rfl:=hix.int_inv
  obtain ⟨info,zv,d,h1,h2,h3,h4,h5,h6,h7,h8⟩:=tyOf_some hk
  split at h
  ·rename_i et hd
   rw [hd] at h5
   cases d<;>simp only [tyd,reduceCtorEq,TyD.sl.injEq] at h5
   subst h5
   split at h
   ·rename_i i hi
    split at h
    ·rename_i hn
     split at h
     ·rename_i v' hv
      cases h
      obtain ⟨info',zv',d',k1,k2,k3,k4,k5,k6,k7,k8⟩:=tyOf_some hi
      obtain ⟨b,off,len,cap,rfl,hlt,hv⟩:=elemAddr_ok hv hI hx
      refine ⟨rfl,_,?_,hv⟩
      have hc:0<=n/\n < (len:Int):=by omega
      simp only [Instr.indexAt,asIntOf,pure_bind,Sem.run_bind,run_underlying' h2,Result.andThen_ok,hc,and_self,if_true]
      simp [run_sizeOf' k1,add_none,k6]
     ·cases h
    ·cases h
   ·cases h
  ·rename_i len et hd
   rw [hd] at h5
   cases d<;>simp only [tyd,reduceCtorEq,TyD.arr.injEq] at h5
   obtain ⟨rfl,rfl⟩:=h5
   split at h
   ·rename_i i hi
    split at h
    ·rename_i hn
     split at h
     ·rename_i v' hv
      cases h
      obtain ⟨info',zv',d',k1,k2,k3,k4,k5,k6,k7,k8⟩:=tyOf_some hi
      obtain ⟨b,off,rfl,hv⟩:=moveAt_ok hv hx
      refine ⟨rfl,_,?_,hv⟩
      simp only [Instr.indexAt,asIntOf,pure_bind,Sem.run_bind,run_underlying' h2,Result.andThen_ok,Instr.sureAddr]
      simp [run_sizeOf' k1,hn,add_none,k6]
     ·cases h
    ·cases h
   ·cases h
  ·cases h
 ·cases h
theorem elems_ok {x:AV} {c:Value} {ys:List AV} (h:elems G x=some ys) (hI:Inv Q w M ρ G nx) (hx:VA M ρ G x c) :
  (c = .slice none 0 0/\ys=[])\/∃ a cp,c = .slice (some a) ys.length cp/\(ys=[]\/∃ b off cs e fr sz,a=⟨b,off,none⟩/\w.heap[b]? = some (.cells cs e fr)/\0 < sz/\(∀ y∈ys,y.cells.length=sz)/\off+ys.length*sz<=cs.size /\
   ∀ (i:Nat) y (j:Nat) u,ys[i]? = some y->y.cells[j]? = some u->VA M ρ G u (at_ cs (off+i*sz+j))):=by
 unfold elems at h
 split at h
 ·cases h;cases hx;exact .inl ⟨rfl,rfl⟩
 ·rename_i xs
  cases h
  have hx:=hx.imm_inv
  cases hx with
  |nil=>exact .inl ⟨rfl,rfl⟩
  |empty a c=>exact .inr ⟨a,c,rfl, .inl rfl⟩
  |lst _ b off cp cs e fr sz h0 hcp hM hs h1 h2 h3=>
   have hcl:∀ z:IV,(AV.imm z).cells.length=z.cells.length:=fun z=>by cases z<;>simp [AV.cells,IV.cells]
   refine .inr ⟨⟨b,off,none⟩,cp,by simp, .inr ⟨b,off,cs,e,fr,sz,rfl,hI.mem _ _ hM,hs,fun y hy=>?_,by simpa using h2,fun i y j u hy hu=>?_⟩⟩
   ·obtain ⟨z,hz,rfl⟩:=List.mem_map.1 hy
    obtain ⟨i,hi⟩:=List.getElem?_of_mem hz
    rw [hcl];exact h1 i z hi
   ·obtain ⟨z,rfl,hz⟩:=imm_get hy
    have hc2:∃ y,u = .imm y/\z.cells[j]? = some y:=by
     cases z with
     |agg l=>exact imm_get hu
     |_=>cases j<;>simp [AV.cells,IV.cells] at hu ⊢;exact hu.symm
    obtain ⟨y,rfl,hy2⟩:=hc2
    exact .imm _ _ (h3 i z j y hz hy2)
 ·rename_i q n
  split at h
  ·rename_i et sz xs fr hG
   split at h
   ·rename_i hn
    cases h
    cases hx with
    |row _ _ a l cp hb hr=>
     have hr:=(hr et sz _ fr hG).2 hn.symm
     have:=hI.obj q
     unfold ObjOK at this
     rw [hG] at this
     obtain ⟨h0,v,cs,g1,g2,g3,g4⟩:=this
     have g1':=g1
     rw [hr] at g1;cases g1
     rcases g2.2 with ⟨g,g'⟩|⟨g,cap,cur,g',_,g5,g6,g7,g8,g9⟩
     ·cases g;exact .inl ⟨rfl,List.eq_nil_of_length_eq_zero g'⟩
     ·cases g'
      obtain ⟨_,_,_,_,cur',k1,k2,k3,k4⟩:=row_block hI hG hr
      refine .inr ⟨⟨g,0,none⟩,_,rfl, .inr ⟨g,0,cur',et,_,sz,rfl,k1,h0,fun y hy=>AV.fits_len (k3 y hy),?_,fun i y j u hy hu=>?_⟩⟩
      ·rw [k2,Nat.zero_add];exact Nat.mul_le_mul_right _ (by assumption)
      ·rw [Nat.zero_add];exact k4 i y j u hy hu
   ·cases h
  ·cases h
 ·cases h
theorem lenA_ok {x:AV} {c:Value} {n:Nat} {t ty:TypeId} {i:TyI} (ht:C.ty t=some i) (h:lenA G i.d x=some n) (hI:Inv Q w M ρ G nx) (hx:VA M ρ G x c) :
  (Builtin.len_ #[t] ty #[c]).run C.P w = .ok (.int .i64 n) w:=by
 obtain ⟨info,zv,d,h1,h2,h3,h4,h5,h6,h7,h8⟩:=tyOf_some ht
 rw [h5] at h
 unfold lenA at h
 split at h
 ·rename_i hd
  cases d<;>simp only [tyd,reduceCtorEq] at hd
  split at h
  ·rename_i s
   cases h
   obtain rfl:=hx.str_inv
   simp [Builtin.len_,run_underlying' h2,goInt]
  ·cases h
 ·rename_i e hd
  cases d<;>simp only [tyd,reduceCtorEq] at hd
  split at h
  ·rename_i l hl
   cases h
   rcases elems_ok hl hI hx with ⟨rfl,rfl⟩|⟨a,cp,rfl,_⟩
   ·simp [Builtin.len_,run_underlying' h2,goInt]
   ·simp [Builtin.len_,run_underlying' h2,goInt]
  ·cases h
 ·rename_i k e hd
  cases d<;>simp only [tyd,reduceCtorEq] at hd
  split at h
  ·cases h
   have hx:=hx.imm_inv
   cases hx
   simp [Builtin.len_,run_underlying' h2,goInt]
  ·cases h
   have hx:=hx.imm_inv
   cases hx with
   |fmp ks vs b es clk hM hk=>
    have:=hI.mem _ _ hM
    simp [Builtin.len_,run_underlying' h2,goInt,getObj,Sem.run,this,hk]
  ·rename_i o
   split at h
   ·rename_i ks vs fr hG
    cases h
    cases hx with
    |map _ b hr=>
     have:=hI.obj o
     unfold ObjOK at this
     rw [hG] at this
     obtain ⟨b',es,clk,g1,g2,g3,_⟩:=this
     rw [hr] at g1;cases g1
     simp [Builtin.len_,run_underlying' h2,goInt,getObj,Sem.run,g2,g3]
   ·cases h
  ·cases h
 ·cases h
/-! ### append -/
theorem append_own {t e:TypeId} {ty:TypeId} {i:TypeInfo} {z:Value} {base size:Nat} (ht:P.underlying t=some (.slice e)) (hi:P.info? e=some i) (hz:i.zero=some z) (hsize:i.size=size) (hzs:z.cells.size=size) (hsz:0 < size)
  {v:Value} {n:Nat} {xs:List Value} (hown:w.ownsRow base e size v n xs) (a:Addr) (m c:Nat) (news:List Value) (hl:news.length=m*size) (hnews:∀ (j:Nat) u,news[j]? = some u->w.cell? (a.add j)=some u) (h1:∀ u∈news,u.oneCell'=true)
  (hby:i.bytes<=4096) (hm:n+m<=most) (hbase:base<=w.heap.size) :
  ∃ v' w',(Builtin.append_ #[t,t] ty #[v, .slice (some a) m c]).run P w = .ok v' w'/\w'.ownsRow base e size v' (n+m) (xs++news)/\w.grownBy w' v.ownBlock /\
   (∀ b,v'.ownBlock=some b->v.ownBlock=some b\/w.heap.size<=b)/\(m=0->v'=v):=by
 have hml:n+m<=maxLen:=by unfold most at hm;unfold maxLen;omega
 have hbt:(n+m)*i.bytes<=140737488355328:=Nat.le_trans (Nat.mul_le_mul hm hby) (by decide)
 obtain ⟨v',w',hr,ho,hg,_⟩:=run_append_own (P:=P) w base t ty e i z size i.bytes ht hi hz hsize rfl hzs hsz v n xs hown a m c news hl hnews h1 hml hbt hbase
 refine ⟨v',w',hr,ho,hg,?_⟩
 subst hsize
 rcases hown.2 with ⟨rfl,rfl⟩|⟨g,cap,cur,rfl,hbg,hgg,hnc,hcm,hcs,htake⟩
 ·rcases Nat.eq_zero_or_pos m with rfl|hm0
  ·obtain ⟨v2,w2,hr2,ho2,_,hnil⟩:=run_append_own (P:=P) w base t ty e i z i.size i.bytes ht hi hz rfl rfl hzs hsz _ 0 xs hown a 0 c news hl hnews h1 hml hbt hbase
   rw [hr] at hr2;cases hr2
   have:=hnil.2 ⟨rfl,rfl⟩
   subst this
   exact ⟨fun b hb => .inl hb,fun _=>rfl⟩
  ·have hr2:=run_append_nil (P:=P) w t ty e i z ht hi hz a m c news hl hnews hm0 (by unfold maxLen at hml;omega) (by simp only [Nat.zero_add] at hbt;omega)
   rw [hr] at hr2;cases hr2
   exact ⟨fun b hb=>by simp [Value.ownBlock] at hb;exact .inr (by omega),fun h=>by omega⟩
 ·by_cases hroom:n+m<=cap
  ·have hr2:=run_append_room (P:=P) w t ty e i ht hi g n cap cur hgg a m c news hl hnews h1 hroom (by rw [hl,hcs,<-Nat.add_mul];exact Nat.mul_le_mul_right _ hroom)
   rw [hr] at hr2;cases hr2
   exact ⟨fun b hb => .inl hb,fun h=>by subst h;rfl⟩
  ·have hr2:=run_append_grow (P:=P) w t ty e i z ht hi hz ⟨g,0,none⟩ n cap xs hown.1 (hown.cells (g:=g) rfl) a m c news hl hnews (by omega) (by unfold maxLen at hml;omega) (growslice_fits (by omega) hbt)
   rw [hr] at hr2;cases hr2
   exact ⟨fun b hb=>by simp [Value.ownBlock] at hb;exact .inr (by omega),fun h=>by omega⟩
theorem ownsRow_base {base sz n:Nat} {e:TypeId} {v:Value} {cs:List Value} (h:w.ownsRow base e sz v n cs):w.ownsRow 0 e sz v n cs:=by
 refine ⟨h.1,?_⟩
 rcases h.2 with h|⟨g,cap,cur,h1,_,h2⟩
 ·exact .inl h
 ·exact .inr ⟨g,cap,cur,h1,Nat.zero_le _,h2⟩
theorem ownsRow_blk {base sz n:Nat} {e:TypeId} {v:Value} {cs:List Value} (h:w.ownsRow base e sz v n cs):blk v=v.ownBlock:=by
 rcases h.2 with ⟨rfl,_⟩|⟨g,cap,cur,rfl,_⟩<;>rfl
theorem news_of {ys:List AV} {sz b off:Nat} {cs:Array Value} {e:TypeId} {fr:Nat×Nat} (hf:∀ y∈ys,y.fits sz=true) (hg:w.heap[b]? = some (.cells cs e fr)) (hfit:off+ys.length*sz<=cs.size)
  (hc:∀ (i:Nat) y (j:Nat) u,ys[i]? = some y->y.cells[j]? = some u->VA M ρ G u (at_ cs (off+i*sz+j))) (h0:0 < sz) :
  ∃ news:List Value,news.length=ys.length*sz/\(∀ (j:Nat) u,news[j]? = some u->w.cell? ((⟨b,off,none⟩:Addr).add j)=some u)/\(∀ u∈news,u.oneCell'=true) /\
   ∀ (i:Nat) y (j:Nat) u,ys[i]? = some y->y.cells[j]? = some u->VA M ρ G u (news.getD (i*sz+j) Go.undef):=by
 have hget:∀ k,k < ys.length*sz->((List.range (ys.length*sz)).map fun k=>at_ cs (off+k))[k]? = some (at_ cs (off+k)):=fun k hk=>by simp [List.getElem?_range hk]
 refine ⟨(List.range (ys.length*sz)).map fun k=>at_ cs (off+k),by simp,fun j u hu=>?_,fun u hu=>?_,fun i y j u hy hu=>?_⟩
 ·have hj:j < ys.length*sz:=by have:=(List.getElem?_eq_some_iff.1 hu).1;simpa using this
  rw [hget j hj] at hu;cases hu
  rw [add_none];exact cell_at hg (by omega)
 ·obtain ⟨k,hk,rfl⟩:=List.mem_map.1 hu
  simp at hk
  have hi:k / sz < ys.length:=by rw [Nat.div_lt_iff_lt_mul h0];exact hk
  have hj:k % sz < sz:=Nat.mod_lt _ h0
  have hy:=List.getElem?_eq_getElem hi
  have hyf:=hf _ (List.getElem_mem hi)
  have hyl:=AV.fits_len hyf
  have hu:=List.getElem?_eq_getElem (l:=ys[k / sz].cells) (i:=k % sz) (by omega)
  have:=hc (k / sz) _ (k % sz) _ hy hu
  rw [Nat.add_assoc,show k / sz*sz+k % sz=k by rw [Nat.mul_comm];exact Nat.div_add_mod k sz] at this
  exact this.one (AV.fits_one hyf _ (List.getElem_mem _))
 ·have hi:=(List.getElem?_eq_some_iff.1 hy).1
  have hj:=(List.getElem?_eq_some_iff.1 hu).1
  have hyl:=AV.fits_len (hf y (List.mem_of_getElem? hy))
  rw [List.getD_eq_getElem?_getD,hget _ (mul_lt_of hi (by omega))]
  have:=hc i y j u hy hu
  rw [Nat.add_assoc] at this
  exact this
theorem append_args {P:Program} {w:World} {t u ty e e2:TypeId} (ht:P.underlying t=some (.slice e)) (hu:P.underlying u=some (.slice e2)) (a b:Value):(Builtin.append_ #[t,u] ty #[a,b]).run P w=(Builtin.append_ #[t,t] ty #[a,b]).run P w:=by
 cases a<;>simp [Builtin.append_,run_underlying' ht,run_underlying' hu]
theorem slT_und {u:TypeId} (h:slT C u=true):∃ e,C.P.underlying u=some (.slice e):=by
 unfold slT at h
 split at h
 ·rename_i k hk
  split at h
  ·rename_i et hd
   obtain ⟨info,zv,d,h1,h2,h3,h4,h5,h6,h7,h8⟩:=tyOf_some hk
   rw [hd] at h5
   cases d<;>simp only [tyd,reduceCtorEq,TyD.sl.injEq] at h5
   exact ⟨_,h2⟩
  ·cases h
 ·cases h
theorem aAppend_ok {s:St} {id:Nat} {t u:TypeId} {a x v:AV} {ca cx:Value} {ups:List (Nat×U)} {ty:TypeId} (h:aAppend C s id t u a x=some (.val v ups)) (hI:Inv Q w M ρ s.G nx) (hid:ρ id=none) (hlt:id < nx)
  (ha:VA M ρ s.G a ca) (hx:VA M ρ s.G x cx):Good id Q M ρ s.G nx w (updL s.G ups) v ((vNext (Builtin.append_ #[t,u] ty #[ca,cx])).run C.P w):=by
 unfold aAppend at h
 split at h
 ·rename_i k ys hk hys
  split at h
  ·rename_i et hd
   split at h
   ·rename_i i hi
    split at h
    ·rename_i hcnd
     obtain ⟨hu,c2,c3,c4,c5⟩:=hcnd
     obtain ⟨info,zv,d,h1,h2,h3,h4,h5,h6,h7,h8⟩:=tyOf_some hk
     rw [hd] at h5
     cases d<;>simp only [tyd,reduceCtorEq,TyD.sl.injEq] at h5
     subst h5
     have hrun:∀ v0,(Builtin.append_ #[t,u] ty #[v0,cx]).run C.P w=(Builtin.append_ #[t,t] ty #[v0,cx]).run C.P w:=fun v0=>by
      rcases hu with rfl|hs
      ·rfl
      ·obtain ⟨e2,he2⟩:=slT_und hs
       exact append_args h2 he2 _ _
     obtain ⟨info',zv',d',k1,k2,k3,k4,k5,k6,k7,k8⟩:=tyOf_some hi
     have hzs:zv'.cells.size=i.sz:=by
      have:=(cells_cv (M:=M) (ρ:=ρ) (G:=s.G) zv').1
      rw [<-k8] at this;rw [<-this];exact AV.fits_len c4
     have hyf:∀ y∈ys,y.fits i.sz=true:=by simpa [List.all_eq_true] using c5
     -- what the append comes to, from any row
     have key:∀ (base:Nat) (v0:Value) (n:Nat) (xs:List Value),w.ownsRow base et i.sz v0 n xs->n+ys.length<=most->base<=w.heap.size ->
       ∃ v' w' news,(Builtin.append_ #[t,u] ty #[v0,cx]).run C.P w = .ok v' w'/\w'.ownsRow base et i.sz v' (n+ys.length) (xs++news)/\w.grownBy w' v0.ownBlock /\
        (∀ b,v'.ownBlock=some b->v0.ownBlock=some b\/w.heap.size<=b)/\(ys.length=0->v'=v0) /\
        ∀ (i':Nat) y (j:Nat) u,ys[i']? = some y->y.cells[j]? = some u->VA M ρ s.G u (news.getD (i'*i.sz+j) Go.undef):=by
      intro base v0 n xs hown hm hb
      rcases elems_ok hys hI hx with ⟨rfl,rfl⟩|⟨ad,cp,rfl,hcase⟩
      ·refine ⟨v0,w,[],(hrun _).trans (run_append_owned_none (P:=C.P) w base t ty et info' i.sz h2 k1 v0 n xs hown),by simpa using hown,⟨rfl,rfl,rfl,Nat.le_refl _,fun _ _ _=>rfl⟩,fun b hb => .inl hb,fun _=>rfl,fun i' y j u hy=>by simp at hy⟩
      ·have hnews:∃ news:List Value,news.length=ys.length*i.sz/\(∀ (j:Nat) u,news[j]? = some u->w.cell? (ad.add j)=some u)/\(∀ u∈news,u.oneCell'=true) /\
         ∀ (i':Nat) y (j:Nat) u,ys[i']? = some y->y.cells[j]? = some u->VA M ρ s.G u (news.getD (i'*i.sz+j) Go.undef):=by
        rcases hcase with rfl|⟨b,off,cs,e,fr,sz,rfl,g1,g2,g3,g4,g5⟩
        ·exact ⟨[],by simp,fun j u hu=>by simp at hu,fun u hu=>by simp at hu,fun i' y j u hy=>by simp at hy⟩
        ·cases ys with
         |nil=>exact ⟨[],by simp,fun j u hu=>by simp at hu,fun u hu=>by simp at hu,fun i' y j u hy=>by simp at hy⟩
         |cons y0 r=>
          have:sz=i.sz:=by rw [<-g3 y0 (by simp)];exact AV.fits_len (hyf y0 (by simp))
          subst this
          exact news_of hyf g1 g4 g5 g2
       obtain ⟨news,n1,n2,n3,n4⟩:=hnews
       obtain ⟨v',w',r1,r2,r3,r4,r5⟩:=append_own (P:=C.P) (ty:=ty) h2 k1 k3 (k6.symm) hzs c2 hown ad ys.length cp news n1 n2 n3 (by omega) hm hb
       exact ⟨v',w',news,(hrun _).trans r1,r2,r3,r4,r5,n4⟩
     split at h
     ·split at h
      ·rename_i hlen
       cases h
       cases ha
       obtain ⟨v',w',news,r1,r2,r3,r4,r5,r6⟩:=key w.heap.size (.slice none 0 0) 0 [] (World.ownsRow_nil w _ _ _) (by omega) (Nat.le_refl _)
       simp only [Nat.zero_add,List.nil_append] at r2
       refine good_row (ids:=[]) (w2:=w') (v:=v') (cs:=news) hI hid hlt c2 (ownsRow_base r2) hyf r6 (fun b hb=>?_) ⟨r3.os,r3.tape,r3.output,r3.size,fun b hb=>?_⟩ (fun b hb=>r3.block b hb (by simp [Value.ownBlock])) r1
       ·rw [ownsRow_blk r2] at hb
        rcases r4 b hb with h|h
        ·simp [Value.ownBlock] at h
        ·exact h
       ·have:b < w.heap.size:=by
         rcases Nat.lt_or_ge b w.heap.size with h1|h1
         ·exact h1
         ·exact absurd (hI.new b h1) hb
        exact r3.block b this (by simp [Value.ownBlock])
      ·cases h
     ·rename_i q n
      split at h
      ·rename_i et' sz xs hG
       split at h
       ·rename_i hc
        obtain ⟨e1,rfl,rfl,hlen⟩:=hc
        cases h
        have hobj:=hI.obj q
        unfold ObjOK at hobj
        rw [hG] at hobj
        obtain ⟨h0,v0,cs,g1,g2,g3,g4⟩:=hobj
        have hca:ca=v0:=by
         cases ha with
         |row _ _ a' l cp hb hr=>
          have:=(hr et' _ xs _ hG).2 e1.symm
          rw [g1] at this;cases this;rfl
        subst hca
        obtain ⟨v',w',news,r1,r2,r3,r4,r5,r6⟩:=key 0 ca xs.length cs g2 (by omega) (Nat.zero_le _)
        have hslice:∃ a' l cp,ca = .slice a' l cp:=by
         rcases g2.2 with ⟨rfl,_⟩|⟨g,cap,cur,rfl,_⟩<;>exact ⟨_,_,_,rfl⟩
        have hslice':∃ a' cp,v' = .slice a' (xs++ys).length cp:=by
         rcases r2.2 with ⟨rfl,e⟩|⟨g,cap,cur,rfl,_⟩
         ·exact ⟨_,_,by rw [List.length_append,e]⟩
         ·exact ⟨_,_,by rw [List.length_append]⟩
        have hlive:(s.G q).live=true:=by rw [hG];rfl
        have hfroz:(s.G q).frozen=false:=by rw [hG];rfl
        have hqnx:q < nx:=by
         rcases Nat.lt_or_ge q nx with h|h
         ·exact h
         ·rw [hI.free q h] at g1;cases g1
        have hE:Ev M ρ s.G M (upd ρ q (some v')) (upd s.G q (.row et' i.sz (xs++ys) false)):=by
         refine ⟨Mem.le_refl M,fun o v h=>?_,fun o hb et2 sz2 xs2 fr2 h=>?_⟩
         ·by_cases ho:o=q
          ·subst ho;rw [g1] at h;cases h;exact .inr ⟨hslice,by simp [upd]⟩
          ·left;simp [upd,ho,h]
         ·by_cases ho:o=q
          ·subst ho
           simp only [upd,if_true,Obj.row.injEq] at h
           obtain ⟨rfl,rfl,rfl,rfl⟩:=h
           refine ⟨xs,_,hG,by simp,fun hq=>?_⟩
           have:ys.length=0:=by simpa using hq
           simp [upd,r5 this,g1]
          ·simp only [upd,if_neg ho] at h ⊢
           exact ⟨xs2,fr2,h,Nat.le_refl _,fun _=>trivial⟩
        have hblk:∀ b,blk v'=some b->w.heap.size<=b\/((s.G q).live=true/\(s.G q).frozen=false/\∃ v,ρ q=some v/\blk v=some b):=by
         intro b hb
         rw [ownsRow_blk r2] at hb
         rcases r4 b hb with h|h
         ·exact .inr ⟨hlive,hfroz,ca,g1,by rw [ownsRow_blk g2];exact h⟩
         ·exact .inl h
        refine ⟨_,v',w',M,upd ρ q (some v'),run_vNext r1, .inl rfl,hE,?_,?_,⟨r3.os,r3.tape,r3.output,r3.size,fun b hb=>?_⟩,MQ.refl _ _,fun o _ e=>by by_cases h:o=q<;>simp_all [upd]⟩
        ·refine hI.put hqnx hE (fun b=>?_) r3.size ?_ hblk
         ·rcases Nat.lt_or_ge b w.heap.size with h|h
          ·by_cases hbq:some b=ca.ownBlock
           ·exact .inr (.inr ⟨hlive,hfroz,ca,g1,by rw [ownsRow_blk g2];exact hbq.symm⟩)
           ·exact .inl (r3.block b h hbq)
          ·exact .inr (.inl h)
         ·unfold ObjOK
          simp only [upd,if_true]
          refine ⟨h0,v',cs++news,rfl,by rw [List.length_append];exact r2,⟨fun z hz=>?_,fun a z j y hz hy=>?_⟩,fun h=>by cases h⟩
          ·rcases List.mem_append.1 hz with hz|hz
           ·exact g3.fit z hz
           ·exact hyf z hz
          ·refine VA.mono hE ?_
           rw [List.getElem?_append] at hz
           have hcs:=g2.1
           have hzl:z.cells.length=i.sz:=by
            split at hz
            ·exact AV.fits_len (g3.fit z (List.mem_of_getElem? hz))
            ·exact AV.fits_len (hyf z (List.mem_of_getElem? hz))
           have hj:=(List.getElem?_eq_some_iff.1 hy).1
           split at hz
           ·rename_i hlt2
            have hlt3:=mul_lt_of (sz:=i.sz) (j:=j) hlt2 (by omega)
            have:(cs++news).getD (a*i.sz+j) Go.undef=cs.getD (a*i.sz+j) Go.undef:=by
             simp only [List.getD_eq_getElem?_getD];rw [List.getElem?_append_left (by omega)]
            rw [this];exact g3.cell a z j y hz hy
           ·rename_i hge
            have hmul:xs.length*i.sz<=a*i.sz:=Nat.mul_le_mul_right _ (by omega)
            have hsub:(a-xs.length)*i.sz=a*i.sz-xs.length*i.sz:=Nat.sub_mul ..
            have:(cs++news).getD (a*i.sz+j) Go.undef=news.getD ((a-xs.length)*i.sz+j) Go.undef:=by
             simp only [List.getD_eq_getElem?_getD];rw [List.getElem?_append_right (by omega)];congr 2;omega
            rw [this];exact r6 (a-xs.length) z j y hz hy
        ·obtain ⟨a',cp,rfl⟩:=hslice'
         refine .row q _ _ _ _ (by simp [upd]) fun et2 sz2 xs2 fr2 e=>?_
         simp only [updL,U.on,upd,if_true,Obj.row.injEq] at e
         obtain ⟨rfl,rfl,rfl,rfl⟩:=e
         exact ⟨Nat.le_refl _,fun _=>by simp [upd]⟩
        ·have hlt3:b < w.heap.size:=by
          rcases Nat.lt_or_ge b w.heap.size with h1|h1
          ·exact h1
          ·exact absurd (hI.new b h1) hb
         refine r3.block b hlt3 fun e=>hb ?_
         exact (hI.own q ca b hlive hfroz g1 (by rw [ownsRow_blk g2];exact e.symm)).2
       ·cases h
      ·cases h
     ·cases h
    ·cases h
   ·cases h
  ·cases h
 ·cases h
end Go.Abs
