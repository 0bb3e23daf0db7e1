/- The abstract interpreter: a logic of what code comes to: joins; structs in boxes and in slices; builds. -/
import Derived.Test.YtbdoijpclmhbaaaGreatRn5
import Derived.KernelRfl
namespace Go.Abs
variable {C:Cfg} {fid nt:Nat} {l:Env} {G:Nat->Obj} {nx:Nat} {df:List (AV×List AV)} {pk:Pk} {Φ Φ':Out->Prop} {a b:Code} {ol r:List Oper} {base i d:Nat} {ty:TypeId} {pos:String} {af:Array Edge} {v:AV} {id:Nat}
def cutP {X:Type} (le:X->Env) (Ge:X->Nat->(Nat->Obj)->Prop) (df:List (AV×List AV)) (pk:Pk) (Φ:Out->Prop):Out->Prop
 | .norm s=>∃ x,Agree s.tmps (le x)/\Ge x s.nx s.G/\s.defers=df/\s.pk=pk
 |o=>Φ o
theorem W.cut {X:Type} (le:X->Env) (Ge:X->Nat->(Nat->Obj)->Prop) (h1:W C fid nt a l G nx df pk (cutP le Ge df pk Φ)) (h2:∀ x nx G,Ge x nx G->W C fid nt b (le x) G nx df pk Φ):W C fid nt (.seq a b) l G nx df pk Φ:=by
 refine W.seq (h1.mono fun o ho=>?_)
 cases o with
 |norm s=>
  obtain ⟨x,ha,hg,hd,hp⟩:=ho
  have:=(h2 x s.nx s.G hg).st s.tmps ha
  have e:s=⟨s.tmps,s.G,s.nx,df,pk⟩:=by cases s;simp_all
  rw [e];exact this
 |_=>exact ho
theorem W.skipCut {X:Type} {le:X->Env} {Ge:X->Nat->(Nat->Obj)->Prop} (x:X) (hl:Sub (le x) l) (hG:Ge x nx G):W C fid nt .skip l G nx df pk (cutP le Ge df pk Φ) := .skip fun _ ht=>⟨x,ht.sub hl,hG,rfl,rfl⟩
theorem W.retCut {X:Type} {le:X->Env} {Ge:X->Nat->(Nat->Obj)->Prop} {df':List (AV×List AV)} {pk':Pk} (h:W C fid nt .ret l G nx df pk Φ):W C fid nt .ret l G nx df pk (cutP le Ge df' pk' Φ) := .ret h.retI
theorem W.exitCut {X:Type} {le:X->Env} {Ge:X->Nat->(Nat->Obj)->Prop} {df':List (AV×List AV)} {pk':Pk} {id:Nat} (h:W C fid nt (.exit id) l G nx df pk Φ):W C fid nt (.exit id) l G nx df pk (cutP le Ge df' pk' Φ) := .exit h.exitI
/-! ### structs -/
theorem O.boxS {x:Operand} {t:TypeId} {k:TyI} {cs:List AV} [hk:TyIs C t k] (hx:lookO l x=some v) (hc:v.cells=cs) (hf:v.fits k.sz=true):OpV C id l G nx df pk (.box t x) (.ptr id 0) [(id, .set (.box cs false))]:=
 O.of fun t L hA=>by simp only [opA,hA.ev hx,aBox,hk.is,if_pos hf,hc]
theorem O.fieldP {x:Operand} {t:TypeId} {f:Nat} {k:TyI} {fs:List (Nat×Nat)} {o off0 off sz:Nat} [hk:TyIs C t k] (hd:k.d = .st fs) (hf:fs[f]? = some (off,sz)) (hs:Nat.beq sz 0=false) (hx:lookO l x=some (.ptr o off0)) :
  OpV C id l G nx df pk (.fieldAddr t x f) (.ptr o (off0+off)) []:=
 O.of fun t L hA=>by
  have:¬ sz=0:=fun e=>by subst e;cases hs
  simp only [opA,hA.ev hx,aFieldAddr,hk.is,hd,hf,if_neg this,moveAt]
theorem O.fieldE {x:Operand} {t:TypeId} {f:Nat} {k:TyI} {fs:List (Nat×Nat)} {xs:List IV} {n off0 off sz:Nat} [hk:TyIs C t k] (hd:k.d = .st fs) (hf:fs[f]? = some (off,sz)) (hs:Nat.beq sz 0=false) (hx:lookO l x=some (.imm (.eptr xs n off0))) :
  OpV C id l G nx df pk (.fieldAddr t x f) (.imm (.eptr xs n (off0+off))) []:=
 O.of fun t L hA=>by
  have:¬ sz=0:=fun e=>by subst e;cases hs
  simp only [opA,hA.ev hx,aFieldAddr,hk.is,hd,hf,if_neg this,moveAt]
theorem O.fieldR {x:Operand} {t:TypeId} {f:Nat} {k:TyI} {fs:List (Nat×Nat)} {o m n off0 off sz:Nat} [hk:TyIs C t k] (hd:k.d = .st fs) (hf:fs[f]? = some (off,sz)) (hs:Nat.beq sz 0=false) (hx:lookO l x=some (.rptr o m n off0)) :
  OpV C id l G nx df pk (.fieldAddr t x f) (.rptr o m n (off0+off)) []:=
 O.of fun t L hA=>by
  have:¬ sz=0:=fun e=>by subst e;cases hs
  simp only [opA,hA.ev hx,aFieldAddr,hk.is,hd,hf,if_neg this,moveAt]
theorem sub_one {α:Type} {cs:List α} {off:Nat} {u:α} (hu:cs[off]? = some u):sub cs off 1=some [u]:=by
 have hlt:=(List.getElem?_eq_some_iff.1 hu).1
 unfold sub
 rw [if_pos (by omega),List.drop_eq_getElem_cons hlt]
 have:cs[off]=u:=(List.getElem?_eq_some_iff.1 hu).2
 simp [this]
theorem O.loadP {x:Operand} {t:TypeId} {k:TyI} {o off:Nat} {cs:List AV} {fr:Bool} {u:AV} [hk:TyIs C t k] (hg:k.d.isAgg=false) (hs:k.sz=1) (hx:lookO l x=some (.ptr o off)) (hG:G o = .box cs fr) (hu:cs[off]? = some u) :
  OpV C id l G nx df pk (.load t x) u []:=
 O.of fun t L hA=>by simp only [opA,hA.ev hx,aLoad,hk.is,hs,readAt,hG,sub_one hu,hg,Bool.false_eq_true,if_false]
theorem O.loadPA {x:Operand} {t:TypeId} {k:TyI} {o off:Nat} {cs us:List AV} {fr:Bool} [hk:TyIs C t k] (hg:k.d.isAgg=true) (hx:lookO l x=some (.ptr o off)) (hG:G o = .box cs fr) (hu:sub cs off k.sz=some us) (hv:mkAgg us=v) :
  OpV C id l G nx df pk (.load t x) v []:=
 O.of fun t L hA=>by simp only [opA,hA.ev hx,aLoad,hk.is,readAt,hG,hu,hg,if_true,hv]
theorem O.loadE {x:Operand} {t:TypeId} {k:TyI} {xs:List IV} {n off:Nat} {e u:IV} [hk:TyIs C t k] (hg:k.d.isAgg=false) (hs:k.sz=1) (hx:lookO l x=some (.imm (.eptr xs n off))) (he:xs[n]? = some e) (hu:e.cells[off]? = some u) :
  OpV C id l G nx df pk (.load t x) (.imm u) []:=
 O.of fun t L hA=>by simp only [opA,hA.ev hx,aLoad,hk.is,hs,readAt,he,sub_one hu,Option.map_some,List.map_cons,List.map_nil,hg,Bool.false_eq_true,if_false]
theorem mkAgg_imm (cs:List IV):mkAgg (cs.map .imm) = .imm (.agg cs):=by
 have:allImm (cs.map AV.imm)=some cs:=by
  induction cs with
  |nil=>rfl
  |cons x r ih=>simp only [List.map_cons,allImm,ih,Option.map_some]
 unfold mkAgg
 rw [this]
theorem O.loadEA {x:Operand} {t:TypeId} {k:TyI} {xs cs:List IV} {n off:Nat} {e:IV} [hk:TyIs C t k] (hg:k.d.isAgg=true) (hx:lookO l x=some (.imm (.eptr xs n off))) (he:xs[n]? = some e) (hu:sub e.cells off k.sz=some cs) :
  OpV C id l G nx df pk (.load t x) (.imm (.agg cs)) []:=
 O.of fun t L hA=>by simp only [opA,hA.ev hx,aLoad,hk.is,readAt,he,hu,Option.map_some,hg,if_true,mkAgg_imm]
theorem O.storeP {a x:Operand} {t:TypeId} {k:TyI} {o off:Nat} {cs cs':List AV} [hk:TyIs C t k] (ha:lookO l a=some (.ptr o off)) (hx:lookO l x=some v) (hf:v.fits k.sz=true) (hG:G o = .box cs false) (hn:Nat.ble (off+k.sz) cs.length=true) (hc:splice cs off v.cells=cs') :
  OpV C id l G nx df pk (.store t a x) .undef [(o, .set (.box cs' false))]:=
 O.of fun t L hA=>by
  have:=Nat.le_of_ble_eq_true hn
  simp only [opA,hA.ev ha,hA.ev hx,aStore,hk.is,if_pos hf,hG,if_pos this,hc]
def partsE (l:Env):List (Nat×Operand)->Option (List (Nat×AV))
 |[]=>some []
 |(i,x)::r=>match lookO l x with
  |some v=>match partsE l r with
   |some vs=>some ((i,v)::vs)
   |none=>none
  |none=>none
theorem partsE_ok {t:Nat->AV} (h:Agree t l):∀ {ps:List (Nat×Operand)} {vs:List (Nat×AV)},partsE l ps=some vs->(ps.map fun p=>(p.1,Go.Abs.ev t p.2))=vs
 |[],vs,hp=>by cases hp;rfl
 |(i,x)::r,vs,hp=>by
  unfold partsE at hp
  split at hp
  ·rename_i v hv
   split at hp
   ·rename_i ws hw
    cases hp
    simp only [List.map_cons,h.ev hv,partsE_ok h hw]
   ·cases hp
  ·cases hp
theorem O.build {t:TypeId} {ps:List (Nat×Operand)} {k:TyI} {fs:List (Nat×Nat)} {vs:List (Nat×AV)} {cs:List AV} [hk:TyIs C t k] (hd:k.d = .st fs) (hp:partsE l ps=some vs) (hf:fillA fs k.zero.cells vs=some cs) (hv:mkAgg cs=v) :
  OpV C id l G nx df pk (.build t ⟨ps⟩) v []:=
 O.of fun t L hA=>by simp only [opA,aBuild,hk.is,hd,partsE_ok hA hp,hf,hv]
theorem O.extr {x:Operand} {ix:Nat} {vs:List IV} {u:IV} (hx:lookO l x=some (.imm (.tup vs))) (hu:vs[ix]? = some u):OpV C id l G nx df pk (.extract x ix) (.imm u) []:=
 O.of fun t L hA=>by simp only [opA,hA.ev hx,aExtract,hu]
theorem W.retFin2 {t u:Nat} {v w:AV} {Ψ:AV->(Nat->Obj)->Nat->Prop} (hv:look l t=some v) (hw:look l u=some w) (h:Ψ (mkTup [v,w]) G nx):W C fid nt .ret l G nx [] .no (fin C [.tmp t, .tmp u] Ψ):=
 .ret fun t ht=>⟨rfl,rfl,mkTup [v,w],by simp only [resultsA,resultsL,resultA,ht _ v hv,ht _ w hw],h⟩
theorem sub_all {α:Type} (cs:List α):sub cs 0 cs.length=some cs:=by
 unfold sub
 rw [if_pos (by omega)]
 simp
theorem W.retFinCT {a u:Nat} {t:TypeId} {o:Nat} {k:TyI} {cs:List AV} {fr:Bool} {w:AV} {Ψ:AV->(Nat->Obj)->Nat->Prop} [hk:TyIs C t k] (ha:look l a=some (.ptr o 0)) (hG:G o = .box cs fr) (hs:Nat.beq cs.length k.sz=true) (hg:k.d.isAgg=true) (hw:look l u=some w) (h:Ψ (mkTup [mkAgg cs,w]) G nx) :
  W C fid nt .ret l G nx [] .no (fin C [.cell a t, .tmp u] Ψ):=
 .ret fun t' ht=>⟨rfl,rfl,mkTup [mkAgg cs,w],by
  have e:cs.length=k.sz:=Nat.eq_of_beq_eq_true hs
  have e2:Go.Abs.sub cs 0 k.sz=some cs:=by rw [<-e];exact sub_all cs
  simp only [resultsA,resultsL,resultA,ht _ _ ha,ht _ _ hw,aLoad,hk.is,readAt,hG,e2,hg,if_true],h⟩
theorem W.retFinCA {a:Nat} {t:TypeId} {o:Nat} {k:TyI} {cs:List AV} {fr:Bool} {Ψ:AV->(Nat->Obj)->Nat->Prop} [hk:TyIs C t k] (ha:look l a=some (.ptr o 0)) (hG:G o = .box cs fr) (hs:Nat.beq cs.length k.sz=true) (hg:k.d.isAgg=true) (h:Ψ (mkAgg cs) G nx) :
  W C fid nt .ret l G nx [] .no (fin C [.cell a t] Ψ):=
 .ret fun t' ht=>⟨rfl,rfl,mkAgg cs,by
  have e:cs.length=k.sz:=Nat.eq_of_beq_eq_true hs
  have e2:Go.Abs.sub cs 0 k.sz=some cs:=by rw [<-e];exact sub_all cs
  simp only [resultsA,resultsL,resultA,ht _ _ ha,aLoad,hk.is,readAt,hG,e2,hg,if_true],h⟩
def boundE (l:Env) (n d:Nat):Option Operand->Option Nat
 |none=>some d
 |some x=>match lookO l x with
  |some (.imm (.int _ i))=>if 0<=i/\i<=n then some i.toNat else none
  |_=>none
theorem boundE_ok {t:Nat->AV} (h:Agree t l) {n d m:Nat} {o:Option Operand} (hb:boundE l n d o=some m):bound n d (o.map (Go.Abs.ev t))=some m:=by
 cases o with
 |none=>exact hb
 |some x=>
  simp only [boundE] at hb
  split at hb
  ·rename_i k i hx
   simp only [Option.map_some,h.ev hx,bound]
   exact hb
  ·cases hb
theorem O.sliceL {x:Operand} {t e:TypeId} {lo hi:Option Operand} {k ke:TyI} {xs:List IV} {a b:Nat} [hk:TyIs C t k] (ht:k.d = .sl e) [he:TyIs C e ke] (hx:lookO l x=some (.imm (.lst xs))) (hh:boundE l xs.length xs.length hi=some b) (hl:boundE l b 0 lo=some a) (hs:xs.all (fun y=>y.cells.length==ke.sz)=true) :
  OpV C id l G nx df pk (.slice t x lo hi none) (.imm (.lst ((xs.take b).drop a))) []:=
 O.of fun t' L hA=>by
  have hp:peek G pkDepth (.imm (.lst xs))=some (.lst xs,[]):=by unfold pkDepth peek;rfl
  simp only [opA,hA.ev hx,aSlice,hk.is,ht,hp,he.is,boundE_ok hA hh,boundE_ok hA hl,if_pos hs,give_nil]
theorem O.callG {f:FuncId} {ar:List Operand} {ats:Array TypeId} {vs:List AV} {ivs:List IV} {ids:List Nat} {x:IV} [hf:FnIs C f] (ha:looks l ar=some vs) (hi:peeks G vs=some (ivs,ids)) (hr:Ret C f ivs x) (hx:x.scalar=true) :
  OpV C id l G nx df pk (.call { callee := .value (.func f),args:=⟨ar⟩,argTypes:=ats }) (.imm x) []:=by
 obtain ⟨n,v,G',nx',pk',ids,h1,h2⟩:=hr
 refine ⟨fun t ht=>⟨n,?_⟩⟩
 simp only [opA,ev,aCall,fnOf,List.map_nil,List.append_nil,callA,hf.byref,Bool.false_eq_true,if_false,ht.evs ha,hi,hf.orc,h1,h2,hx,give,if_true]
end Go.Abs

/- The abstract interpreter: a logic of what code comes to: slices of the call's own that grow. -/
namespace Go.Abs
variable {C:Cfg} {fid nt:Nat} {l:Env} {G:Nat->Obj} {nx:Nat} {df:List (AV×List AV)} {pk:Pk} {Φ Φ':Out->Prop} {a b:Code} {ol r:List Oper} {base i d:Nat} {ty:TypeId} {pos:String} {af:Array Edge} {v:AV} {id:Nat}
def Own (e sz lo hi:Nat) (xs:List IV) (G:Nat->Obj) (v:AV):Prop:=
 (xs=[]/\v = .nils)\/∃ o,lo<=o/\o < hi/\v = .row o xs.length/\G o = .row e sz (xs.map .imm) false
theorem Own.nil (e sz lo hi:Nat) (G:Nat->Obj):Own e sz lo hi [] G .nils := .inl ⟨rfl,rfl⟩
theorem Own.frame {e sz lo hi hi':Nat} {xs:List IV} {G G':Nat->Obj} {v:AV} (h:Own e sz lo hi xs G v) (hh:hi<=hi') (hG:∀ o,lo<=o->o < hi->G' o=G o):Own e sz lo hi' xs G' v:=by
 rcases h with h|⟨o,h1,h2,h3,h4⟩
 ·exact .inl h
 ·exact .inr ⟨o,h1,by omega,h3,by rw [hG o h1 h2];exact h4⟩
theorem Own.up {e sz lo hi hi':Nat} {xs:List IV} {G:Nat->Obj} {v:AV} (h:Own e sz lo hi xs G v) (hh:hi<=hi'):Own e sz lo hi' xs G v:=h.frame hh fun _ _ _=>rfl
theorem Own.upd {e sz lo hi hi' q:Nat} {xs:List IV} {G:Nat->Obj} {v:AV} {x:Obj} (h:Own e sz lo hi xs G v) (hh:hi<=hi') (hq:hi<=q):Own e sz lo hi' xs (Go.Abs.upd G q x) v:=
 h.frame hh fun o _ h2=>upd_ne _ _ _ _ (by omega)
theorem peekL_imm {f:AV->Option (IV×List Nat)} (hf:∀ x,f (.imm x)=some (x,[])):∀ xs:List IV,peekL f (xs.map .imm)=some (xs,[])
 |[]=>rfl
 |x::r=>by simp only [List.map_cons,peekL,hf,peekL_imm hf r];rfl
theorem Own.peek {e sz lo hi k:Nat} {xs:List IV} {G:Nat->Obj} {v:AV} (h:Own e sz lo hi xs G v):∃ ids,Go.Abs.peek G (k+1) v=some (.lst xs,ids):=by
 rcases h with ⟨rfl,rfl⟩|⟨o,_,_,rfl,hG⟩
 ·exact ⟨[],rfl⟩
 ·refine ⟨[o],?_⟩
  have hp:∀ x,Go.Abs.peek G k (.imm x)=some (x,[]):=fun x=>by cases k<;>rfl
  simp only [Go.Abs.peek,hG,List.length_map,if_true,peekL_imm hp]
theorem Own.elems {e sz lo hi:Nat} {xs:List IV} {G:Nat->Obj} {v:AV} (h:Own e sz lo hi xs G v):Go.Abs.elems G v=some (xs.map .imm):=by
 rcases h with ⟨rfl,rfl⟩|⟨o,_,_,rfl,hG⟩
 ·rfl
 ·simp [Go.Abs.elems,hG]
theorem O.lenO {x:Operand} {t:TypeId} {k:TyI} {e e' sz lo hi:Nat} {xs:List IV} [hk:TyIs C t k] (hx:lookO l x=some v) (hl:k.d = .sl e') (ho:Own e sz lo hi xs G v):OpV C id l G nx df pk (.call { callee := .builtin .len,args := #[x],argTypes := #[t] }) (.imm (.int .i64 xs.length)) []:=
 O.len (m:=xs.length) hx (by rw [hl];simp [lenA,ho.elems])
theorem fits_all {sz:Nat} {ys:List IV} (h:∀ y∈ys,(AV.imm y).fits sz=true):(ys.map AV.imm).all (AV.fits sz)=true:=by
 rw [List.all_eq_true]
 intro x hx
 obtain ⟨y,hy,rfl⟩:=List.mem_map.1 hx
 exact h y hy
theorem R.appOwn {x y:Operand} {t u e lo:Nat} {k ke:TyI} {xs ys:List IV} {w:AV} [hk:TyIs C t k] (ht:k.d = .sl e) [he:TyIs C e ke] (hu:Nat.beq t u=true) (hx:lookO l x=some v) (ho:Own e ke.sz lo nx xs G v) (hy:lookO l y=some w) (hw:elems G w=some (ys.map .imm))
  (hs:0 < ke.sz) (hb:ke.bytes<=4096) (hz:ke.zero.fits ke.sz=true) (hys:∀ y∈ys,(AV.imm y).fits ke.sz=true) (hm:xs.length+ys.length<=most) (hid:lo<=base+i/\base+i < nx) (hd:Nat.ble (d+1) nt=true)
  (next:∀ v' G',Own e ke.sz lo nx (xs++ys) G' v'->(∀ o,o < lo->G' o=G o)->R C nt ol base (i+1) r ((d,v')::l) G' nx df pk Φ) :
  R C nt ol base i (⟨some d, .call { callee := .builtin .append,args := #[x,y],argTypes := #[t,u] },ty,pos,af,none⟩::r) l G nx df pk Φ:=by
 rcases ho with ⟨rfl,rfl⟩|⟨o,h1,h2,rfl,hG⟩
 ·refine R.op1 (O.appNil ht hu hx hy hw hs hb hz (fits_all hys) (by simpa using hm)) hd (next _ _ (.inr ⟨base+i,hid.1,hid.2,by simp,by rw [upd_same];simp⟩) fun o ho=>upd_ne _ _ _ _ (by omega))
 ·refine R.op1 (O.appRow ht hu hx hG (by simp) hy hw hs hb hz (fits_all hys) (by simpa using hm)) hd (next _ _ (.inr ⟨o,h1,h2,by simp,by rw [upd_same];simp⟩) fun o' ho'=>upd_ne _ _ _ _ (by omega))
end Go.Abs

/- The abstract interpreter: a logic of what code comes to: slices of slices of the call's own. -/
namespace Go.Abs
variable {C:Cfg} {fid nt:Nat} {l:Env} {G G':Nat->Obj} {nx:Nat} {df:List (AV×List AV)} {pk:Pk} {Φ Φ':Out->Prop} {a b:Code} {ol r:List Oper} {base i d:Nat} {ty:TypeId} {pos:String} {af:Array Edge} {v:AV} {id:Nat}
def All2 {α β:Type} (R:α->β->Prop):List α->List β->Prop
 |[],[]=>True
 |a::r,b::s=>R a b/\All2 R r s
 |_,_=>False
theorem All2.imp {α β:Type} {R S:α->β->Prop} (h:∀ a b,R a b->S a b):∀ {l:List α} {m:List β},All2 R l m->All2 S l m
 |[],[],_=>trivial
 |_::_,_::_,hl=>⟨h _ _ hl.1,All2.imp h hl.2⟩
 |[],_::_,hl=>hl.elim
 |_::_,[],hl=>hl.elim
theorem All2.append {α β:Type} {R:α->β->Prop}:∀ {l:List α} {m:List β} {l':List α} {m':List β},All2 R l m->All2 R l' m'->All2 R (l++l') (m++m')
 |[],[],_,_,_,h'=>h'
 |_::_,_::_,_,_,hl,h'=>⟨hl.1,All2.append hl.2 h'⟩
 |[],_::_,_,_,hl,_=>hl.elim
 |_::_,[],_,_,hl,_=>hl.elim
theorem All2.length {α β:Type} {R:α->β->Prop}:∀ {l:List α} {m:List β},All2 R l m->l.length=m.length
 |[],[],_=>rfl
 |_::_,_::_,hl=>by simp only [List.length_cons,All2.length hl.2]
 |[],_::_,hl=>hl.elim
 |_::_,[],hl=>hl.elim
theorem peekL_frame {f g:AV->Option (IV×List Nat)} {Q:Nat->Prop} (hfg:∀ v x ids,f v=some (x,ids)->(∀ o∈ids,Q o)->g v=some (x,ids)):∀ (vs:List AV) (xs:List IV) (ids:List Nat),peekL f vs=some (xs,ids)->(∀ o∈ids,Q o)->peekL g vs=some (xs,ids)
 |[],xs,ids,h,_=>h
 |v::r,xs,ids,h,hq=>by
  unfold peekL at h ⊢
  cases hv:f v with
  |none=>rw [hv] at h;cases h
  |some p=>
   obtain ⟨x,i⟩:=p
   rw [hv] at h
   cases hr:peekL f r with
   |none=>rw [hr] at h;cases h
   |some q=>
    obtain ⟨l,is⟩:=q
    rw [hr] at h
    cases h
    rw [hfg v x i hv (fun o ho=>hq o (by simp [ho])),peekL_frame hfg r l is hr (fun o ho=>hq o (by simp [ho]))]
theorem peek_frame:∀ (k:Nat) (v:AV) (x:IV) (ids:List Nat),Go.Abs.peek G k v=some (x,ids)->(∀ o∈ids,G' o=G o)->Go.Abs.peek G' k v=some (x,ids):=by
 intro k
 induction k with
 |zero=>
  intro v x ids h _
  cases v<;>simp only [Go.Abs.peek] at h ⊢ <;> first|exact h|cases h
 |succ k ih=>
  intro v x ids h hq
  cases v with
  |imm y=>exact h
  |nils=>exact h
  |row o n=>
   unfold Go.Abs.peek at h ⊢
   cases hG:G o with
   |row e sz vs fr=>
    rw [hG] at h
    dsimp only at h
    split at h
    ·rename_i hn
     cases hp:peekL (Go.Abs.peek G k) vs with
     |none=>rw [hp] at h;cases h
     |some p=>
      obtain ⟨xs,is⟩:=p
      rw [hp] at h
      cases h
      rw [hq o (by simp),hG]
      dsimp only
      rw [if_pos hn,peekL_frame (g:=Go.Abs.peek G' k) (Q:=fun o=>G' o=G o) ih vs xs is hp (fun o' ho=>hq o' (by simp [ho]))]
    ·cases h
   |_=>rw [hG] at h;cases h
  |map o=>
   unfold Go.Abs.peek at h ⊢
   cases hG:G o with
   |mp ks vs fr=>
    rw [hG] at h
    dsimp only at h
    cases hp:peekL (Go.Abs.peek G k) vs with
    |none=>rw [hp] at h;cases h
    |some p=>
     obtain ⟨xs,is⟩:=p
     rw [hp] at h
     cases h
     rw [hq o (by simp),hG]
     dsimp only
     rw [peekL_frame (g:=Go.Abs.peek G' k) (Q:=fun o=>G' o=G o) ih vs xs is hp (fun o' ho=>hq o' (by simp [ho]))]
   |_=>rw [hG] at h;cases h
  |ptr o off=>
   unfold Go.Abs.peek at h ⊢
   cases hG:G o with
   |box cs fr=>
    rw [hG] at h
    dsimp only at h
    cases hp:peekL (Go.Abs.peek G k) cs with
    |none=>rw [hp] at h;cases h
    |some p=>
     obtain ⟨xs,is⟩:=p
     rw [hp] at h
     cases h
     rw [hq o (by simp),hG]
     dsimp only
     rw [peekL_frame (g:=Go.Abs.peek G' k) (Q:=fun o=>G' o=G o) ih cs xs is hp (fun o' ho=>hq o' (by simp [ho]))]
   |_=>rw [hG] at h;cases h
  |fn f cap=>
   unfold Go.Abs.peek at h ⊢
   cases hp:peekL (Go.Abs.peek G k) cap with
   |none=>rw [hp] at h;cases h
   |some p=>
    obtain ⟨xs,is⟩:=p
    rw [hp] at h
    cases h
    rw [peekL_frame (g:=Go.Abs.peek G' k) (Q:=fun o=>G' o=G o) ih cap xs _ hp hq]
  |agg cs=>
   unfold Go.Abs.peek at h ⊢
   cases hp:peekL (Go.Abs.peek G k) cs with
   |none=>rw [hp] at h;cases h
   |some p=>
    obtain ⟨xs,is⟩:=p
    rw [hp] at h
    cases h
    rw [peekL_frame (g:=Go.Abs.peek G' k) (Q:=fun o=>G' o=G o) ih cs xs _ hp hq]
  |tup cs=>
   unfold Go.Abs.peek at h ⊢
   cases hp:peekL (Go.Abs.peek G k) cs with
   |none=>rw [hp] at h;cases h
   |some p=>
    obtain ⟨xs,is⟩:=p
    rw [hp] at h
    cases h
    rw [peekL_frame (g:=Go.Abs.peek G' k) (Q:=fun o=>G' o=G o) ih cs xs _ hp hq]
  |_=>simp only [Go.Abs.peek] at h;cases h
def Rdx (d:Nat) (G:Nat->Obj) (P:Nat->Prop) (v:AV) (x:IV):Prop:=∃ ids,(∀ k,Go.Abs.peek G (k+d) v=some (x,ids))/\∀ i∈ids,P i
theorem Rdx.imm (d:Nat) (G:Nat->Obj) (P:Nat->Prop) (x:IV):Rdx d G P (.imm x) x:=⟨[],fun k=>by cases k+d<;>rfl,fun _ h=>by cases h⟩
theorem Rdx.nils (d:Nat) (G:Nat->Obj) (P:Nat->Prop):Rdx d G P .nils (.lst []):=⟨[],fun k=>by cases k+d<;>rfl,fun _ h=>by cases h⟩
theorem Rdx.frame {d:Nat} {P P':Nat->Prop} {v:AV} {x:IV} (h:Rdx d G P v x) (hG:∀ o,P o->G' o=G o) (hP:∀ o,P o->P' o):Rdx d G' P' v x:=by
 obtain ⟨ids,h1,h2⟩:=h
 exact ⟨ids,fun k=>peek_frame _ _ _ _ (h1 k) fun o ho=>hG o (h2 o ho),fun o ho=>hP o (h2 o ho)⟩
theorem Rdx.peek {d:Nat} {P:Nat->Prop} {v:AV} {x:IV} (h:Rdx d G P v x) (hd:d<=100):∃ ids,Go.Abs.peek G pkDepth v=some (x,ids):=by
 obtain ⟨ids,h1,_⟩:=h
 have:=h1 (100-d)
 rw [show 100-d+d=100 by omega] at this
 exact ⟨ids,this⟩
theorem All2.peekL {d:Nat} {P:Nat->Prop}:∀ {vs:List AV} {xs:List IV},All2 (Rdx d G P) vs xs->∃ ids,(∀ k,Go.Abs.peekL (Go.Abs.peek G (k+d)) vs=some (xs,ids))/\∀ i∈ids,P i
 |[],[],_=>⟨[],fun _=>rfl,fun _ h=>by cases h⟩
 |v::vs,x::xs,h=>by
  obtain ⟨i1,a1,b1⟩:=h.1
  obtain ⟨i2,a2,b2⟩:=All2.peekL h.2
  refine ⟨i1++i2,fun k=>?_,fun i hi=>(List.mem_append.1 hi).elim (b1 i) (b2 i)⟩
  unfold Go.Abs.peekL
  rw [a1 k,a2 k]
 |[],_::_,h=>h.elim
 |_::_,[],h=>h.elim
theorem Rdx.row {d o n e sz:Nat} {P:Nat->Prop} {vs:List AV} {xs:List IV} {fr:Bool} (hG:G o = .row e sz vs fr) (hn:vs.length=n) (h:All2 (Rdx d G P) vs xs) (ho:P o):Rdx (d+1) G P (.row o n) (.lst xs):=by
 obtain ⟨ids,h1,h2⟩:=h.peekL
 refine ⟨o::ids,fun k=>?_,fun i hi=>(List.mem_cons.1 hi).elim (fun h=>h▸ho) (h2 i)⟩
 show Go.Abs.peek G (k+d+1) _=_
 unfold Go.Abs.peek
 rw [hG]
 dsimp only
 rw [if_pos hn,h1 k]
theorem All2.imms (d:Nat) (G:Nat->Obj) (P:Nat->Prop):∀ xs:List IV,All2 (Rdx d G P) (xs.map .imm) xs
 |[]=>trivial
 |_::r=>⟨.imm ..,All2.imms d G P r⟩
theorem Own.rdx {e sz lo hi:Nat} {xs:List IV} (h:Own e sz lo hi xs G v):Rdx 1 G (fun i=>lo<=i/\i < hi) v (.lst xs):=by
 rcases h with ⟨rfl,rfl⟩|⟨o,h1,h2,rfl,hG⟩
 ·exact .nils ..
 ·exact .row hG (by simp) (All2.imms 0 G _ xs) ⟨h1,h2⟩
def OwnV (d e sz lo hi:Nat) (xs:List IV) (G:Nat->Obj) (v:AV):Prop:=
 (xs=[]/\v = .nils)\/∃ o vs,lo<=o/\o < hi/\v = .row o vs.length/\G o = .row e sz vs false/\All2 (Rdx d G (fun i=>lo<=i/\i < hi/\i≠o)) vs xs
theorem OwnV.nil (d e sz lo hi:Nat) (G:Nat->Obj):OwnV d e sz lo hi [] G .nils := .inl ⟨rfl,rfl⟩
theorem OwnV.rdx {d e sz lo hi:Nat} {xs:List IV} (h:OwnV d e sz lo hi xs G v):Rdx (d+1) G (fun i=>lo<=i/\i < hi) v (.lst xs):=by
 rcases h with ⟨rfl,rfl⟩|⟨o,vs,h1,h2,rfl,hG,ha⟩
 ·exact .nils ..
 ·exact .row hG rfl (ha.imp fun _ _ h=>h.frame (fun _ _=>rfl) fun _ h=>⟨h.1,h.2.1⟩) ⟨h1,h2⟩
theorem OwnV.frame {d e sz lo hi hi':Nat} {xs:List IV} (h:OwnV d e sz lo hi xs G v) (hh:hi<=hi') (hG:∀ o,lo<=o->o < hi->G' o=G o):OwnV d e sz lo hi' xs G' v:=by
 rcases h with h|⟨o,vs,h1,h2,h3,h4,ha⟩
 ·exact .inl h
 ·exact .inr ⟨o,vs,h1,by omega,h3,by rw [hG o h1 h2];exact h4,ha.imp fun _ _ h=>h.frame (fun i hi=>hG i hi.1 hi.2.1) fun i hi=>⟨hi.1,by omega,hi.2.2⟩⟩
theorem R.appOwnV {x y:Operand} {t u d' e lo hi:Nat} {k ke:TyI} {xs ys:List IV} {ws:List AV} {w:AV} [hk:TyIs C t k] (ht:k.d = .sl e) [he:TyIs C e ke] (hu:Nat.beq t u=true) (hx:lookO l x=some v) (ho:OwnV d' e ke.sz lo hi xs G v) (hy:lookO l y=some w) (hw:elems G w=some ws)
  (hs:0 < ke.sz) (hb:ke.bytes<=4096) (hz:ke.zero.fits ke.sz=true) (hys:ws.all (AV.fits ke.sz)=true) (hm:xs.length+ws.length<=most) (hid:lo<=hi/\hi<=base+i) (hi2:∀ G',(∀ o,o < hi->lo<=o\/G' o=G o)->(∀ o,hi<=o->o≠base+i->G' o=G o)->All2 (Rdx d' G' (fun o=>hi<=o/\o < base+i)) ws ys) (hd:Nat.ble (d+1) nt=true)
  (next:∀ v' G',OwnV d' e ke.sz lo (base+i+1) (xs++ys) G' v'->(∀ o,o < lo->G' o=G o)->(∀ o,hi<=o->o < base+i->G' o=G o)->R C nt ol base (i+1) r ((d,v')::l) G' nx df pk Φ) :
  R C nt ol base i (⟨some d, .call { callee := .builtin .append,args := #[x,y],argTypes := #[t,u] },ty,pos,af,none⟩::r) l G nx df pk Φ:=by
 rcases ho with ⟨rfl,rfl⟩|⟨o,vs,h1,h2,rfl,hG,ha⟩
 ·refine R.op1 (O.appNil ht hu hx hy hw hs hb hz hys (by simpa using hm)) hd (next _ _ (.inr ⟨base+i,ws,by omega,by omega,rfl,upd_same ..,?_⟩) (fun o ho=>upd_ne _ _ _ _ (by omega)) fun o h1 h2=>upd_ne _ _ _ _ (by omega))
  exact (hi2 (upd G (base+i) (.row e ke.sz ws false)) (fun o h => .inr (upd_ne _ _ _ _ (by omega))) fun o h h'=>upd_ne _ _ _ _ h').imp fun _ _ h=>h.frame (fun _ _=>rfl) fun i hi=>⟨by omega,by omega,by omega⟩
 ·refine R.op1 (O.appRow ht hu hx hG rfl hy hw hs hb hz hys (by rw [ha.length];exact hm)) hd (next _ _ (.inr ⟨o,vs++ws,h1,by omega,rfl,upd_same ..,?_⟩) (fun o' ho=>upd_ne _ _ _ _ (by omega)) fun o' h1 h2=>upd_ne _ _ _ _ (by omega))
  refine (ha.imp fun _ _ h=>h.frame (fun i hi=>upd_ne _ _ _ _ hi.2.2) fun i hi=>⟨hi.1,by omega,hi.2.2⟩).append ?_
  refine (hi2 (upd G o (.row e ke.sz (vs++ws) false)) (fun o' h=>?_) fun o' h h'=>upd_ne _ _ _ _ (by omega)).imp fun _ _ h=>h.frame (fun _ _=>rfl) fun i hi=>⟨by omega,by omega,by omega⟩
  by_cases h':o'=o
  ·exact .inl (by omega)
  ·exact .inr (upd_ne _ _ _ _ h')
theorem O.makeSlice {t e:TypeId} {x y:Operand} {k ke:TyI} {kk kk':IntKind} {m n:Int} [hk:TyIs C t k] (ht:k.d = .sl e) (he:TyIs C e ke) (hx:lookO l x=some (.imm (.int kk m))) (hy:lookO l y=some (.imm (.int kk' n))) (h0:0<=m/\m<=n/\n<=most) (hb:ke.bytes<=4096) (hz:ke.zero.fits ke.sz=true) (hs:0 < ke.sz) :
  OpV C id l G nx df pk (.makeSlice t x y) (.row id m.toNat) [(id, .set (.row e ke.sz (List.replicate m.toNat ke.zero) false))]:=
 O.of fun t' L hA=>by
  simp only [opA,hA.ev hx,hA.ev hy,aMakeSlice,hk.is,ht,he.is]
  rw [if_pos ⟨h0.1,h0.2.1,h0.2.2,hb,hz,hs⟩]
theorem O.storeR {a x:Operand} {t et sz:TypeId} {k:TyI} {o m n:Nat} {vs:List AV} {u:AV} [hk:TyIs C t k] (hs:k.sz=1) (ha:lookO l a=some (.rptr o m n 0)) (hx:lookO l x=some v) (hf:v.fits 1=true) (hG:G o = .row et sz vs false) (hm:vs.length=m) (hu:vs[n]? = some u) (huc:Nat.ble 1 u.cells.length=true) (hv:avOf u (splice u.cells 0 v.cells)=v) :
  OpV C id l G nx df pk (.store t a x) .undef [(o, .set (.row et sz (vs.set n v) false))]:=
 O.of fun t' L hA=>by
  simp only [opA,hA.ev ha,hA.ev hx,aStore,hk.is,hs,hf,if_true,hG,hu]
  rw [if_pos ⟨hm,by decide,by have:=Nat.le_of_ble_eq_true huc;omega⟩,hv]
end Go.Abs

/- The abstract interpreter: a logic of what code comes to: panics, deferred calls. -/
namespace Go.Abs
variable {C:Cfg} {fid nt:Nat} {l:Env} {G G':Nat->Obj} {nx:Nat} {df:List (AV×List AV)} {pk:Pk} {Φ Φ':Out->Prop} {a b:Code} {ol r:List Oper} {base i d:Nat} {ty:TypeId} {pos:String} {af:Array Edge} {v:AV} {id:Nat}
def CalP (C:Cfg) (f:FuncId) (vs:List AV) (G:Nat->Obj) (nx:Nat) (Ψ:CR->Prop):Prop:=∃ n r,(low C n).call f vs .no G nx=some (r, .no)/\Ψ r
def RndP (C:Cfg) (q:Nat) (vs:List AV) (G:Nat->Obj) (nx:Nat) (Ψ:CR->Prop):Prop:=∃ n r,(low C n).round q vs G nx=some (r, .no)/\Ψ r
theorem CalP.mono {f:FuncId} {vs:List AV} {Ψ Ψ':CR->Prop} (h:CalP C f vs G nx Ψ) (hi:∀ r,Ψ r->Ψ' r):CalP C f vs G nx Ψ':=by
 obtain ⟨n,r,h1,h2⟩:=h
 exact ⟨n,r,h1,hi _ h2⟩
theorem RndP.mono {q:Nat} {vs:List AV} {Ψ Ψ':CR->Prop} (h:RndP C q vs G nx Ψ) (hi:∀ r,Ψ r->Ψ' r):RndP C q vs G nx Ψ':=by
 obtain ⟨n,r,h1,h2⟩:=h
 exact ⟨n,r,h1,hi _ h2⟩
def noPan (Ψ:AV->(Nat->Obj)->Nat->Prop):CR->Prop
 | .ret v G nx=>Ψ v G nx
 | .pan _ _ _=>False
def finP (C:Cfg) (rs:List ResultVar) (Ψ:CR->Prop):Out->Prop
 | .norm s | .ret s=>s.defers=[]/\s.pk = .no/\∃ v,resultsA C s rs=some v/\Ψ (.ret v s.G s.nx)
 | .pan v s=>s.defers=[]/\s.pk = .no/\Ψ (.pan v s.G s.nx)
 | .exit _ _=>False
theorem CalP.of {f:FuncId} {fn:Func} {b:Code} {vs:List AV} {Ψ:CR->Prop} (hf:C.fn f=some fn) (hb:fn.body=some b) (hn:Nat.ble vs.length fn.ntmps=true)
  (h:W C f fn.ntmps b (envOf 0 vs) G nx [] .no (finP C fn.results.toList Ψ)) (ha:C.at f=C:=by exact rfl):CalP C f vs G nx Ψ:=by
 obtain ⟨n,o,h1,h2⟩:=h.st _ (agree_init vs)
 have hn:=Nat.le_of_ble_eq_true hn
 have go:∀ s:St,(s.defers=[]/\s.pk = .no/\∃ v,resultsA C s fn.results.toList=some v/\Ψ (.ret v s.G s.nx))->∃ v,leaveA C (low C n) fn.results.toList s.defers none s=some (.ret v s.G s.nx, .no)/\Ψ (.ret v s.G s.nx):=by
  intro s ⟨hd,hp,v,hv,hΨ⟩
  exact ⟨v,by rw [hd];simp only [leaveA,hv,hp],hΨ⟩
 cases o with
 |norm s=>
  obtain ⟨v,h3,h4⟩:=go s h2
  exact ⟨n+1,_,by simp only [low,ha,callF,hf,hb,if_pos hn,h1,h3],h4⟩
 |ret s=>
  obtain ⟨v,h3,h4⟩:=go s h2
  exact ⟨n+1,_,by simp only [low,ha,callF,hf,hb,if_pos hn,h1,h3],h4⟩
 |exit _ _=>exact h2.elim
 |pan v s=>
  obtain ⟨hd,hp,h4⟩:=h2
  exact ⟨n+1,_,by simp only [low,ha,callF,hf,hb,if_pos hn,h1,hd,leaveA,hp],h4⟩
def RetPan (C:Cfg) (f:FuncId) (ivs:List IV) (v:IV):Prop:=∃ n G' nx' pk',(low C n).call f (ivs.map .imm) .no (fun _ => .gone) 0=some (.pan v G' nx',pk')/\v.scalar=true
theorem R.pan {o:Oper} {v:IV} {G':Nat->Obj} {nx':Nat} (hg:o.guard=none) (h:∀ t,Agree t l->∃ n,opA C (low C n) (base+i) ⟨t,G,nx,df,pk⟩ o.op=some (.pan v ⟨t,G',nx',df,pk⟩))
  (next:∀ t,Agree t l->Φ (.pan v ⟨t,G',nx',df,pk⟩)):R C nt ol base i (o::r) l G nx df pk Φ:=by
 refine .mk fun t ht=>?_
 obtain ⟨n,hn⟩:=h t ht
 refine ⟨n,_,?_,next t ht⟩
 unfold runL stepA
 simp only [wantA,hg,hn]
theorem R.callPan {o:Option Nat} {f:FuncId} {ars:List Operand} {ats:Array TypeId} {vs:List AV} {ivs:List IV} {v:IV} [hf:FnIs C f] (ha:looks l ars=some vs) (hi:imms vs=some ivs) (hr:RetPan C f ivs v)
  (next:∀ t,Agree t l->Φ (.pan v ⟨t,G,nx,df,pk⟩)):R C nt ol base i (⟨o, .call { callee := .value (.func f),args:=⟨ars⟩,argTypes:=ats },ty,pos,af,none⟩::r) l G nx df pk Φ:=by
 obtain ⟨n,G',nx',pk',h1,hs⟩:=hr
 refine R.pan rfl (fun t ht=>⟨n,?_⟩) next
 obtain rfl:=imms_eq hi
 simp only [opA,ev,aCall,fnOf,List.map_nil,List.append_nil,callA,hf.byref,Bool.false_eq_true,if_false,ht.evs ha,peeks_imm,hf.orc,h1,hs,if_true]
theorem R.callBP {f:Operand} {ars:List Operand} {ats:Array TypeId} {vs cap:List AV} {fv:AV} {k:FuncId} (hf:lookO l f=some fv) (hfn:fnOf fv=some (.func k,cap)) (hb:C.byref k=true) (ha:looks l ars=some vs) (hd:Nat.ble (d+1) nt=true)
  (hr:CalP C k (vs++cap) G nx fun
   | .ret v G' nx'=>R C nt ol base (i+1) r ((d,v)::l) G' nx' df pk Φ
   | .pan v G' nx'=>∀ t,Agree t l->Φ (.pan v ⟨t,G',nx',df,pk⟩)) :
  R C nt ol base i (⟨some d, .call { callee := .value f,args:=⟨ars⟩,argTypes:=ats },ty,pos,af,none⟩::r) l G nx df pk Φ:=by
 obtain ⟨n,cr,h1,h2⟩:=hr
 have this:∀ t,aCall C (low C n) (base+i) ⟨t,G,nx,df,pk⟩ fv vs=callA C (low C n) (base+i) ⟨t,G,nx,df,pk⟩ k (vs++cap):=by
  intro t
  unfold aCall
  split
  ·cases hfn
  ·rw [hfn]
 cases cr with
 |ret v G' nx'=>
  refine R.wr (G':=G') (nx':=nx') (fun t ht=>⟨n,?_⟩) hd h2
  simp only [opA,ht.ev hf,ht.evs ha,this,callA,hb,if_true,h1]
 |pan v G' nx'=>
  refine R.pan rfl (fun t ht=>⟨n,?_⟩) h2
  simp only [opA,ht.ev hf,ht.evs ha,this,callA,hb,if_true,h1]
theorem R.roundP {f:Operand} {ars:List Operand} {ats:Array TypeId} {vs:List AV} {q:Nat} (hf:lookO l f=some (.yld q)) (ha:looks l ars=some vs) (hd:Nat.ble (d+1) nt=true)
  (hr:RndP C q vs G nx fun
   | .ret v G' nx'=>R C nt ol base (i+1) r ((d,v)::l) G' nx' df pk Φ
   | .pan v G' nx'=>∀ t,Agree t l->Φ (.pan v ⟨t,G',nx',df,pk⟩)) :
  R C nt ol base i (⟨some d, .call { callee := .value f,args:=⟨ars⟩,argTypes:=ats },ty,pos,af,none⟩::r) l G nx df pk Φ:=by
 obtain ⟨n,cr,h1,h2⟩:=hr
 cases cr with
 |ret v G' nx'=>
  refine R.wr (G':=G') (nx':=nx') (fun t ht=>⟨n,?_⟩) hd h2
  simp only [opA,ht.ev hf,aCall,ht.evs ha,h1]
 |pan v G' nx'=>
  refine R.pan rfl (fun t ht=>⟨n,?_⟩) h2
  simp only [opA,ht.ev hf,aCall,ht.evs ha,h1]
/-! ### rounds -/
def frdP (q:Nat) (Ψ:CR->Prop):Out->Prop
 | .norm s=>∃ t n p a b f e,s.G q = .lp t n p a b f 1 e/\Ψ (.ret (.imm (.bool true)) (upd s.G q (.lp t n p a b f 0 none)) s.nx)
 | .exit id s=>∃ t n p a b f e,s.G q = .lp t n p a b f 1 e/\Ψ (.ret (.imm (.bool false)) (upd s.G q (.lp t n p a b f 2 (some (.exit id)))) s.nx)
 | .ret s=>∃ t n p a b f e,s.G q = .lp t n p a b f 1 e/\Ψ (.ret (.imm (.bool false)) (upd s.G q (.lp t n p a b f 2 (some .ret))) s.nx)
 | .pan v s=>s.defers=[]/\Ψ (.pan v s.G s.nx)
def astP (C:Cfg) (q fid nt:Nat) (body:Code) (Ψ:CR->Prop):Out->Prop
 | .norm s=>∃ t n p a b f e,s.G q = .lp t n p a b f 0 e/\Wst C fid nt body { s with G:=upd s.G q (.lp t n p a b f 1 e) } (frdP q Ψ)
 |_=>False
theorem RndP.of {q:Nat} {vs:List AV} {Ψ:CR->Prop} {t:Nat->AV} {ps:List Nat} {assign body:Code} {e:Option Code} (hfn:(C.fn fid).isSome=true) (hq:G q = .lp t nt ps assign body fid 0 e) (ht:Agree t l) (hl:ps.length=vs.length) (hps:(ps.all fun t=>decide (t < nt))=true)
  (h:W C fid nt assign (bindE l (ps.zip vs)) G nx [] .rnd (astP C q fid nt body Ψ)) (hg:C.ground=C:=by exact rfl):RndP C q vs G nx Ψ:=by
 obtain ⟨n,o,h1,h2⟩:=h.st _ (agree_bind (ps.zip vs) ht)
 cases o with
 |norm s=>
  obtain ⟨t2,n2,p2,a2,b2,f2,e2,h3,m,o,h4,h5⟩:=h2
  have e1:=code_mono (low_mono (Nat.le_max_left n m)) (Nat.le_max_left n m) _ _ _ h1
  have e4:=code_mono (low_mono (Nat.le_max_right n m)) (Nat.le_max_right n m) _ _ _ h4
  cases o with
  |norm s1=>
   obtain ⟨t3,n3,p3,a3,b3,f3,e3,h6,h7⟩:=h5
   exact ⟨max n m+1,_,by simp only [low,hg,roundF,hq,hl,hps,true_and,if_true,e1,h3,e4,h6],h7⟩
  |exit id s1=>
   obtain ⟨t3,n3,p3,a3,b3,f3,e3,h6,h7⟩:=h5
   exact ⟨max n m+1,_,by simp only [low,hg,roundF,hq,hl,hps,true_and,if_true,e1,h3,e4,h6],h7⟩
  |ret s1=>
   obtain ⟨t3,n3,p3,a3,b3,f3,e3,h6,h7⟩:=h5
   exact ⟨max n m+1,_,by simp only [low,hg,roundF,hq,hl,hps,true_and,if_true,e1,h3,e4,h6],h7⟩
  |pan v s1=>
   obtain ⟨h6,h7⟩:=h5
   exact ⟨max n m+1,_,by simp only [low,hg,roundF,hq,hl,hps,true_and,if_true,e1,h3,e4,h6,hfn,List.isEmpty_nil,Bool.and_self],h7⟩
 |_=>exact h2.elim
theorem W.skipFrdP {q:Nat} {Ψ:CR->Prop} {t:Nat->AV} {n:Nat} {p:List Nat} {a b:Code} {f:FuncId} {e:Option Code} (hG:G q = .lp t n p a b f 1 e) (h:Ψ (.ret (.imm (.bool true)) (upd G q (.lp t n p a b f 0 none)) nx)) :
  W C fid nt .skip l G nx df pk (frdP q Ψ) := .skip fun _ _=>⟨t,n,p,a,b,f,e,hG,h⟩
theorem W.retFrdP {q:Nat} {Ψ:CR->Prop} {t:Nat->AV} {n:Nat} {p:List Nat} {a b:Code} {f:FuncId} {e:Option Code} (hG:G q = .lp t n p a b f 1 e) (h:Ψ (.ret (.imm (.bool false)) (upd G q (.lp t n p a b f 2 (some .ret))) nx)) :
  W C fid nt .ret l G nx df pk (frdP q Ψ) := .ret fun _ _=>⟨t,n,p,a,b,f,e,hG,h⟩
def rngP (q:Nat) (t:Nat->AV) (df:List (AV×List AV)) (pk:Pk) (Φ:Out->Prop):CR->Prop
 | .ret v G1 nx1=>rng q t df pk Φ v G1 nx1
 | .pan v G1 nx1=>Φ (.pan v ⟨t,G1,nx1,df,pk⟩)
theorem W.rangeP {f:Operand} {ps:Array Nat} {assign body:Code} {fv:AV} {k:FuncId} {cap:List AV} (hf:lookO l f=some fv) (hfn:fnOf fv=some (.func k,cap)) (hb:C.byref k=true) (hpk:pk.isRnd=false)
  (h:∀ t,Agree t l->CalP C k (.yld nx::cap) (upd G nx (.lp t nt ps.toList assign body fid 0 none)) (nx+2) (rngP nx t df pk Φ)):W C fid nt (.rangeFunc f ps assign body) l G nx df pk Φ:=by
 refine .mk fun t ht=>?_
 obtain ⟨n,cr,h1,h2⟩:=h t ht
 have hk:∀ lf,code C (low C n) lf fid nt (.rangeFunc f ps assign body) ⟨t,G,nx,df,pk⟩=rangeA C (low C n) fid nt (Go.Abs.ev t f) ps.toList assign body ⟨t,G,nx,df,pk⟩:=by
  intro lf
  unfold code
  cases pk<;>first|rfl|(simp [Pk.isRnd] at hpk)
 cases cr with
 |ret v G1 nx1=>
  obtain ⟨t2,n2,p2,a2,b2,f2,st,pend,h2,h3,h4⟩:=h2
  have e:rangeA C (low C n) fid nt (Go.Abs.ev t f) ps.toList assign body ⟨t,G,nx,df,pk⟩=pendOut ⟨t,upd G1 nx .gone,nx1,df,pk⟩ pend:=by
   unfold rangeA
   simp only [ht.ev hf,hfn,callA,hb,if_true,h1,h2,if_neg h3]
   clear h2 h4
   rcases pend with _|c
   ·rfl
   ·cases c<;>rfl
  clear h2
  rcases pend with _|c
  ·exact ⟨n,_,by rw [hk,e];rfl,h4⟩
  ·cases c with
   |exit id=>exact ⟨n,_,by rw [hk,e];rfl,h4⟩
   |ret=>exact ⟨n,_,by rw [hk,e];rfl,h4⟩
   |_=>exact h4.elim
 |pan v G1 nx1=>
  refine ⟨n, .pan v ⟨t,G1,nx1,df,pk⟩,?_,h2⟩
  rw [hk]
  unfold rangeA
  simp only [ht.ev hf,hfn,callA,hb,if_true,h1]
end Go.Abs

/- The abstract interpreter: a logic of what code comes to: panics where the order is drawn, deferred calls, maps. -/
namespace Go.Abs
variable {C:Cfg} {fid nt:Nat} {l:Env} {G G':Nat->Obj} {nx:Nat} {df:List (AV×List AV)} {pk:Pk} {Φ Φ':Out->Prop} {a b:Code} {ol r:List Oper} {base i d:Nat} {ty:TypeId} {pos:String} {af:Array Edge} {v:AV} {id:Nat}
/-! ### regions that draw their order, and panic -/
def Fp.quiet (f:Fp):Bool:=f.wr.isEmpty&&f.fz.isEmpty
def restOK (ops:Array Oper) (i:Nat):List Nat->Bool
 |[]=>true
 |j::r=>ordered ops i j&&restOK ops i r
theorem runX_rest {L:Low} {ops:Array Oper} {i:Nat}:∀ (js:List Nat) (s:St),restOK ops i js=true->runX C L nt ops base js [i] s=some []
 |[],_,_=>rfl
 |j::r,s,h=>by
  unfold restOK at h
  rw [Bool.and_eq_true] at h
  unfold runX
  rw [if_pos (by simp [h.1])]
  exact runX_rest r s h.2
structure DX (C:Cfg) (nt:Nat) (ol:List Oper) (l0:Env) (base i:Nat) (r:List Oper) (l:Env) (G:Nat->Obj) (nx:Nat) (df:List (AV×List AV)) (pk:Pk) (fs:List Fp) (Φ:Out->Prop):Prop where
 st:ol.drop i=r->∀ t,Agree t l->∃ N pre fp v,(∀ n,N<=n->(∀ fs0,runE C (low C n) nt ⟨ol⟩ base i r fs0 ⟨t,G,nx,df,pk⟩=none)/\runX C (low C n) nt ⟨ol⟩ base (List.range' i r.length) [] ⟨t,G,nx,df,pk⟩=some (pre.map (fun f=>(f,none))++[(fp,some v)])) /\
  (pre.all Fp.quiet=true/\fp.quiet=true)/\(drawOK ⟨ol⟩ (fs.reverse++(pre++[fp]))&&edgesOK ⟨ol⟩)=true/\∀ t',Agree t' l0->Φ (.pan v ⟨t',G,nx,df,pk⟩)
theorem contains_nil (q:Nat):([]:List Nat).contains q=false:=rfl
def keepE (ol:List Oper):Env->Env
 |[]=>[]
 |(i,v)::r=>bif ol.any (fun o=>match o.dst with|some d=>Nat.beq d i|none=>false) then keepE ol r else (i,v)::keepE ol r
theorem keepE_ok {ol:List Oper} {i:Nat} {v:AV}:∀ {l:Env},look (keepE ol l) i=some v->look l i=some v/\ol.any (fun o=>o.dst==some i)=false
 |[],h=>by cases h
 |(j,w)::r,h=>by
  unfold keepE at h
  cases hc:ol.any (fun o=>match o.dst with|some d=>Nat.beq d j|none=>false) with
  |true=>
   rw [hc] at h
   obtain ⟨h1,h2⟩:=keepE_ok (l:=r) h
   refine ⟨?_,h2⟩
   unfold look
   split
   ·rename_i hb
    have e:i=j:=Nat.eq_of_beq_eq_true hb
    subst e
    exfalso
    rw [List.any_eq_true] at hc
    obtain ⟨o,ho,hd⟩:=hc
    rw [List.any_eq_false] at h2
    have:=h2 o ho
    split at hd
    ·rename_i d he
     have e:d=i:=Nat.eq_of_beq_eq_true hd
     subst e
     rw [he] at this;simp at this
    ·cases hd
   ·exact h1
  |false=>
   rw [hc] at h
   simp only [cond_false] at h
   unfold look at h ⊢
   split at h
   ·rename_i hb
    refine ⟨h,?_⟩
    have e:i=j:=Nat.eq_of_beq_eq_true hb
    subst e
    rw [List.any_eq_false] at hc ⊢
    intro o ho hd
    have hd:o.dst=some i:=by simpa using hd
    apply hc o ho
    rw [hd]
    exact Nat.beq_refl i
   ·exact keepE_ok (l:=r) h
theorem W.drawX {k:Nat} {ol:List Oper} (h:DX C nt ol (keepE ol l) nx 0 ol l G (nx+ol.length) df pk [] Φ):W C fid nt (.region k ⟨ol⟩ true) l G nx df pk Φ:=by
 refine .mk fun t ht=>?_
 obtain ⟨N,pre,fp,v,h1,⟨hq,hq2⟩,hk,hΦ⟩:=h.st rfl t ht
 obtain ⟨h1,h2⟩:=h1 N (Nat.le_refl _)
 have h1:=h1 []
 rw [<-runP_eq C (low C N) nt ⟨ol⟩ nx ol 0 _ _ rfl,<-List.range_eq_range'] at h1
 rw [<-List.range_eq_range'] at h2
 have e1:runP C (low C N) nt ⟨ol⟩ nx (List.range (Array.mk ol).size) [] { tmps:=t,G:=G,nx:=nx+(Array.mk ol).size,defers:=df,pk:=pk }=none:=h1
 have e2:runX C (low C N) nt ⟨ol⟩ nx (List.range (Array.mk ol).size) [] { tmps:=t,G:=G,nx:=nx+(Array.mk ol).size,defers:=df,pk:=pk }=_:=h2
 have hall:(pre++[fp]).all Fp.quiet=true:=by simp [hq,hq2]
 have hwr:∀ f∈pre++[fp],f.wr=[]/\f.fz=[]:=fun f hf=>by
  have:=List.all_eq_true.1 hall f hf
  unfold Fp.quiet at this
  simpa using this
 have hm1:(pre.map (fun f=>(f,(none:Option IV)))++[(fp,some v)]).filterMap (·.2)=[v]:=by
  rw [List.filterMap_append]
  have:(pre.map (fun f=>(f,(none:Option IV)))).filterMap (·.2)=[]:=by
   rw [List.filterMap_eq_nil_iff];intro x hx;obtain ⟨f,_,rfl⟩:=List.mem_map.1 hx;rfl
  rw [this];rfl
 have hm2:(pre.map (fun f=>(f,(none:Option IV)))++[(fp,some v)]).map (·.1)=pre++[fp]:=by
  rw [List.map_append,List.map_map]
  simp [Function.comp_def]
 have hfz:fzAll (pre.map (fun f=>(f,(none:Option IV)))++[(fp,some v)])=[]:=by
  unfold fzAll
  rw [List.flatMap_eq_nil_iff]
  intro x hx
  have:x.1∈pre++[fp]:=by rw [<-hm2];exact List.mem_map.2 ⟨x,hx,rfl⟩
  exact (hwr _ this).2
 have hw2:((pre.map (fun f=>(f,(none:Option IV)))++[(fp,some v)]).all fun e=>e.1.wr.all fun q=>decide (nx<=q))=true:=by
  rw [List.all_eq_true]
  intro x hx
  have:x.1∈pre++[fp]:=by rw [<-hm2];exact List.mem_map.2 ⟨x,hx,rfl⟩
  rw [(hwr _ this).1];rfl
 have hk':(drawOK ⟨ol⟩ (pre++[fp])&&edgesOK ⟨ol⟩)=true:=hk
 rw [Bool.and_eq_true] at hk'
 refine ⟨N, .pan v ⟨(poison ⟨ol⟩ (pre.map (fun f=>(f,none))++[(fp,some v)]) ⟨t,G,nx,df,pk⟩).tmps,G,nx+ol.length,df,pk⟩,?_,hΦ _ ?_⟩
 rotate_left
 ·intro i v hv
  obtain ⟨h1,h2⟩:=keepE_ok hv
  show (if _ then _ else _)=_
  rw [if_neg]
  ·exact ht i v h1
  ·show ¬ (ol.any fun o=>o.dst==some i)=true
   rw [h2];decide
 unfold code regionA
 rw [if_pos rfl]
 simp only [e1]
 unfold failA
 simp only [e2,hm1]
 rw [if_pos (by rw [hm2,hk'.1,hk'.2,hw2];rfl)]
 unfold poison
 simp only [hfz,contains_nil,Bool.false_eq_true,if_false]
 rfl
theorem DX.op0 {l0:Env} {op:Op} {fs:List Fp} {rd:List Nat} (h:OpV C (base+i) l G nx df pk op v []) (hr:rdE l G op=some rd) (hd:Nat.ble (d+1) nt=true)
  (next:DX C nt ol l0 base (i+1) r ((d,v)::l) G nx df pk (⟨i,rd,[],[]⟩::fs) Φ):DX C nt ol l0 base i (⟨some d,op,ty,pos,af,none⟩::r) l G nx df pk fs Φ:=by
 refine .mk fun ho t ht=>?_
 obtain ⟨n,hn⟩:=h.st t ht
 have h0:(Array.mk ol)[i]? = some ⟨some d,op,ty,pos,af,none⟩:=by
  have:=congrArg (fun l=>l[0]?) ho
  simpa using this
 have h1:ol.drop (i+1)=r:=by
  have:=congrArg List.tail ho
  simpa using this
 obtain ⟨N,pre,fp,v',a1,⟨a2,a3⟩,a4,a5⟩:=next.st h1 (upd t d v) (ht.put d v)
 have hlt:d < nt:=Nat.le_of_ble_eq_true hd
 refine ⟨max n N,⟨i,rd,[],[]⟩::pre,fp,v',fun m hm=>?_,⟨by simp only [List.all_cons,a2];rfl,a3⟩,by simpa using a4,a5⟩
 obtain ⟨b1,b2⟩:=a1 m (by omega)
 have hop:=opA_mono (low_mono (C:=C) (show n<=m by omega)) hn
 constructor
 ·intro fs0
  unfold runE stepP stepD
  simp only [wantA,hop,Go.Abs.put,if_pos hlt,rdE_ok ht hr]
  exact b1 _
 ·simp only [List.length_cons,List.range'_succ,runX,List.any_nil,Bool.false_eq_true,if_false,h0,stepX,wantA,hop,Go.Abs.put,if_pos hlt,rdE_ok ht hr]
  have e:updL G []=G:=rfl
  rw [e,b2];rfl
theorem DX.callPan {l0:Env} {o:Option Nat} {f:FuncId} {ars:List Operand} {ats:Array TypeId} {vs:List AV} {ivs:List IV} {u:IV} {fs:List Fp} {rd:List Nat} [hf:FnIs C f] (ha:looks l ars=some vs) (hi:imms vs=some ivs) (hr:RetPan C f ivs u)
  (hrd:rdE l G (.call { callee := .value (.func f),args:=⟨ars⟩,argTypes:=ats })=some rd) (hk:(drawOK ⟨ol⟩ (fs.reverse++[⟨i,rd,[],[]⟩])&&edgesOK ⟨ol⟩&&restOK ⟨ol⟩ i (List.range' (i+1) r.length))=true)
  (next:∀ t',Agree t' l0->Φ (.pan u ⟨t',G,nx,df,pk⟩)):DX C nt ol l0 base i (⟨o, .call { callee := .value (.func f),args:=⟨ars⟩,argTypes:=ats },ty,pos,af,none⟩::r) l G nx df pk fs Φ:=by
 refine .mk fun ho t ht=>?_
 have h0:(Array.mk ol)[i]? = some ⟨o, .call { callee := .value (.func f),args:=⟨ars⟩,argTypes:=ats },ty,pos,af,none⟩:=by
  have:=congrArg (fun l=>l[0]?) ho
  simpa using this
 obtain ⟨n,G',nx',pk',h1,hs⟩:=hr
 rw [Bool.and_eq_true] at hk
 have hop:∀ m,n<=m->opA C (low C m) (base+i) ⟨t,G,nx,df,pk⟩ (.call { callee := .value (.func f),args:=⟨ars⟩,argTypes:=ats })=some (.pan u ⟨t,G,nx,df,pk⟩):=fun m hm=>by
  obtain rfl:=imms_eq hi
  refine opA_mono (low_mono hm) ?_
  simp only [opA,ev,aCall,fnOf,List.map_nil,List.append_nil,callA,hf.byref,Bool.false_eq_true,if_false,ht.evs ha,peeks_imm,hf.orc,h1,hs,if_true]
 refine ⟨n,[],⟨i,rd,[],[]⟩,u,fun m hm=>⟨?_,?_⟩,⟨rfl,rfl⟩,by rw [List.nil_append];exact hk.1,next⟩
 ·intro fs0
  unfold runE stepP stepD stepA
  simp only [wantA,hop m hm]
  split
  ·rename_i hc;split at hc<;>cases hc
  ·rfl
 ·have hp:panOK C ⟨t,G,nx,df,pk⟩ (.call { callee := .value (.func f),args:=⟨ars⟩,argTypes:=ats })=true:=by
   simp only [panOK,ev,fnOf,hf.byref,Bool.not_false]
  simp only [List.length_cons,List.range'_succ,runX,List.any_nil,Bool.false_eq_true,if_false,h0,stepX,wantA,hop m hm,hp,if_true,rdE_ok ht hrd,runX_rest _ _ hk.2]
  rfl
/-! ### deferred calls -/
theorem R.defer {f:Operand} {ars:List Operand} {ats:Array TypeId} {fv:AV} {vs:List AV} {g:Fn×List AV} (hf:lookO l f=some fv) (hfn:fnOf fv=some g) (ha:looks l ars=some vs) (hpk:pk.isRnd=false)
  (next:R C nt ol base (i+1) r l G nx ((fv,vs)::df) pk Φ):R C nt ol base i (⟨none, .defer { callee := .value f,args:=⟨ars⟩,argTypes:=ats },ty,pos,af,none⟩::r) l G nx df pk Φ:=by
 refine .mk fun t ht=>?_
 obtain ⟨m,o,h1,h2⟩:=next.st t ht
 refine ⟨m,o,?_,h2⟩
 unfold runL stepA
 have:opA C (low C m) (base+i) ⟨t,G,nx,df,pk⟩ (.defer { callee := .value f,args:=⟨ars⟩,argTypes:=ats })=some (.wr .undef ⟨t,G,nx,(fv,vs)::df,pk⟩):=by
  cases pk with
  |rnd=>simp [Pk.isRnd] at hpk
  |no=>simp only [opA,ht.ev hf,hfn,ht.evs ha]
  |dfr _ _=>simp only [opA,ht.ev hf,hfn,ht.evs ha]
 simp only [wantA,this,put]
 exact h1
theorem R.recover {bt:Array TypeId} {u:IV} (hd:Nat.ble (d+1) nt=true) (next:R C nt ol base (i+1) r ((d, .imm u)::l) G nx df (.dfr (some u) true) Φ) :
  R C nt ol base i (⟨some d, .call { callee := .builtin .recover,args := #[],argTypes:=bt },ty,pos,af,none⟩::r) l G nx df (.dfr (some u) false) Φ:=by
 refine .mk fun t ht=>?_
 obtain ⟨m,o,h1,h2⟩:=next.st (upd t d (.imm u)) (ht.put d _)
 refine ⟨m,o,?_,h2⟩
 have hlt:d < nt:=Nat.le_of_ble_eq_true hd
 unfold runL stepA
 simp only [wantA,opA,aBuiltin,put,if_pos hlt]
 exact h1
theorem O.recoverN {bt:Array TypeId} {x:Bool}:OpV C id l G nx df (.dfr none x) (.call { callee := .builtin .recover,args := #[],argTypes:=bt }) (.imm .niliface) []:=
 O.of fun t L ht=>by simp only [opA,aBuiltin]
def CalD (C:Cfg) (f:FuncId) (vs:List AV) (m:Option IV) (G:Nat->Obj) (nx:Nat) (Ψ:Bool->(Nat->Obj)->Nat->Prop):Prop:=∃ n v m' x G' nx',(low C n).call f vs (.dfr m false) G nx=some (.ret v G' nx', .dfr m' x)/\Ψ x G' nx'
def finDf (Ψ:Bool->(Nat->Obj)->Nat->Prop):Out->Prop
 | .norm s | .ret s=>s.defers=[]/\∃ m x,s.pk = .dfr m x/\Ψ x s.G s.nx
 |_=>False
theorem CalD.of {f:FuncId} {fn:Func} {b:Code} {vs:List AV} {m:Option IV} {Ψ:Bool->(Nat->Obj)->Nat->Prop} (hf:C.fn f=some fn) (hb:fn.body=some b) (hn:Nat.ble vs.length fn.ntmps=true) (hrs:fn.results.toList=[])
  (h:W C f fn.ntmps b (envOf 0 vs) G nx [] (.dfr m false) (finDf Ψ)) (ha:C.at f=C:=by exact rfl):CalD C f vs m G nx Ψ:=by
 obtain ⟨n,o,h1,h2⟩:=h.st _ (agree_init vs)
 have hn:=Nat.le_of_ble_eq_true hn
 have go:∀ s:St,(s.defers=[]/\∃ m x,s.pk = .dfr m x/\Ψ x s.G s.nx)->∃ v m' x,leaveA C (low C n) fn.results.toList s.defers none s=some (.ret v s.G s.nx, .dfr m' x)/\Ψ x s.G s.nx:=by
  intro s ⟨hd,m,x,hp,hΨ⟩
  exact ⟨_,m,x,by rw [hd,hrs];simp only [leaveA,resultsA,resultsL,hp];rfl,hΨ⟩
 cases o with
 |norm s=>
  obtain ⟨v,m',x,h3,h4⟩:=go s h2
  exact ⟨n+1,v,m',x,_,_,by simp only [low,ha,callF,hf,hb,if_pos hn,h1,h3],h4⟩
 |ret s=>
  obtain ⟨v,m',x,h3,h4⟩:=go s h2
  exact ⟨n+1,v,m',x,_,_,by simp only [low,ha,callF,hf,hb,if_pos hn,h1,h3],h4⟩
 |exit _ _=>exact h2.elim
 |pan _ _=>exact h2.elim
def finD (C:Cfg) (rs:List ResultVar) (Ψ:AV->(Nat->Obj)->Nat->Prop):Out->Prop
 | .norm s | .ret s=>s.pk = .no/\∃ g ars k cap,s.defers=[(g,ars)]/\fnOf g=some (.func k,cap)/\CalD C k (ars++cap) none s.G s.nx fun _ G nx=>∃ v,resultsA C ⟨s.tmps,G,nx,[(g,ars)], .no⟩ rs=some v/\Ψ v G nx
 | .pan u s=>s.pk = .no/\∃ g ars k cap,s.defers=[(g,ars)]/\fnOf g=some (.func k,cap)/\CalD C k (ars++cap) (some u) s.G s.nx fun x G nx=>x=true/\∃ v,resultsA C ⟨s.tmps,G,nx,[(g,ars)], .no⟩ rs=some v/\Ψ v G nx
 | .exit _ _=>False
theorem Cal.ofD {f:FuncId} {fn:Func} {b:Code} {vs:List AV} {Ψ:AV->(Nat->Obj)->Nat->Prop} (hf:C.fn f=some fn) (hb:fn.body=some b) (hn:Nat.ble vs.length fn.ntmps=true)
  (h:W C f fn.ntmps b (envOf 0 vs) G nx [] .no (finD C fn.results.toList Ψ)) (ha:C.at f=C:=by exact rfl):Cal C f vs G nx Ψ:=by
 obtain ⟨n,o,h1,h2⟩:=h.st _ (agree_init vs)
 have hn:=Nat.le_of_ble_eq_true hn
 have up:∀ (m:Option IV) (s:St) (g:AV) (ars:List AV) (k:FuncId) (cap:List AV) (n2:Nat) (v':AV) (m':Option IV) (x:Bool) (G':Nat->Obj) (nx':Nat) (v:AV),s.pk = .no->s.defers=[(g,ars)]->fnOf g=some (.func k,cap)->(low C n2).call k (ars++cap) (.dfr m false) s.G s.nx=some (.ret v' G' nx', .dfr m' x)->(m=none\/x=true) ->
   resultsA C ⟨s.tmps,G',nx',[(g,ars)], .no⟩ fn.results.toList=some v->leaveA C (low C (max n n2)) fn.results.toList s.defers m s=some (.ret v G' nx', .no):=by
  intro m s g ars k cap n2 v' m' x G' nx' v hp hd hfn hc hm hv
  obtain ⟨t,G0,nx0,df0,pk0⟩:=s
  simp only at hp hd hc hv
  subst hp hd
  have hc':=(low_mono (C:=C) (Nat.le_max_right n n2)).1 _ _ _ _ _ _ hc
  have hmm:(if x=true then none else m)=none:=by rcases hm with rfl|rfl<;>simp
  simp only [leaveA,hfn,hc',hmm,hv]
 cases o with
 |norm s=>
  obtain ⟨hp,g,ars,k,cap,hd,hfn,n2,v',m',x,G',nx',hc,v,hv,hΨ⟩:=h2
  refine ⟨max n n2+1,v,G',nx',?_,hΨ⟩
  simp only [low,ha,callF,hf,hb,if_pos hn,code_mono (low_mono (Nat.le_max_left n n2)) (Nat.le_max_left n n2) _ _ _ h1]
  exact up none s g ars k cap n2 v' m' x G' nx' v hp hd hfn hc (.inl rfl) hv
 |ret s=>
  obtain ⟨hp,g,ars,k,cap,hd,hfn,n2,v',m',x,G',nx',hc,v,hv,hΨ⟩:=h2
  refine ⟨max n n2+1,v,G',nx',?_,hΨ⟩
  simp only [low,ha,callF,hf,hb,if_pos hn,code_mono (low_mono (Nat.le_max_left n n2)) (Nat.le_max_left n n2) _ _ _ h1]
  exact up none s g ars k cap n2 v' m' x G' nx' v hp hd hfn hc (.inl rfl) hv
 |exit _ _=>exact h2.elim
 |pan u s=>
  obtain ⟨hp,g,ars,k,cap,hd,hfn,n2,v',m',x,G',nx',hc,hx,v,hv,hΨ⟩:=h2
  refine ⟨max n n2+1,v,G',nx',?_,hΨ⟩
  simp only [low,ha,callF,hf,hb,if_pos hn,code_mono (low_mono (Nat.le_max_left n n2)) (Nat.le_max_left n n2) _ _ _ h1]
  exact up (some u) s g ars k cap n2 v' m' x G' nx' v hp hd hfn hc (.inr hx) hv
theorem Cal.ret {f:FuncId} {ivs:List IV} {x:IV} (h:Cal C f (ivs.map .imm) (fun _ => .gone) 0 fun v G _=>∃ ids,Go.Abs.peek G pkDepth v=some (x,ids)):Ret C f ivs x:=by
 obtain ⟨n,v,G',nx',h1,ids,h2⟩:=h
 exact ⟨n,v,G',nx', .no,ids,h1,h2⟩
/-! ### closures, maps -/
theorem O.nilP {x:Operand} {o off:Nat} (hx:lookO l x=some (.ptr o off)):OpV C id l G nx df pk (.nilCheck x) (.ptr o off) []:=O.of fun t L ht=>by simp only [opA,ht.ev hx,aNilCheck]
theorem O.nilF {x:Operand} {cs:List IV} {off:Nat} (hx:lookO l x=some (.imm (.fptr cs off))):OpV C id l G nx df pk (.nilCheck x) (.imm (.fptr cs off)) []:=O.of fun t L ht=>by simp only [opA,ht.ev hx,aNilCheck]
theorem O.makeFunc {f:Fn} {cap:List Operand} {first:Array Operand} {vs:List AV} (h0:first.size=0) (ha:looks l cap=some vs) (hv:mkFn f vs=v):OpV C id l G nx df pk (.makeFunc f first ⟨cap⟩) v []:=O.of fun t L ht=>by simp only [opA,ht.evs ha,if_pos h0,hv]
theorem O.makeMap {t:TypeId}:OpV C id l G nx df pk (.makeMap t none) (.map id) [(id, .set (.mp [] [] false))]:=O.of fun t L ht=>by simp only [opA]
theorem O.extrT {x:Operand} {ix:Nat} {vs:List AV} {u:AV} (hx:lookO l x=some (.tup vs)) (hu:vs[ix]? = some u):OpV C id l G nx df pk (.extract x ix) u []:=O.of fun t L ht=>by simp only [opA,ht.ev hx,aExtract,hu]
theorem O.lookT {t kt e:TypeId} {m x:Operand} {k kk:TyI} {key:IV} {ks:List IV} {vs:List AV} {ok:Bool} {mv u w:AV} {j:Nat} [hk:TyIs C t k] (ht:k.d = .mp kt e) (hkk:TyIs C kt kk) (hm:lookO l m=some mv) (hx:lookO l x=some (.imm key)) (hkv:mapKV G mv=some (ks,vs)) (ho:keyOk kk.d key=true)
  (hj:keyFind key ks=some (some j)) (hu:vs[j]? = some u) (hw:(if ok then mkTup [u, .imm (.bool true)] else u)=w):OpV C id l G nx df pk (.lookup t m x ok) w []:=by
 refine O.of fun t' L hA=>?_
 simp only [opA,hA.ev hm,hA.ev hx,lookA,hk.is,ht,hkv,hkk.is,if_pos ho,hj,hu,hw]
theorem O.lookN {t kt e:TypeId} {m x:Operand} {k kk ke:TyI} {key:IV} {ks:List IV} {vs:List AV} {ok:Bool} {mv w:AV} [hk:TyIs C t k] (ht:k.d = .mp kt e) (hkk:TyIs C kt kk) (hke:TyIs C e ke) (hm:lookO l m=some mv) (hx:lookO l x=some (.imm key)) (hkv:mapKV G mv=some (ks,vs)) (ho:keyOk kk.d key=true)
  (hj:keyFind key ks=some none) (hw:(if ok then mkTup [ke.zero, .imm (.bool false)] else ke.zero)=w):OpV C id l G nx df pk (.lookup t m x ok) w []:=by
 refine O.of fun t' L hA=>?_
 simp only [opA,hA.ev hm,hA.ev hx,lookA,hk.is,ht,hkv,hkk.is,if_pos ho,hj,hke.is,hw]
theorem O.mapNew {t kt e:TypeId} {m x y:Operand} {k kk:TyI} {key:IV} {ks:List IV} {vs:List AV} {q:Nat} [hk:TyIs C t k] (ht:k.d = .mp kt e) (hkk:TyIs C kt kk) (hm:lookO l m=some (.map q)) (hx:lookO l x=some (.imm key)) (hy:lookO l y=some v) (hG:G q = .mp ks vs false) (ho:keyOk kk.d key=true)
  (hj:keyFind key ks=some none):OpV C id l G nx df pk (.mapUpdate t m x y) .undef [(q, .set (.mp (ks++[key]) (vs++[v]) false))]:=by
 refine O.of fun t' L hA=>?_
 simp only [opA,hA.ev hm,hA.ev hx,hA.ev hy,aMapUpdate,hk.is,ht,hG,hkk.is,if_pos ho,hj]
theorem O.typeIs {t st:TypeId} {x:Operand} {k:TyI} {u:IV} [hk:TyIs C t k] (hx:lookO l x=some (.imm (.iface t u))) (hd:k.d ≠ .ifc/\k.d ≠ .oth):OpV C id l G nx df pk (.typeAssert x st t true) (.imm (.tup [u, .bool true])) []:=by
 refine O.of fun t' L hA=>?_
 simp only [opA,hA.ev hx,aTypeAssert,hk.is]
 split
 ·rename_i h;exact (hd.1 h).elim
 ·rename_i h;exact (hd.2 h).elim
 ·simp
end Go.Abs

/- The abstract interpreter: a logic of what code comes to: ends of functions that may panic; what memory holds. -/
namespace Go.Abs
variable {C:Cfg} {fid nt:Nat} {l:Env} {G G':Nat->Obj} {nx:Nat} {df:List (AV×List AV)} {pk:Pk} {Φ Φ':Out->Prop} {a b:Code} {ol r:List Oper} {base i d:Nat} {ty:TypeId} {pos:String} {af:Array Edge} {v:AV} {id:Nat}
theorem at_upd {q:Nat} {x:Obj} (h:G q=x:=by (repeat (first|exact upd_same _ _ _|assumption|(refine (upd_ne _ _ _ _ (by omega)).trans ?_)|exact rfl))):G q=x:=h
def resV:List AV->AV
 |[v]=>v
 |l=>mkTup l
theorem res_ok {s:St} (h:Agree s.tmps l) {rs:List ResultVar} {vs:List AV} (hr:resE l rs=some vs):resultsA C s rs=some (resV vs):=by
 simp only [resultsA,resE_ok h hr]
 match vs with
 |[]=>rfl
 |[v]=>rfl
 |_::_::_=>rfl
theorem W.skipFinP {rs:List ResultVar} {vs:List AV} {Ψ:CR->Prop} (hv:resE l rs=some vs) (h:Ψ (.ret (resV vs) G nx)):W C fid nt .skip l G nx [] .no (finP C rs Ψ):=
 .skip fun t ht=>⟨rfl,rfl,_,res_ok (s:=⟨t,G,nx,[], .no⟩) ht hv,h⟩
theorem W.retFinP {rs:List ResultVar} {vs:List AV} {Ψ:CR->Prop} (hv:resE l rs=some vs) (h:Ψ (.ret (resV vs) G nx)):W C fid nt .ret l G nx [] .no (finP C rs Ψ):=
 .ret fun t ht=>⟨rfl,rfl,_,res_ok (s:=⟨t,G,nx,[], .no⟩) ht hv,h⟩
class Len (l:List Oper) (n:outParam Nat):Prop where
 eq:l.length=n
instance len0:Len [] 0:=⟨rfl⟩
instance len1 {x:Oper} {l:List Oper} {n:Nat} [h:Len l n]:Len (x::l) (n+1):=⟨by rw [List.length_cons,h.eq]⟩
theorem W.regionN {k:Nat} {n:Nat} [hn:Len ol n] (h:R C nt ol nx 0 ol l G (nx+n) df pk Φ):W C fid nt (.region k ⟨ol⟩ false) l G nx df pk Φ:=W.region (by rw [hn.eq];exact h)
theorem W.drawN {k:Nat} {n:Nat} [hn:Len ol n] (h:D C nt ol nx 0 ol l G (nx+n) df pk [] Φ):W C fid nt (.region k ⟨ol⟩ true) l G nx df pk Φ:=W.draw (by rw [hn.eq];exact h)
theorem W.drawXN {k:Nat} {n:Nat} [hn:Len ol n] (h:DX C nt ol (keepE ol l) nx 0 ol l G (nx+n) df pk [] Φ):W C fid nt (.region k ⟨ol⟩ true) l G nx df pk Φ:=W.drawX (by rw [hn.eq];exact h)
class PanTo (Φ:Out->Prop) (pk:outParam Pk) (Ψ:outParam (CR->Prop)):Prop where
 ok:∀ u t G nx,Ψ (.pan u G nx)->Φ (.pan u ⟨t,G,nx,[],pk⟩)
instance panToFin {rs:List ResultVar} {Ψ:CR->Prop}:PanTo (finP C rs Ψ) .no Ψ:=⟨fun _ _ _ _ h=>⟨rfl,rfl,h⟩⟩
instance panToAft {Ψ:CR->Prop} [h:PanTo Φ pk Ψ]:PanTo (aft C fid nt b Φ) pk Ψ:=⟨h.ok⟩
instance panToBlk {Ψ:CR->Prop} [h:PanTo Φ pk Ψ]:PanTo (blk' id Φ) pk Ψ:=⟨h.ok⟩
instance panToLop {X:Type} {le:X->Env} {Ge:X->Nat->(Nat->Obj)->Prop} {mu:X->Nat} {pk':Pk} {x:X} {Ψ:CR->Prop} [h:PanTo Φ pk Ψ]:PanTo (lop le Ge mu df pk' x Φ) pk Ψ:=⟨h.ok⟩
theorem panTo {u:IV} {Ψ:CR->Prop} [hp:PanTo Φ pk Ψ] (h:Ψ (.pan u G nx)):∀ t,Agree t l->Φ (.pan u ⟨t,G,nx,[],pk⟩):=fun t _=>hp.ok u t G nx h
noncomputable def panOf (C:Cfg) (n:Nat) (f:FuncId) (ivs:List IV):Option IV:=match (low C n).call f (ivs.map .imm) .no (fun _ => .gone) 0 with
 |some (.pan v _ _,_)=>some v
 |_=>none
theorem RetPan.reckon {n:Nat} {f:FuncId} {ivs:List IV} {v:IV} {C:Cfg} (h:panOf C n f ivs=some v) (hs:v.scalar=true):RetPan C f ivs v:=by
 unfold panOf at h
 split at h
 ·rename_i u G' nx' pk' hc
  cases h
  exact ⟨n,G',nx',pk',hc,hs⟩
 ·cases h
/-! ### boxes that are data -/
theorem O.fieldF {x:Operand} {t:TypeId} {f:Nat} {k:TyI} {fs:List (Nat×Nat)} {cs:List IV} {off0 off sz:Nat} [hk:TyIs C t k] (hd:k.d = .st fs) (hf:fs[f]? = some (off,sz)) (hs:Nat.beq sz 0=false) (hx:lookO l x=some (.imm (.fptr cs off0))) :
  OpV C id l G nx df pk (.fieldAddr t x f) (.imm (.fptr cs (off0+off))) []:=
 O.of fun t L hA=>by
  have:¬ sz=0:=fun e=>by subst e;cases hs
  simp only [opA,hA.ev hx,aFieldAddr,hk.is,hd,hf,if_neg this,moveAt]
theorem O.loadF {x:Operand} {t:TypeId} {k:TyI} {cs:List IV} {off:Nat} {u:IV} [hk:TyIs C t k] (hg:k.d.isAgg=false) (hs:k.sz=1) (hx:lookO l x=some (.imm (.fptr cs off))) (hu:cs[off]? = some u) :
  OpV C id l G nx df pk (.load t x) (.imm u) []:=
 O.of fun t L hA=>by simp only [opA,hA.ev hx,aLoad,hk.is,hs,readAt,sub_one hu,Option.map_some,List.map_cons,List.map_nil,hg,Bool.false_eq_true,if_false]
theorem O.loadFA {x:Operand} {t:TypeId} {k:TyI} {cs us:List IV} {off:Nat} [hk:TyIs C t k] (hg:k.d.isAgg=true) (hx:lookO l x=some (.imm (.fptr cs off))) (hu:Go.Abs.sub cs off k.sz=some us) :
  OpV C id l G nx df pk (.load t x) (.imm (.agg us)) []:=
 O.of fun t L hA=>by simp only [opA,hA.ev hx,aLoad,hk.is,readAt,hu,Option.map_some,hg,if_true,mkAgg_imm]
def lookIs (kt e:Option TyI) (kv:Option (List IV×List AV)) (key:IV) (ok:Bool) (w:AV):Prop:=
 match kt,e,kv with
 |some kk,some ke,some (ks,vs)=>keyOk kk.d key=true/\((∃ j u,keyFind key ks=some (some j)/\vs[j]? = some u/\(if ok then mkTup [u, .imm (.bool true)] else u)=w)\/(keyFind key ks=some none/\(if ok then mkTup [ke.zero, .imm (.bool false)] else ke.zero)=w))
 |_,_,_=>False
theorem O.lookA {t kt e:TypeId} {m x:Operand} {k kk ke:TyI} {key:IV} {ok:Bool} {mv w:AV} [hk:TyIs C t k] (ht:k.d = .mp kt e) (hkk:TyIs C kt kk) (hke:TyIs C e ke) (hm:lookO l m=some mv) (hx:lookO l x=some (.imm key)) {kv:Option (List IV×List AV)} (hkv:mapKV G mv=kv) (h:lookIs (some kk) (some ke) kv key ok w) :
  OpV C id l G nx df pk (.lookup t m x ok) w []:=by
 match kv,h with
 |some (ks,vs),⟨h1, .inl ⟨j,u,h2,h3,h4⟩⟩=>exact O.lookT ht hkk hm hx hkv h1 h2 h3 h4
 |some (ks,vs),⟨h1, .inr ⟨h2,h4⟩⟩=>exact O.lookN ht hkk hke hm hx hkv h1 h2 h4
/-! ### regions that draw their order: where addresses are not known -/
def nrm (base q:Nat):Nat:=if q < base then 0 else q-base+1
theorem nrm_lt {base q:Nat} (h:q < base):nrm base q=0:=if_pos h
theorem nrm_ge (base k:Nat):nrm base (base+k)=k+1:=by
 unfold nrm;rw [if_neg (by omega)];omega
def Fp.nrm (base:Nat) (f:Fp):Fp:=⟨f.i,f.rd.map (Go.Abs.nrm base),f.wr.map (Go.Abs.nrm base),f.fz.map (Go.Abs.nrm base)⟩
def Fp.hi (base:Nat) (f:Fp):Bool:=f.wr.all fun w=>decide (base<=w)
theorem nrm_mem {base w:Nat} (hw:base<=w) (l:List Nat):(l.map (Go.Abs.nrm base)).contains (Go.Abs.nrm base w)=l.contains w:=by
 induction l with
 |nil=>rfl
 |cons x r ih=>
  simp only [List.map_cons,List.contains_cons,ih]
  congr 1
  unfold Go.Abs.nrm
  rw [if_neg (show ¬ w < base by omega)]
  split
  ·have:¬ w=x:=by omega
   simp [this]
  ·by_cases h:w=x
   ·simp [h]
   ·have h2:¬ w-base+1=x-base+1:=by omega
    rw [beq_eq_false_iff_ne.2 h,beq_eq_false_iff_ne.2 h2]
theorem any_nrm {base:Nat} (f:Nat->Bool) (g:Nat->Bool) (h:∀ w,base<=w->g (Go.Abs.nrm base w)=f w):∀ l:List Nat,(l.all fun w=>decide (base<=w))=true->(l.map (Go.Abs.nrm base)).any g=l.any f
 |[],_=>rfl
 |w::r,hl=>by
  simp only [List.all_cons,Bool.and_eq_true,decide_eq_true_eq] at hl
  simp only [List.map_cons,List.any_cons,h w hl.1,any_nrm f g h r hl.2]
theorem clash_nrm {base:Nat} {a b:Fp} (ha:a.hi base=true) (hb:b.hi base=true):clash (a.nrm base) (b.nrm base)=clash a b:=by
 unfold clash
 congr 1
 ·exact any_nrm _ _ (fun w hw=>by simp only [Fp.nrm,nrm_mem hw]) _ ha
 ·exact any_nrm _ _ (fun w hw=>by simp only [Fp.nrm,nrm_mem hw]) _ hb
theorem clearOf_nrm {ops:Array Oper} {base:Nat} {a:Fp} (ha:a.hi base=true):∀ fs:List Fp,fs.all (Fp.hi base)=true->clearOf ops (a.nrm base) (fs.map (Fp.nrm base))=clearOf ops a fs
 |[],_=>rfl
 |b::r,h=>by
  simp only [List.all_cons,Bool.and_eq_true] at h
  simp only [List.map_cons,clearOf,clash_nrm ha h.1,clearOf_nrm ha r h.2]
  rfl
theorem drawOK_nrm {ops:Array Oper} {base:Nat}:∀ fs:List Fp,fs.all (Fp.hi base)=true->drawOK ops (fs.map (Fp.nrm base))=drawOK ops fs
 |[],_=>rfl
 |a::r,h=>by
  simp only [List.all_cons,Bool.and_eq_true] at h
  simp only [List.map_cons,drawOK,clearOf_nrm h.1 r h.2,drawOK_nrm r h.2]
theorem D.doneN {fs:List Fp} (hh:fs.reverse.all (Fp.hi base)=true) (hk:(drawOK ⟨ol⟩ (fs.reverse.map (Fp.nrm base))&&edgesOK ⟨ol⟩)=true) (h:W C fid nt b l G nx df pk Φ):D C nt ol base i [] l G nx df pk fs (aft C fid nt b Φ):=
 D.done (by rw [<-drawOK_nrm _ hh];exact hk) h
theorem peek_mp {q:Nat} {ks vs:List IV} {fr:Bool} (h:G q = .mp ks (vs.map .imm) fr):∃ ids,Go.Abs.peek G pkDepth (.map q)=some (.fmp ks vs,ids):=by
 refine ⟨[q],?_⟩
 have hp:∀ x,Go.Abs.peek G 99 (.imm x)=some (x,[]):=fun x=>rfl
 show Go.Abs.peek G (99+1) _=_
 unfold Go.Abs.peek
 rw [h]
 dsimp only
 rw [peekL_imm hp]
theorem O.callV {f:Operand} {k:FuncId} {ars:List Operand} {ats:Array TypeId} {vs:List AV} {ivs cap:List IV} {x:IV} (hf:lookO l f=some (.imm (.fn (.func k) cap))) (hk:FnIs C k) (ha:looks l ars=some vs) (hi:imms vs=some ivs) (hr:Ret C k (ivs++cap) x) :
  OpV C id l G nx df pk (.call { callee := .value f,args:=⟨ars⟩,argTypes:=ats }) (.imm x) []:=by
 obtain ⟨n,v,G',nx',pk',ids,h1,h2⟩:=hr
 refine ⟨fun t ht=>⟨n,?_⟩⟩
 have e:ivs.map AV.imm++cap.map AV.imm=(ivs++cap).map AV.imm:=by simp
 simp only [opA,ht.ev hf,aCall,fnOf,callA,hk.byref,Bool.false_eq_true,if_false,ht.evs ha,imms_eq hi,e,peeks_imm,hk.orc,h1,h2,give_nil]
theorem D.auto {fs:List Fp} (h:W C fid nt b l G nx df pk Φ) (hh:fs.reverse.all (Fp.hi base)=true:=by simp [Fp.hi])
  (hk:(drawOK ⟨ol⟩ (fs.reverse.map (Fp.nrm base))&&edgesOK ⟨ol⟩)=true:=by
   simp (disch:=omega) only [List.reverse_cons,List.reverse_nil,List.nil_append,List.cons_append,List.map_cons,List.map_nil,Fp.nrm,direct,nrm_lt,nrm_ge]
   kernel_rfl):D C nt ol base i [] l G nx df pk fs (aft C fid nt b Φ):=D.doneN hh hk h
theorem O.buildX {t e:TypeId} {n:Nat} {parts:List (Nat×Operand)} {k ke:TyI} {xs:List AV} [hk:TyIs C t k] (ht:k.d = .sl e) (he:TyIs C e ke) (hp:looks l (parts.map (·.2))=some xs) (hi:parts.map (·.1)=List.range n)
  (hn:n*ke.sz<=4096) (hz:ke.zero.fits ke.sz=true) (hx:xs.all (AV.fits ke.sz)=true) (hs:0 < ke.sz) :
  OpV C id l G nx df pk (.buildSlice t n ⟨parts⟩) (.row id n) [(id, .set (.row e ke.sz xs false))]:=O.buildS ht hp hi hn hz hx hs
theorem elems_row {o n et sz:Nat} {xs:List AV} {fr:Bool} (h:G o = .row et sz xs fr) (hn:xs.length=n):Go.Abs.elems G (.row o n)=some xs:=by
 simp [Go.Abs.elems,h,hn]
theorem Own.fr {e sz lo hi hi':Nat} {xs:List IV} {G G':Nat->Obj} {v:AV} (h:Own e sz lo hi xs G v) (hh:hi<=hi':=by omega) (hG:∀ o,lo<=o->o < hi->G' o=G o:=by intro o _ _;exact at_upd):Own e sz lo hi' xs G' v:=h.frame hh hG
theorem R.app1 {x y:Operand} {t u e e' lo hi q sz sz':Nat} {k ke:TyI} {xs:List IV} {z:IV} {fr:Bool} {G0:Nat->Obj} (ho:Own e sz lo hi xs G0 v) (hq:G q = .row e' sz' [.imm z] fr) [hk:TyIs C t k] (hm:xs.length+1<=most)
  (next:∀ v' G',Own e sz lo nx (xs++[z]) G' v'->(∀ o,o < lo->G' o=G o)->R C nt ol base (i+1) r ((d,v')::l) G' nx df pk Φ)
  (ht:k.d = .sl e:=by exact rfl) (he:TyIs C e ke:=by infer_instance) (hsz:sz=ke.sz:=by exact rfl) (hu:Nat.beq t u=true:=by exact rfl) (hx:lookO l x=some v:=by exact rfl) (hy:lookO l y=some (.row q 1):=by exact rfl)
  (hG:∀ o,lo<=o->o < hi->G o=G0 o:=by intro o _ _;exact at_upd) (hf:(AV.imm z).fits sz=true:=by first|exact rfl|assumption) (hs:0 < ke.sz:=by decide) (hb:ke.bytes<=4096:=by decide) (hz:ke.zero.fits ke.sz=true:=by exact rfl) (hid:lo<=base+i/\base+i < nx:=by omega)
  (hhi:hi<=nx:=by omega) (hd:Nat.ble (d+1) nt=true:=by exact rfl) :
  R C nt ol base i (⟨some d, .call { callee := .builtin .append,args := #[x,y],argTypes := #[t,u] },ty,pos,af,none⟩::r) l G nx df pk Φ:=by
 subst hsz
 exact R.appOwn (ys:=[z]) ht hu hx (ho.frame hhi hG) hy (elems_row hq rfl) hs hb hz (fun y hy=>by rw [List.mem_singleton.1 hy];exact hf) hm hid hd next
def astQ (C:Cfg) (q:Nat) (lp0 lp1:Obj) (fid nt:Nat) (body:Code) (Φ:Out->Prop):Out->Prop
 | .norm s=>s.G q=lp0/\Wst C fid nt body { s with G:=upd s.G q lp1 } Φ
 |_=>False
theorem R.doneAstQ {q:Nat} {lp0 lp1:Obj} {body:Code} (hG:G q=lp0) (h:W C fid nt body l (upd G q lp1) nx df pk Φ):R C nt ol base i [] l G nx df pk (astQ C q lp0 lp1 fid nt body Φ):=
 .mk fun t ht=>⟨0,_,rfl,hG,h.st t ht⟩
/-! ### interfaces, and functions with one deferred call -/
theorem O.ifcNil {t:TypeId} {x y:Operand} {t2:TypeId} {k:TyI} [hk:TyIs C t k] (hb:k.d = .ifc) (hx:lookO l x=some (.imm .niliface)) (hy:lookO l y=some (.imm .niliface)) (hc:(isNilC x||isNilC y)=true):OpV C id l G nx df pk (.binOp .eql t x y t2) (.imm (.bool true)) []:=
 O.of fun t L ht=>by simp only [opA,ht.ev hx,ht.ev hy,binA,eqAV,hk.is,hb,eqOp,hc,if_true,Option.map_some]
theorem O.ifcSome {t:TypeId} {x y:Operand} {t2 tt:TypeId} {u:IV} {k:TyI} [hk:TyIs C t k] (hb:k.d = .ifc) (hx:lookO l x=some (.imm (.iface tt u))) (hy:lookO l y=some (.imm .niliface)):OpV C id l G nx df pk (.binOp .eql t x y t2) (.imm (.bool false)) []:=
 O.of fun t L ht=>by simp only [opA,ht.ev hx,ht.ev hy,binA,eqAV,hk.is,hb,eqOp,Option.map_some]
theorem W.skipFinDf {m:Option IV} {x:Bool} {Ψ:Bool->(Nat->Obj)->Nat->Prop} (h:Ψ x G nx):W C fid nt .skip l G nx [] (.dfr m x) (finDf Ψ) := .skip fun _ _=>⟨rfl,m,x,rfl,h⟩
theorem res_cell {a:Nat} {t:TypeId} {o:Nat} {k:TyI} {u:AV} {fr:Bool} {s:St} [hk:TyIs C t k] (hg:k.d.isAgg=false) (hs:k.sz=1) (ha:s.tmps a = .ptr o 0) (hG:s.G o = .box [u] fr):resultsA C s [.cell a t]=some u:=by
 simp [resultsA,resultsL,resultA,ha,aLoad,hk.is,hg,hs,readAt,hG,Go.Abs.sub]
theorem W.retFinD {g:AV} {ars cap:List AV} {kf:FuncId} {a:Nat} {t:TypeId} {o:Nat} {k:TyI} {Ψ:AV->(Nat->Obj)->Nat->Prop} [hk:TyIs C t k] (hg:k.d.isAgg=false) (hs:k.sz=1) (ha:look l a=some (.ptr o 0)) (hf:fnOf g=some (.func kf,cap))
  (hc:CalD C kf (ars++cap) none G nx fun _ G' nx'=>∃ u fr,G' o = .box [u] fr/\Ψ u G' nx'):W C fid nt .ret l G nx [(g,ars)] .no (finD C [.cell a t] Ψ) := .ret fun t' ht=>by
 refine ⟨rfl,g,ars,kf,cap,rfl,hf,?_⟩
 obtain ⟨n,v,m',x,G',nx',h1,u,fr,h2,h3⟩:=hc
 exact ⟨n,v,m',x,G',nx',h1,u,res_cell hg hs (ht a _ ha) h2,h3⟩
theorem panD {g:AV} {ars cap:List AV} {kf:FuncId} {a:Nat} {t:TypeId} {o:Nat} {k:TyI} {w:IV} {Ψ:AV->(Nat->Obj)->Nat->Prop} [hk:TyIs C t k] (hg:k.d.isAgg=false) (hs:k.sz=1) (ha:look l a=some (.ptr o 0)) (hf:fnOf g=some (.func kf,cap))
  (hc:CalD C kf (ars++cap) (some w) G nx fun x G' nx'=>x=true/\∃ u fr,G' o = .box [u] fr/\Ψ u G' nx'):∀ t',Agree t' l->finD C [.cell a t] Ψ (.pan w ⟨t',G,nx,[(g,ars)], .no⟩):=fun t' ht=>by
 refine ⟨rfl,g,ars,kf,cap,rfl,hf,?_⟩
 obtain ⟨n,v,m',x,G',nx',h1,h0,u,fr,h2,h3⟩:=hc
 exact ⟨n,v,m',x,G',nx',h1,h0,u,res_cell hg hs (ht a _ ha) h2,h3⟩
theorem peek_box {q off:Nat} {cs:List IV} {fr:Bool} (h:G q = .box (cs.map .imm) fr):Go.Abs.peek G pkDepth (.ptr q off)=some (.fptr cs off,[q]):=by
 have hp:∀ x,Go.Abs.peek G 99 (.imm x)=some (x,[]):=fun x=>rfl
 show Go.Abs.peek G (99+1) _=_
 unfold Go.Abs.peek
 rw [h]
 dsimp only
 rw [peekL_imm hp]
theorem peeks_cons {v:AV} {x:IV} {ids:List Nat} {vs:List IV} (h:Go.Abs.peek G pkDepth v=some (x,ids)):peeks G (v::vs.map .imm)=some (x::vs,ids):=by
 have:=peeks_imm G vs
 unfold peeks at this ⊢
 rw [peekL,h,this]
 simp
theorem O.callFz {f:FuncId} {ar:List Operand} {ats:Array TypeId} {vs:List AV} {ivs:List IV} {ids:List Nat} {x:IV} [hf:FnIs C f] (ha:looks l ar=some vs) (hi:peeks G vs=some (ivs,ids)) (hr:Ret C f ivs x) (hx:x.scalar=false) :
  OpV C id l G nx df pk (.call { callee := .value (.func f),args:=⟨ar⟩,argTypes:=ats }) (.imm x) (frz ids):=by
 obtain ⟨n,v,G',nx',pk',ids,h1,h2⟩:=hr
 refine ⟨fun t ht=>⟨n,?_⟩⟩
 simp only [opA,ev,aCall,fnOf,List.map_nil,List.append_nil,callA,hf.byref,Bool.false_eq_true,if_false,ht.evs ha,hi,hf.orc,h1,h2,hx,give]
theorem frz1 {q:Nat} {cs:List AV} {fr:Bool} (h:G q = .box cs fr):updL G (frz [q]) q = .box cs true:=by
 show upd G q (Obj.freeze (G q)) q=_
 rw [upd_same,h];rfl
theorem frz1_ne {q o:Nat} (h:o≠q):updL G (frz [q]) o=G o:=upd_ne _ _ _ _ h
/-! ### pointers, and nil -/
def isNilp (x y:AV):Option Bool:=match x,y with
 | .imm .nilp, .imm .nilp=>some true
 | .imm .nilp, .ptr _ _ | .ptr _ _, .imm .nilp | .imm .nilp, .imm (.fptr _ _) | .imm (.fptr _ _), .imm .nilp=>some false
 |_,_=>none
theorem isNilp_ok {x y:AV} {b:Bool} (h:isNilp x y=some b) (c:Bool):eqOp c .ptr x y=some b:=by
 unfold isNilp at h
 unfold eqOp
 split at h<;>cases h<;>rfl
theorem isNilp_notStr {x y:AV} {b:Bool} (h:isNilp x y=some b) (op:BinOp) (c:Bool) (t:TypeId):binA C op c t x y=match op with
   | .eql=>(eqAV C c t x y).map fun b => .imm (.bool b)
   | .neq=>(eqAV C c t x y).map fun b => .imm (.bool !b)
   |_=>none:=by
 unfold isNilp at h
 unfold binA
 split at h<;>cases h<;>rfl
theorem O.ptrEq {t:TypeId} {x y:Operand} {t2:TypeId} {k:TyI} {u w:AV} {b:Bool} [hk:TyIs C t k] (hb:k.d = .ptr) (hx:lookO l x=some u) (hy:lookO l y=some w) (h:isNilp u w=some b):OpV C id l G nx df pk (.binOp .eql t x y t2) (.imm (.bool b)) []:=
 O.of fun t' L ht=>by simp only [opA,ht.ev hx,ht.ev hy,isNilp_notStr h,eqAV,hk.is,hb,isNilp_ok h,Option.map_some]
theorem O.ptrNe {t:TypeId} {x y:Operand} {t2:TypeId} {k:TyI} {u w:AV} {b:Bool} [hk:TyIs C t k] (hb:k.d = .ptr) (hx:lookO l x=some u) (hy:lookO l y=some w) (h:isNilp u w=some b):OpV C id l G nx df pk (.binOp .neq t x y t2) (.imm (.bool !b)) []:=
 O.of fun t' L ht=>by simp only [opA,ht.ev hx,ht.ev hy,isNilp_notStr h,eqAV,hk.is,hb,isNilp_ok h,Option.map_some]
end Go.Abs

/- The abstract interpreter: a logic of what code comes to: slices that grow where the order is drawn; structs that hold slices. -/
namespace Go.Abs
variable {C:Cfg} {fid nt:Nat} {l:Env} {G G':Nat->Obj} {nx:Nat} {df:List (AV×List AV)} {pk:Pk} {Φ Φ':Out->Prop} {a b:Code} {ol r:List Oper} {base i d:Nat} {ty:TypeId} {pos:String} {af:Array Edge} {v:AV} {id:Nat}
theorem O.max {x y:Operand} {t u:TypeId} {m n:Int} {k:IntKind} (hx:lookO l x=some (.imm (.int k m))) (hy:lookO l y=some (.imm (.int k n))):OpV C id l G nx df pk (.call { callee := .builtin .max,args := #[x,y],argTypes := #[t,u] }) (.imm (.int k (if n > m then n else m))) []:=
 O.of fun t' L hA=>by simp only [opA,List.map_cons,List.map_nil,hA.ev hx,hA.ev hy,aBuiltin]
theorem D.app1 {x y:Operand} {t u e e' lo hi q sz sz':Nat} {k ke:TyI} {xs:List IV} {z:IV} {fr:Bool} {fs:List Fp} {G0:Nat->Obj} (ho:Own e sz lo hi xs G0 v) (hq:G q = .row e' sz' [.imm z] fr) [hk:TyIs C t k] (hm:xs.length+1<=most)
  (next:∀ v' G' rd o',Own e sz lo nx (xs++[z]) G' v'->(∀ o,o < lo->G' o=G o)->lo<=o'->D C nt ol base (i+1) r ((d,v')::l) G' nx df pk (⟨i,rd,[o'],[]⟩::fs) Φ)
  (ht:k.d = .sl e:=by exact rfl) (he:TyIs C e ke:=by infer_instance) (hsz:sz=ke.sz:=by exact rfl) (hu:Nat.beq t u=true:=by exact rfl) (hx:lookO l x=some v:=by exact rfl) (hy:lookO l y=some (.row q 1):=by exact rfl)
  (hG:∀ o,lo<=o->o < hi->G o=G0 o:=by intro o _ _;exact at_upd) (hf:(AV.imm z).fits sz=true:=by first|exact rfl|assumption) (hs:0 < ke.sz:=by decide) (hb:ke.bytes<=4096:=by decide) (hz:ke.zero.fits ke.sz=true:=by exact rfl) (hid:lo<=base+i/\base+i < nx:=by omega)
  (hhi:hi<=nx:=by omega) (hd:Nat.ble (d+1) nt=true:=by exact rfl) :
  D C nt ol base i (⟨some d, .call { callee := .builtin .append,args := #[x,y],argTypes := #[t,u] },ty,pos,af,none⟩::r) l G nx df pk fs Φ:=by
 subst hsz
 have hrd:rdE l G (.call { callee := .builtin .append,args := #[x,y],argTypes := #[t,u] })=some ([v, .row q 1].flatMap direct):=by
  simp only [rdE,pureOp,looks,hx,hy]
 have hys:([z].map AV.imm).all (AV.fits ke.sz)=true:=by simp [hf]
 have hw:elems G (.row q 1)=some ([z].map AV.imm):=elems_row hq rfl
 rcases ho with ⟨rfl,rfl⟩|⟨o,h1,h2,rfl,hG2⟩
 ·refine D.op1 (O.appNil (hk:=hk) (he:=he) ht hu hx hy hw hs hb hz hys (by simp [most])) hrd hd (next _ _ _ _ (.inr ⟨base+i,hid.1,hid.2,by simp,by rw [upd_same];simp⟩) (fun o ho=>upd_ne _ _ _ _ (by omega)) hid.1)
 ·refine D.op1 (O.appRow (hk:=hk) (he:=he) ht hu hx ((hG o h1 h2).trans hG2) (by simp) hy hw hs hb hz hys (by simpa using hm)) hrd hd (next _ _ _ _ (.inr ⟨o,h1,by omega,by simp,by rw [upd_same];simp⟩) (fun o' ho'=>upd_ne _ _ _ _ (by omega)) h1)
theorem All2.nil {α β:Type} {R:α->β->Prop}:All2 R [] []:=trivial
theorem All2.cons {α β:Type} {R:α->β->Prop} {x:α} {y:β} {l:List α} {m:List β} (h:R x y) (hr:All2 R l m):All2 R (x::l) (y::m):=⟨h,hr⟩
theorem Rdx.agg {d:Nat} {P:Nat->Prop} {vs:List AV} {xs:List IV} (h:All2 (Rdx d G P) vs xs):Rdx (d+1) G P (.agg vs) (.agg xs):=by
 obtain ⟨ids,h1,h2⟩:=h.peekL
 refine ⟨ids,fun k=>?_,h2⟩
 show Go.Abs.peek G (k+d+1) _=_
 unfold Go.Abs.peek
 rw [h1 k]
theorem Rdx.tup {d:Nat} {P:Nat->Prop} {vs:List AV} {xs:List IV} (h:All2 (Rdx d G P) vs xs):Rdx (d+1) G P (.tup vs) (.tup xs):=by
 obtain ⟨ids,h1,h2⟩:=h.peekL
 refine ⟨ids,fun k=>?_,h2⟩
 show Go.Abs.peek G (k+d+1) _=_
 unfold Go.Abs.peek
 rw [h1 k]
theorem allImm_none:∀ {cs:List AV},(∃ v∈cs,∀ x,v ≠ .imm x)->allImm cs=none
 |[],h=>by obtain ⟨v,hv,_⟩:=h;cases hv
 |c::r,h=>by
  obtain ⟨v,hv,hn⟩:=h
  cases c with
  |imm x=>
   have hr:v∈r:=by
    rcases List.mem_cons.1 hv with h|h
    ·exact absurd h (hn x)
    ·exact h
   unfold allImm
   rw [allImm_none ⟨v,hr,hn⟩];rfl
  |_=>rfl
theorem mkAgg_not {cs:List AV} (h:∃ v∈cs,∀ x,v ≠ .imm x):mkAgg cs = .agg cs:=by
 unfold mkAgg
 rw [allImm_none h]
theorem Own.cells1 {e sz lo hi:Nat} {xs:List IV} {v:AV} (h:Own e sz lo hi xs G v):v.cells=[v]:=by
 rcases h with ⟨_,rfl⟩|⟨o,_,_,rfl,_⟩<;>rfl
theorem Own.one1 {e sz lo hi:Nat} {xs:List IV} {v:AV} (h:Own e sz lo hi xs G v):v.one=true:=by
 rcases h with ⟨_,rfl⟩|⟨o,_,_,rfl,_⟩<;>rfl
theorem O.storeP1 {a x:Operand} {t:TypeId} {k:TyI} {o off:Nat} {cs cs':List AV} [hk:TyIs C t k] (hs:k.sz=1) (ha:lookO l a=some (.ptr o off)) (hx:lookO l x=some v) (hc:v.cells=[v]) (h1:v.one=true) (hG:G o = .box cs false) (hn:Nat.ble (off+1) cs.length=true) (hcs:splice cs off [v]=cs') :
  OpV C id l G nx df pk (.store t a x) .undef [(o, .set (.box cs' false))]:=
 O.storeP ha hx (by unfold AV.fits;rw [hc,hs];simp [h1]) hG (by rw [hs];exact hn) (by rw [hc];exact hcs)
/-! ### regions that draw their order: addresses told apart -/
def Fp.ren (g:Nat->Nat) (f:Fp):Fp:=⟨f.i,f.rd.map g,f.wr.map g,f.fz.map g⟩
def fpAddrs (fs:List Fp):List Nat:=fs.flatMap fun f=>f.rd++f.wr++f.fz
def fpWrs (fs:List Fp):List Nat:=fs.flatMap (·.wr)
theorem ren_mem {g:Nat->Nat} {w:Nat} {l:List Nat} (h:∀ x∈l,g w=g x->w=x):(l.map g).contains (g w)=l.contains w:=by
 rw [Bool.eq_iff_iff]
 simp only [List.contains_iff_mem,List.mem_map]
 constructor
 ·rintro ⟨x,hx,he⟩
  rw [h x hx he.symm];exact hx
 ·intro hw;exact ⟨w,hw,rfl⟩
theorem any_ren {g:Nat->Nat} {f f':Nat->Bool}:∀ {l:List Nat},(∀ w∈l,f' (g w)=f w)->(l.map g).any f'=l.any f
 |[],_=>rfl
 |w::r,h=>by
  rw [List.map_cons,List.any_cons,List.any_cons,h w (by simp),any_ren (l:=r) fun x hx=>h x (by simp [hx])]
theorem clash_ren {g:Nat->Nat} {a b:Fp} (hg:∀ w∈a.wr++b.wr,∀ x∈a.rd++a.wr++a.fz++(b.rd++b.wr++b.fz),g w=g x->w=x):clash (a.ren g) (b.ren g)=clash a b:=by
 unfold clash
 congr 1
 ·refine any_ren fun w hw=>?_
  have:=fun x hx=>hg w (by simp [hw]) x hx
  simp only [Fp.ren]
  rw [ren_mem fun x hx=>this x (by simp [hx]),ren_mem fun x hx=>this x (by simp [hx]),ren_mem fun x hx=>this x (by simp [hx])]
 ·refine any_ren fun w hw=>?_
  have:=fun x hx=>hg w (by simp [hw]) x hx
  simp only [Fp.ren]
  rw [ren_mem fun x hx=>this x (by simp [hx]),ren_mem fun x hx=>this x (by simp [hx])]
theorem clearOf_ren {ops:Array Oper} {g:Nat->Nat} {a:Fp}:∀ {fs:List Fp},(∀ w∈fpWrs (a::fs),∀ x∈fpAddrs (a::fs),g w=g x->w=x)->clearOf ops (a.ren g) (fs.map (Fp.ren g))=clearOf ops a fs
 |[],_=>rfl
 |b::r,h=>by
  simp only [List.map_cons,clearOf]
  rw [clash_ren fun w hw x hx=>h w (by simp [fpWrs] at hw ⊢;rcases hw with h|h<;>simp [h]) x (by simp [fpAddrs] at hx ⊢;rcases hx with h|h|h|h|h|h<;>simp [h]),
   clearOf_ren fun w hw x hx=>h w (by simp [fpWrs] at hw ⊢;rcases hw with h|h;simp [h];exact .inr (.inr h)) x (by simp [fpAddrs] at hx ⊢;rcases hx with h|h|h|h;simp [h];simp [h];simp [h];exact .inr (.inr (.inr (.inr (.inr (.inr h))))))]
  rfl
theorem drawOK_ren {ops:Array Oper} {g:Nat->Nat}:∀ {fs:List Fp},(∀ w∈fpWrs fs,∀ x∈fpAddrs fs,g w=g x->w=x)->drawOK ops (fs.map (Fp.ren g))=drawOK ops fs
 |[],_=>rfl
 |a::r,h=>by
  simp only [List.map_cons,drawOK]
  rw [clearOf_ren h,drawOK_ren fun w hw x hx=>h w (by simp [fpWrs] at hw ⊢;exact .inr hw) x (by simp [fpAddrs] at hx ⊢;exact .inr (.inr (.inr hx)))]
def g4 (a b c d:Nat) (k:Nat):Nat:=if k=1 then a else if k=2 then b else if k=3 then c else d
theorem O.callOwn {f:FuncId} {ar:List Operand} {ats:Array TypeId} {vs:List AV} {ivs:List IV} {ids:List Nat} {et sz:Nat} {xs:List IV} (hb:C.byref f=false) (ho:C.orc f ivs=some (.own et sz xs)) (ha:looks l ar=some vs) (hi:peeks G vs=some (ivs,ids)) :
  OpV C id l G nx df pk (.call { callee := .value (.func f),args:=⟨ar⟩,argTypes:=ats }) (.row id xs.length) (frz ids++[(id, .set (.row et sz (xs.map .imm) false))]):=by
 refine O.of fun t L ht=>?_
 simp only [opA,ev,aCall,fnOf,List.map_nil,List.append_nil,callA,hb,Bool.false_eq_true,if_false,ht.evs ha,hi,ho]
theorem O.callOwnI {f:FuncId} {ar:List Operand} {ats:Array TypeId} {vs:List AV} {ivs:List IV} {et sz:Nat} {xs:List IV} (hb:C.byref f=false) (ho:C.orc f ivs=some (.own et sz xs)) (ha:looks l ar=some vs) (hi:imms vs=some ivs) :
  OpV C id l G nx df pk (.call { callee := .value (.func f),args:=⟨ar⟩,argTypes:=ats }) (.row id xs.length) [(id, .set (.row et sz (xs.map .imm) false))]:=
 O.callOwn (ids:=[]) hb ho ha (by rw [imms_eq hi];exact peeks_imm G ivs)
theorem peek_mpx {q:Nat} {ks vs:List IV} {fr:Bool} (h:G q = .mp ks (vs.map .imm) fr):Go.Abs.peek G pkDepth (.map q)=some (.fmp ks vs,[q]):=by
 have hp:∀ x,Go.Abs.peek G 99 (.imm x)=some (x,[]):=fun x=>rfl
 show Go.Abs.peek G (99+1) _=_
 unfold Go.Abs.peek
 rw [h]
 dsimp only
 rw [peekL_imm hp]
theorem updL_frz1 {q id o:Nat} {x:Obj}:updL G (frz [q]++[(id, .set x)]) o=if o=id then x else if o=q then (G q).freeze else G o:=by
 show upd (upd G q (Obj.freeze (G q))) id x o=_
 unfold upd
 rfl
end Go.Abs

/- The logic: ends of drawn regions at any addresses; slices of rows; rows as data. -/
namespace Go.Abs
variable {C:Cfg} {fid nt:Nat} {l:Env} {G:Nat->Obj} {nx:Nat} {df:List (AV×List AV)} {pk:Pk} {Φ:Out->Prop} {a b:Code} {id:Nat}
variable {ol r:List Oper} {base i d:Nat} {ty:TypeId} {pos:String} {af:Array Edge} {v:AV} {ups:List (Nat×U)}
def gN (ads:List Nat) (k:Nat):Nat:=ads.getD (k-1) 0
theorem gN_inj {ads:List Nat} (hn:ads.Nodup) {w x:Nat} (hw:1<=w/\w<=ads.length) (hx:1<=x/\x<=ads.length) (he:gN ads w=gN ads x):w=x:=by
 unfold gN at he
 rw [List.getD_eq_getElem?_getD,List.getD_eq_getElem?_getD,List.getElem?_eq_getElem (by omega),List.getElem?_eq_getElem (by omega)] at he
 simp only [Option.getD_some] at he
 rcases Nat.lt_trichotomy w x with h|h|h
 ·exact absurd he (List.pairwise_iff_getElem.1 hn _ _ (by omega) (by omega) (by omega))
 ·exact h
 ·exact absurd he.symm (List.pairwise_iff_getElem.1 hn _ _ (by omega) (by omega) (by omega))
theorem D.skipN' {fs:List Fp} (ads:List Nat) (hn:ads.Nodup) (fs0:List Fp) (hfs:fs.reverse=fs0.map (Fp.ren (gN ads))) (hb:((fpWrs fs0++fpAddrs fs0).all fun w=>decide (1<=w)&&decide (w<=ads.length))=true)
  (hk:(drawOK ⟨ol⟩ fs0&&edgesOK ⟨ol⟩)=true) (h:W C 0 nt .skip l G nx df pk Φ):D C nt ol base i [] l G nx df pk fs Φ:=
 D.skip (by
  rw [hfs,drawOK_ren fun w hw x hx he=>?_]
  ·exact hk
  ·have h1:=List.all_eq_true.1 hb w (List.mem_append_left _ hw)
   have h2:=List.all_eq_true.1 hb x (List.mem_append_right _ hx)
   simp only [Bool.and_eq_true,decide_eq_true_eq] at h1 h2
   exact gN_inj hn h1 h2 he) h
theorem touch_imms (k:Nat) (xs:List IV):(xs.map AV.imm).flatMap (touch G k)=[]:=by
 induction xs with
 |nil=>rfl
 |cons x r ih=>rw [List.map_cons,List.flatMap_cons,ih];cases k<;>rfl
theorem peek_row1 {o n et sz:Nat} {xs:List IV} {fr:Bool} (h:G o = .row et sz (xs.map .imm) fr) (hn:xs.length=n):Go.Abs.peek G pkDepth (.row o n)=some (.lst xs,[o]):=by
 have hp:∀ x,Go.Abs.peek G 99 (.imm x)=some (x,[]):=fun x=>rfl
 show Go.Abs.peek G (99+1) _=_
 unfold Go.Abs.peek
 rw [h]
 dsimp only
 rw [if_pos (by simpa using hn),peekL_imm hp]
theorem peeks_nil:peeks G []=some ([],[]):=rfl
theorem peeks_one {v:AV} {x:IV} {ids ids2:List Nat} {vs:List AV} {xs:List IV} (h:Go.Abs.peek G pkDepth v=some (x,ids)) (hr:peeks G vs=some (xs,ids2)):peeks G (v::vs)=some (x::xs,ids++ids2):=by
 unfold peeks at hr ⊢
 rw [peekL,h,hr]
theorem peeks_im {x:IV} {ids2:List Nat} {vs:List AV} {xs:List IV} (hr:peeks G vs=some (xs,ids2)):peeks G (.imm x::vs)=some (x::xs,ids2):=peeks_one (ids:=[]) rfl hr
theorem boundE_at {l:Env} {n d t i:Nat} {k:IntKind} {j:Int} (h:look l t=some (.imm (.int k j))) (hj:j=(i:Int)) (hi:i<=n):boundE l n d (some (.tmp t))=some i:=by
 subst hj
 simp only [boundE,lookO,h]
 rw [if_pos ⟨Int.natCast_nonneg _,by omega⟩,Int.toNat_natCast]
theorem frz_at {q o:Nat} {G:Nat->Obj}:updL G (frz [q]) o=if o=q then (G q).freeze else G o:=by
 show upd G q ((G q).freeze) o=_
 unfold upd;rfl
theorem touch_im {G:Nat->Obj} (x:IV):touch G pkDepth (.imm x)=[]:=rfl
theorem D.gen' {fs:List Fp} (P:(Nat->Obj)->Prop) (h0:P G) (h:∀ G,P G->D C nt ol base i r l G nx df pk fs Φ):D C nt ol base i r l G nx df pk fs Φ:=h _ h0
/-! what is read may be said to be more -/
theorem any_or_le {xs ys:List Nat} (h:∀ x∈xs,x∈ys) (x:Nat) (hx:xs.contains x=true):ys.contains x=true:=by
 simp at hx ⊢;exact h x hx
theorem clash_le1 {a:Fp} {rd':List Nat} {b:Fp} (h:∀ x∈a.rd,x∈rd') (hc:clash { a with rd:=rd' } b=false):clash a b=false:=by
 unfold clash at hc ⊢
 rw [Bool.or_eq_false_iff] at hc ⊢
 refine ⟨hc.1,?_⟩
 have h2:=hc.2
 rw [List.any_eq_false] at h2 ⊢
 intro x hx he
 refine h2 x hx ?_
 rw [Bool.or_eq_true] at he ⊢
 rcases he with he|he
 ·exact .inl (any_or_le h x he)
 ·exact .inr he
theorem clash_le2 {a b:Fp} {rd':List Nat} (h:∀ x∈b.rd,x∈rd') (hc:clash a { b with rd:=rd' }=false):clash a b=false:=by
 unfold clash at hc ⊢
 rw [Bool.or_eq_false_iff] at hc ⊢
 refine ⟨?_,hc.2⟩
 have h1:=hc.1
 rw [List.any_eq_false] at h1 ⊢
 intro x hx he
 refine h1 x hx ?_
 rw [Bool.or_eq_true,Bool.or_eq_true] at he ⊢
 rcases he with (he|he)|he
 ·exact .inl (.inl (any_or_le h x he))
 ·exact .inl (.inr he)
 ·exact .inr he
theorem clearOf_le1 {ops:Array Oper} {a:Fp} {rd':List Nat} (h:∀ x∈a.rd,x∈rd'):∀ fs:List Fp,clearOf ops { a with rd:=rd' } fs=true->clearOf ops a fs=true
 |[],_=>rfl
 |b::r,hc=>by
  unfold clearOf at hc ⊢
  rw [Bool.and_eq_true] at hc ⊢
  refine ⟨?_,clearOf_le1 h r hc.2⟩
  have h1:=hc.1
  rw [Bool.or_eq_true,Bool.and_eq_true] at h1 ⊢
  rcases h1 with h1|⟨h1,h2⟩
  ·exact .inl h1
  ·exact .inr ⟨by rw [clash_le1 h (by simpa using h1)];rfl,h2⟩
theorem clearOf_le2 {ops:Array Oper} {a c:Fp} {rd':List Nat} (h:∀ x∈c.rd,x∈rd') {B:List Fp}:∀ A:List Fp,clearOf ops a (A++{ c with rd:=rd' }::B)=true->clearOf ops a (A++c::B)=true
 |[],hc=>by
  simp only [List.nil_append] at hc ⊢
  unfold clearOf at hc ⊢
  rw [Bool.and_eq_true] at hc ⊢
  refine ⟨?_,hc.2⟩
  have h1:=hc.1
  rw [Bool.or_eq_true,Bool.and_eq_true] at h1 ⊢
  rcases h1 with h1|⟨h1,h2⟩
  ·exact .inl h1
  ·exact .inr ⟨by rw [clash_le2 h (by simpa using h1)];rfl,h2⟩
 |b::A,hc=>by
  rw [List.cons_append] at hc ⊢
  unfold clearOf at hc ⊢
  rw [Bool.and_eq_true] at hc ⊢
  exact ⟨hc.1,clearOf_le2 h A hc.2⟩
theorem drawOK_le {ops:Array Oper} {c:Fp} {rd':List Nat} (h:∀ x∈c.rd,x∈rd') {B:List Fp}:∀ A:List Fp,drawOK ops (A++{ c with rd:=rd' }::B)=true->drawOK ops (A++c::B)=true
 |[],hc=>by
  simp only [List.nil_append] at hc ⊢
  unfold drawOK at hc ⊢
  rw [Bool.and_eq_true] at hc ⊢
  exact ⟨clearOf_le1 h B hc.1,hc.2⟩
 |b::A,hc=>by
  rw [List.cons_append] at hc ⊢
  unfold drawOK at hc ⊢
  rw [Bool.and_eq_true] at hc ⊢
  exact ⟨clearOf_le2 h A hc.1,drawOK_le h A hc.2⟩
theorem drawOK_more {ops:Array Oper} {A fs:List Fp} {j:Nat} {rd rd' wr fz:List Nat} (h:∀ x∈rd,x∈rd') (hd:drawOK ops (A++⟨j,rd',wr,fz⟩::fs).reverse=true):drawOK ops (A++⟨j,rd,wr,fz⟩::fs).reverse=true:=by
 rw [List.reverse_append,List.reverse_cons,List.append_assoc] at hd ⊢
 exact drawOK_le (c:=⟨j,rd,wr,fz⟩) h fs.reverse hd
theorem runE_more {L:Low} {ops:Array Oper} {j:Nat} {rd rd' wr fz:List Nat} (h:∀ x∈rd,x∈rd'):∀ (r:List Oper) (i:Nat) (A fs:List Fp) (s:St) {s':St} {fs':List Fp},runE C L nt ops base i r (A++⟨j,rd',wr,fz⟩::fs) s=some (s',fs')->drawOK ops fs'.reverse=true ->
  ∃ fs2,runE C L nt ops base i r (A++⟨j,rd,wr,fz⟩::fs) s=some (s',fs2)/\drawOK ops fs2.reverse=true
 |[],_,A,fs,s,s',fs',he,hd=>by
  cases he
  exact ⟨_,rfl,drawOK_more h hd⟩
 |o::r,i,A,fs,s,s',fs',he,hd=>by
  unfold runE stepP at he ⊢
  cases hs:stepD C L nt ops base i o s with
  |some y=>rw [hs] at he;exact runE_more h r (i+1) (y.2::A) fs y.1 he hd
  |none=>
   rw [hs] at he
   simp only at he ⊢
   by_cases hk:(pivot ops i&&drawOK ops (A++⟨j,rd',wr,fz⟩::fs).reverse)=true
   ·have hk2:(pivot ops i&&drawOK ops (A++⟨j,rd,wr,fz⟩::fs).reverse)=true:=by
     rw [Bool.and_eq_true] at hk ⊢
     exact ⟨hk.1,drawOK_more h hk.2⟩
    rw [if_pos hk] at he
    rw [if_pos hk2]
    exact ⟨_,he,hd⟩
   ·rw [if_neg hk] at he;cases he
theorem D.more {fs:List Fp} {j:Nat} {rd rd' wr fz:List Nat} (h:∀ x∈rd,x∈rd') (hd:D C nt ol base i r l G nx df pk (⟨j,rd',wr,fz⟩::fs) Φ):D C nt ol base i r l G nx df pk (⟨j,rd,wr,fz⟩::fs) Φ := .mk fun t ht=>by
 obtain ⟨n,s',fs',h1,h2,h3⟩:=hd.st t ht
 rw [Bool.and_eq_true] at h2
 obtain ⟨fs2,h4,h5⟩:=runE_more h r i [] fs _ h1 h2.1
 exact ⟨n,s',fs2,h4,by rw [Bool.and_eq_true];exact ⟨h5,h2.2⟩,h3⟩
theorem D.app2 {x y:Operand} {t u e e' lo hi q sz sz':Nat} {k ke:TyI} {xs:List IV} {z:IV} {fr:Bool} {fs:List Fp} {G0:Nat->Obj} (ho:Own e sz lo hi xs G0 v) (hq:G q = .row e' sz' [.imm z] fr) [hk:TyIs C t k] (hm:xs.length+1<=most)
  (next:∀ v' G' o',Own e sz lo nx (xs++[z]) G' v'->(∀ o,o < lo->G' o=G o)->(∀ o,o≠o'->G' o=G o)->lo<=o'->(o' < hi\/o'=base+i)->D C nt ol base (i+1) r ((d,v')::l) G' nx df pk (⟨i,[o',q],[o'],[]⟩::fs) Φ)
  (ht:k.d = .sl e:=by exact rfl) (he:TyIs C e ke:=by infer_instance) (hsz:sz=ke.sz:=by exact rfl) (hu:Nat.beq t u=true:=by exact rfl) (hx:lookO l x=some v:=by exact rfl) (hy:lookO l y=some (.row q 1):=by exact rfl)
  (hG:∀ o,lo<=o->o < hi->G o=G0 o:=by intro o _ _;exact at_upd) (hf:(AV.imm z).fits sz=true:=by first|exact rfl|assumption) (hs:0 < ke.sz:=by decide) (hb:ke.bytes<=4096:=by decide) (hz:ke.zero.fits ke.sz=true:=by exact rfl) (hid:lo<=base+i/\base+i < nx/\base+i≠q:=by omega)
  (hhi:hi<=nx/\hi<=q:=by omega) (hd:Nat.ble (d+1) nt=true:=by exact rfl) :
  D C nt ol base i (⟨some d, .call { callee := .builtin .append,args := #[x,y],argTypes := #[t,u] },ty,pos,af,none⟩::r) l G nx df pk fs Φ:=by
 subst hsz
 have hrd:rdE l G (.call { callee := .builtin .append,args := #[x,y],argTypes := #[t,u] })=some ([v, .row q 1].flatMap direct):=by
  simp only [rdE,pureOp,looks,hx,hy]
 have hys:([z].map AV.imm).all (AV.fits ke.sz)=true:=by simp [hf]
 have hw:elems G (.row q 1)=some ([z].map AV.imm):=elems_row hq rfl
 rcases ho with ⟨rfl,rfl⟩|⟨o,h1,h2,rfl,hG2⟩
 ·refine D.op1 (O.appNil (hk:=hk) (he:=he) ht hu hx hy hw hs hb hz hys (by simp [most])) hrd hd (D.more (rd':=[base+i,q]) (by simp [direct]) (next _ _ _ (.inr ⟨base+i,hid.1,hid.2.1,by simp,by rw [upd_same];simp⟩) (fun o ho=>upd_ne _ _ _ _ (by omega)) (fun o ho=>upd_ne _ _ _ _ ho) hid.1 (.inr rfl)))
 ·refine D.op1 (O.appRow (hk:=hk) (he:=he) ht hu hx ((hG o h1 h2).trans hG2) (by simp) hy hw hs hb hz hys (by simpa using hm)) hrd hd (D.more (rd':=[o,q]) (by simp [direct]) (next _ _ _ (.inr ⟨o,h1,by omega,by simp,by rw [upd_same];simp⟩) (fun o' ho'=>upd_ne _ _ _ _ (by omega)) (fun o' ho'=>upd_ne _ _ _ _ ho') h1 (.inl h2)))
theorem O.sliceG {x:Operand} {t e:TypeId} {lo hi:Option Operand} {k ke:TyI} {w:AV} {xs:List IV} {ids:List Nat} {m n:Nat} [hk:TyIs C t k] (ht:k.d = .sl e) [he:TyIs C e ke] (hx:lookO l x=some w) (hp:Go.Abs.peek G pkDepth w=some (.lst xs,ids))
  (hh:boundE l xs.length xs.length hi=some n) (hl:boundE l n 0 lo=some m) (hc:(xs.all fun y=>y.cells.length==ke.sz)=true) :
  OpV C id l G nx df pk (.slice t x lo hi none) (.imm (.lst ((xs.take n).drop m))) (frz ids):=
 O.of fun t' L hA=>by
  simp only [opA,hA.ev hx,aSlice,hk.is,ht,hp,he.is]
  simp only [boundE_ok hA hh,boundE_ok hA hl,hc,if_true]
  rfl
theorem O.min {x y:Operand} {t u:TypeId} {m n:Int} {k:IntKind} (hx:lookO l x=some (.imm (.int k m))) (hy:lookO l y=some (.imm (.int k n))):OpV C id l G nx df pk (.call { callee := .builtin .min,args := #[x,y],argTypes := #[t,u] }) (.imm (.int k (if n < m then n else m))) []:=
 O.of fun t' L hA=>by simp only [opA,List.map_cons,List.map_nil,hA.ev hx,hA.ev hy,aBuiltin]
theorem O.loadRA {x:Operand} {t et:TypeId} {k:TyI} {o m n sz:Nat} {xs us:List AV} {fr:Bool} {u:AV} [hk:TyIs C t k] (hx:lookO l x=some (.rptr o m n 0)) (hG:G o = .row et sz xs fr) (hm:xs.length=m) (hu:xs[n]? = some u)
  (hc:Go.Abs.sub u.cells 0 k.sz=some us) (hg:k.d.isAgg=true):OpV C id l G nx df pk (.load t x) (mkAgg us) []:=
 O.of fun t L hA=>by simp [opA,hA.ev hx,aLoad,hk.is,hg,readAt,hG,hm,hu,hc]
theorem mul64 {m n:Int} (h : -9223372036854775808<=m*n/\m*n<=9223372036854775807):intOp .mul .i64 m n=some (.int .i64 (m*n)):=by simp only [intOp,wrap64 h]
theorem O.neg {t:TypeId} {x:Operand} {n:Int} {id:Nat} {l:Env} {G:Nat->Obj} {nx:Nat} {df:List (AV×List AV)} {pk:Pk} {C:Cfg} (hx:lookO l x=some (.imm (.int .i64 n))) (h : -9223372036854775807<=n/\n<=9223372036854775807):OpV C id l G nx df pk (.unOp .neg t x) (.imm (.int .i64 (-n))) []:=
 O.of fun t L ht=>by
  have:IntKind.i64.wrap (0-n) = -n:=by rw [wrap64 (by omega)];omega
  simp only [opA,ht.ev hx,unA,this]
end Go.Abs
