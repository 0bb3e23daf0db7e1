/- The abstract interpreter: a logic of what code comes to: joins; structs in boxes and in slices; builds. -/
import Derived.Test.YtbdoijpclmhbaaaGreatSo5
namespace Go.Abs
variable {C:Cfg} {fid nt:Nat} {l:Env} {G:Nat->Obj} {nx:Nat} {df:List (AV×List AV)} {pk:Pk} {Φ Φ':Out->Prop} {a b:Code} {ol r:List Oper} {base i d:Nat} {ty:TypeId} {pos:String} {af:Array Edge} {v:AV} {id:Nat}
def cutP {X:Type} (le:X->Env) (Ge:X->Nat->(Nat->Obj)->Prop) (df:List (AV×List AV)) (pk:Pk) (Φ:Out->Prop):Out->Prop
 | .norm s=>∃ x,Agree s.tmps (le x)/\Ge x s.nx s.G/\s.defers=df/\s.pk=pk
 |o=>Φ o
theorem W.cut {X:Type} (le:X->Env) (Ge:X->Nat->(Nat->Obj)->Prop) (h1:W C fid nt a l G nx df pk (cutP le Ge df pk Φ)) (h2:∀ x nx G,Ge x nx G->W C fid nt b (le x) G nx df pk Φ):W C fid nt (.seq a b) l G nx df pk Φ:=by
 refine W.seq (h1.mono fun o ho=>?_)
 cases o with
 |norm s=>
  obtain ⟨x,ha,hg,hd,hp⟩:=ho
  have:=(h2 x s.nx s.G hg).st s.tmps ha
  have e:s=⟨s.tmps,s.G,s.nx,df,pk⟩:=by cases s;simp_all
  rw [e];exact this
 |_=>exact ho
theorem W.skipCut {X:Type} {le:X->Env} {Ge:X->Nat->(Nat->Obj)->Prop} (x:X) (hl:Sub (le x) l) (hG:Ge x nx G):W C fid nt .skip l G nx df pk (cutP le Ge df pk Φ) := .skip fun _ ht=>⟨x,ht.sub hl,hG,rfl,rfl⟩
theorem W.retCut {X:Type} {le:X->Env} {Ge:X->Nat->(Nat->Obj)->Prop} {df':List (AV×List AV)} {pk':Pk} (h:W C fid nt .ret l G nx df pk Φ):W C fid nt .ret l G nx df pk (cutP le Ge df' pk' Φ) := .ret h.retI
theorem W.exitCut {X:Type} {le:X->Env} {Ge:X->Nat->(Nat->Obj)->Prop} {df':List (AV×List AV)} {pk':Pk} {id:Nat} (h:W C fid nt (.exit id) l G nx df pk Φ):W C fid nt (.exit id) l G nx df pk (cutP le Ge df' pk' Φ) := .exit h.exitI
/-! ### structs -/
theorem O.boxS {x:Operand} {t:TypeId} {k:TyI} {cs:List AV} [hk:TyIs C t k] (hx:lookO l x=some v) (hc:v.cells=cs) (hf:v.fits k.sz=true):OpV C id l G nx df pk (.box t x) (.ptr id 0) [(id, .set (.box cs false))]:=
 O.of fun t L hA=>by simp only [opA,hA.ev hx,aBox,hk.is,if_pos hf,hc]
theorem O.fieldP {x:Operand} {t:TypeId} {f:Nat} {k:TyI} {fs:List (Nat×Nat)} {o off0 off sz:Nat} [hk:TyIs C t k] (hd:k.d = .st fs) (hf:fs[f]? = some (off,sz)) (hs:Nat.beq sz 0=false) (hx:lookO l x=some (.ptr o off0)) :
  OpV C id l G nx df pk (.fieldAddr t x f) (.ptr o (off0+off)) []:=
 O.of fun t L hA=>by
  have:¬ sz=0:=fun e=>by subst e;cases hs
  simp only [opA,hA.ev hx,aFieldAddr,hk.is,hd,hf,if_neg this,moveAt]
theorem O.fieldE {x:Operand} {t:TypeId} {f:Nat} {k:TyI} {fs:List (Nat×Nat)} {xs:List IV} {n off0 off sz:Nat} [hk:TyIs C t k] (hd:k.d = .st fs) (hf:fs[f]? = some (off,sz)) (hs:Nat.beq sz 0=false) (hx:lookO l x=some (.imm (.eptr xs n off0))) :
  OpV C id l G nx df pk (.fieldAddr t x f) (.imm (.eptr xs n (off0+off))) []:=
 O.of fun t L hA=>by
  have:¬ sz=0:=fun e=>by subst e;cases hs
  simp only [opA,hA.ev hx,aFieldAddr,hk.is,hd,hf,if_neg this,moveAt]
theorem O.fieldR {x:Operand} {t:TypeId} {f:Nat} {k:TyI} {fs:List (Nat×Nat)} {o m n off0 off sz:Nat} [hk:TyIs C t k] (hd:k.d = .st fs) (hf:fs[f]? = some (off,sz)) (hs:Nat.beq sz 0=false) (hx:lookO l x=some (.rptr o m n off0)) :
  OpV C id l G nx df pk (.fieldAddr t x f) (.rptr o m n (off0+off)) []:=
 O.of fun t L hA=>by
  have:¬ sz=0:=fun e=>by subst e;cases hs
  simp only [opA,hA.ev hx,aFieldAddr,hk.is,hd,hf,if_neg this,moveAt]
theorem sub_one {α:Type} {cs:List α} {off:Nat} {u:α} (hu:cs[off]? = some u):sub cs off 1=some [u]:=by
 have hlt:=(List.getElem?_eq_some_iff.1 hu).1
 unfold sub
 rw [if_pos (by omega),List.drop_eq_getElem_cons hlt]
 have:cs[off]=u:=(List.getElem?_eq_some_iff.1 hu).2
 simp [this]
theorem O.loadP {x:Operand} {t:TypeId} {k:TyI} {o off:Nat} {cs:List AV} {fr:Bool} {u:AV} [hk:TyIs C t k] (hg:k.d.isAgg=false) (hs:k.sz=1) (hx:lookO l x=some (.ptr o off)) (hG:G o = .box cs fr) (hu:cs[off]? = some u) :
  OpV C id l G nx df pk (.load t x) u []:=
 O.of fun t L hA=>by simp only [opA,hA.ev hx,aLoad,hk.is,hs,readAt,hG,sub_one hu,hg,Bool.false_eq_true,if_false]
theorem O.loadPA {x:Operand} {t:TypeId} {k:TyI} {o off:Nat} {cs us:List AV} {fr:Bool} [hk:TyIs C t k] (hg:k.d.isAgg=true) (hx:lookO l x=some (.ptr o off)) (hG:G o = .box cs fr) (hu:sub cs off k.sz=some us) (hv:mkAgg us=v) :
  OpV C id l G nx df pk (.load t x) v []:=
 O.of fun t L hA=>by simp only [opA,hA.ev hx,aLoad,hk.is,readAt,hG,hu,hg,if_true,hv]
theorem O.loadE {x:Operand} {t:TypeId} {k:TyI} {xs:List IV} {n off:Nat} {e u:IV} [hk:TyIs C t k] (hg:k.d.isAgg=false) (hs:k.sz=1) (hx:lookO l x=some (.imm (.eptr xs n off))) (he:xs[n]? = some e) (hu:e.cells[off]? = some u) :
  OpV C id l G nx df pk (.load t x) (.imm u) []:=
 O.of fun t L hA=>by simp only [opA,hA.ev hx,aLoad,hk.is,hs,readAt,he,sub_one hu,Option.map_some,List.map_cons,List.map_nil,hg,Bool.false_eq_true,if_false]
theorem mkAgg_imm (cs:List IV):mkAgg (cs.map .imm) = .imm (.agg cs):=by
 have:allImm (cs.map AV.imm)=some cs:=by
  induction cs with
  |nil=>rfl
  |cons x r ih=>simp only [List.map_cons,allImm,ih,Option.map_some]
 unfold mkAgg
 rw [this]
theorem O.loadEA {x:Operand} {t:TypeId} {k:TyI} {xs cs:List IV} {n off:Nat} {e:IV} [hk:TyIs C t k] (hg:k.d.isAgg=true) (hx:lookO l x=some (.imm (.eptr xs n off))) (he:xs[n]? = some e) (hu:sub e.cells off k.sz=some cs) :
  OpV C id l G nx df pk (.load t x) (.imm (.agg cs)) []:=
 O.of fun t L hA=>by simp only [opA,hA.ev hx,aLoad,hk.is,readAt,he,hu,Option.map_some,hg,if_true,mkAgg_imm]
theorem O.storeP {a x:Operand} {t:TypeId} {k:TyI} {o off:Nat} {cs cs':List AV} [hk:TyIs C t k] (ha:lookO l a=some (.ptr o off)) (hx:lookO l x=some v) (hf:v.fits k.sz=true) (hG:G o = .box cs false) (hn:Nat.ble (off+k.sz) cs.length=true) (hc:splice cs off v.cells=cs') :
  OpV C id l G nx df pk (.store t a x) .undef [(o, .set (.box cs' false))]:=
 O.of fun t L hA=>by
  have:=Nat.le_of_ble_eq_true hn
  simp only [opA,hA.ev ha,hA.ev hx,aStore,hk.is,if_pos hf,hG,if_pos this,hc]
def partsE (l:Env):List (Nat×Operand)->Option (List (Nat×AV))
 |[]=>some []
 |(i,x)::r=>match lookO l x with
  |some v=>match partsE l r with
   |some vs=>some ((i,v)::vs)
   |none=>none
  |none=>none
theorem partsE_ok {t:Nat->AV} (h:Agree t l):∀ {ps:List (Nat×Operand)} {vs:List (Nat×AV)},partsE l ps=some vs->(ps.map fun p=>(p.1,Go.Abs.ev t p.2))=vs
 |[],vs,hp=>by cases hp;rfl
 |(i,x)::r,vs,hp=>by
  unfold partsE at hp
  split at hp
  ·rename_i v hv
   split at hp
   ·rename_i ws hw
    cases hp
    simp only [List.map_cons,h.ev hv,partsE_ok h hw]
   ·cases hp
  ·cases hp
theorem O.build {t:TypeId} {ps:List (Nat×Operand)} {k:TyI} {fs:List (Nat×Nat)} {vs:List (Nat×AV)} {cs:List AV} [hk:TyIs C t k] (hd:k.d = .st fs) (hp:partsE l ps=some vs) (hf:fillA fs k.zero.cells vs=some cs) (hv:mkAgg cs=v) :
  OpV C id l G nx df pk (.build t ⟨ps⟩) v []:=
 O.of fun t L hA=>by simp only [opA,aBuild,hk.is,hd,partsE_ok hA hp,hf,hv]
theorem O.extr {x:Operand} {ix:Nat} {vs:List IV} {u:IV} (hx:lookO l x=some (.imm (.tup vs))) (hu:vs[ix]? = some u):OpV C id l G nx df pk (.extract x ix) (.imm u) []:=
 O.of fun t L hA=>by simp only [opA,hA.ev hx,aExtract,hu]
theorem W.retFin2 {t u:Nat} {v w:AV} {Ψ:AV->(Nat->Obj)->Nat->Prop} (hv:look l t=some v) (hw:look l u=some w) (h:Ψ (mkTup [v,w]) G nx):W C fid nt .ret l G nx [] .no (fin C [.tmp t, .tmp u] Ψ):=
 .ret fun t ht=>⟨rfl,rfl,mkTup [v,w],by simp only [resultsA,resultsL,resultA,ht _ v hv,ht _ w hw],h⟩
theorem sub_all {α:Type} (cs:List α):sub cs 0 cs.length=some cs:=by
 unfold sub
 rw [if_pos (by omega)]
 simp
theorem W.retFinCT {a u:Nat} {t:TypeId} {o:Nat} {k:TyI} {cs:List AV} {fr:Bool} {w:AV} {Ψ:AV->(Nat->Obj)->Nat->Prop} [hk:TyIs C t k] (ha:look l a=some (.ptr o 0)) (hG:G o = .box cs fr) (hs:Nat.beq cs.length k.sz=true) (hg:k.d.isAgg=true) (hw:look l u=some w) (h:Ψ (mkTup [mkAgg cs,w]) G nx) :
  W C fid nt .ret l G nx [] .no (fin C [.cell a t, .tmp u] Ψ):=
 .ret fun t' ht=>⟨rfl,rfl,mkTup [mkAgg cs,w],by
  have e:cs.length=k.sz:=Nat.eq_of_beq_eq_true hs
  have e2:Go.Abs.sub cs 0 k.sz=some cs:=by rw [<-e];exact sub_all cs
  simp only [resultsA,resultsL,resultA,ht _ _ ha,ht _ _ hw,aLoad,hk.is,readAt,hG,e2,hg,if_true],h⟩
theorem W.retFinCA {a:Nat} {t:TypeId} {o:Nat} {k:TyI} {cs:List AV} {fr:Bool} {Ψ:AV->(Nat->Obj)->Nat->Prop} [hk:TyIs C t k] (ha:look l a=some (.ptr o 0)) (hG:G o = .box cs fr) (hs:Nat.beq cs.length k.sz=true) (hg:k.d.isAgg=true) (h:Ψ (mkAgg cs) G nx) :
  W C fid nt .ret l G nx [] .no (fin C [.cell a t] Ψ):=
 .ret fun t' ht=>⟨rfl,rfl,mkAgg cs,by
  have e:cs.length=k.sz:=Nat.eq_of_beq_eq_true hs
  have e2:Go.Abs.sub cs 0 k.sz=some cs:=by rw [<-e];exact sub_all cs
  simp only [resultsA,resultsL,resultA,ht _ _ ha,aLoad,hk.is,readAt,hG,e2,hg,if_true],h⟩
def boundE (l:Env) (n d:Nat):Option Operand->Option Nat
 |none=>some d
 |some x=>match lookO l x with
  |some (.imm (.int _ i))=>if 0<=i/\i<=n then some i.toNat else none
  |_=>none
theorem boundE_ok {t:Nat->AV} (h:Agree t l) {n d m:Nat} {o:Option Operand} (hb:boundE l n d o=some m):bound n d (o.map (Go.Abs.ev t))=some m:=by
 cases o with
 |none=>exact hb
 |some x=>
  simp only [boundE] at hb
  split at hb
  ·rename_i k i hx
   simp only [Option.map_some,h.ev hx,bound]
   exact hb
  ·cases hb
theorem O.sliceL {x:Operand} {t e:TypeId} {lo hi:Option Operand} {k ke:TyI} {xs:List IV} {a b:Nat} [hk:TyIs C t k] (ht:k.d = .sl e) [he:TyIs C e ke] (hx:lookO l x=some (.imm (.lst xs))) (hh:boundE l xs.length xs.length hi=some b) (hl:boundE l b 0 lo=some a) (hs:xs.all (fun y=>y.cells.length==ke.sz)=true) :
  OpV C id l G nx df pk (.slice t x lo hi none) (.imm (.lst ((xs.take b).drop a))) []:=
 O.of fun t' L hA=>by
  have hp:peek G pkDepth (.imm (.lst xs))=some (.lst xs,[]):=by unfold pkDepth peek;rfl
  simp only [opA,hA.ev hx,aSlice,hk.is,ht,hp,he.is,boundE_ok hA hh,boundE_ok hA hl,if_pos hs,give_nil]
theorem O.callG {f:FuncId} {ar:List Operand} {ats:Array TypeId} {vs:List AV} {ivs:List IV} {ids:List Nat} {x:IV} [hf:FnIs C f] (ha:looks l ar=some vs) (hi:peeks G vs=some (ivs,ids)) (hr:Ret C f ivs x) (hx:x.scalar=true) :
  OpV C id l G nx df pk (.call { callee := .value (.func f),args:=⟨ar⟩,argTypes:=ats }) (.imm x) []:=by
 obtain ⟨n,v,G',nx',pk',ids,h1,h2⟩:=hr
 refine ⟨fun t ht=>⟨n,?_⟩⟩
 simp only [opA,ev,aCall,fnOf,List.map_nil,List.append_nil,callA,hf.byref,Bool.false_eq_true,if_false,ht.evs ha,hi,hf.orc,h1,h2,hx,give,if_true]
end Go.Abs

/- The abstract interpreter: a logic of what code comes to: slices of the call's own that grow. -/
namespace Go.Abs
variable {C:Cfg} {fid nt:Nat} {l:Env} {G:Nat->Obj} {nx:Nat} {df:List (AV×List AV)} {pk:Pk} {Φ Φ':Out->Prop} {a b:Code} {ol r:List Oper} {base i d:Nat} {ty:TypeId} {pos:String} {af:Array Edge} {v:AV} {id:Nat}
def Own (e sz lo hi:Nat) (xs:List IV) (G:Nat->Obj) (v:AV):Prop:=
 (xs=[]/\v = .nils)\/∃ o,lo<=o/\o < hi/\v = .row o xs.length/\G o = .row e sz (xs.map .imm) false
theorem Own.nil (e sz lo hi:Nat) (G:Nat->Obj):Own e sz lo hi [] G .nils := .inl ⟨rfl,rfl⟩
theorem Own.frame {e sz lo hi hi':Nat} {xs:List IV} {G G':Nat->Obj} {v:AV} (h:Own e sz lo hi xs G v) (hh:hi<=hi') (hG:∀ o,lo<=o->o < hi->G' o=G o):Own e sz lo hi' xs G' v:=by
 rcases h with h|⟨o,h1,h2,h3,h4⟩
 ·exact .inl h
 ·exact .inr ⟨o,h1,by omega,h3,by rw [hG o h1 h2];exact h4⟩
theorem Own.up {e sz lo hi hi':Nat} {xs:List IV} {G:Nat->Obj} {v:AV} (h:Own e sz lo hi xs G v) (hh:hi<=hi'):Own e sz lo hi' xs G v:=h.frame hh fun _ _ _=>rfl
theorem Own.upd {e sz lo hi hi' q:Nat} {xs:List IV} {G:Nat->Obj} {v:AV} {x:Obj} (h:Own e sz lo hi xs G v) (hh:hi<=hi') (hq:hi<=q):Own e sz lo hi' xs (Go.Abs.upd G q x) v:=
 h.frame hh fun o _ h2=>upd_ne _ _ _ _ (by omega)
theorem peekL_imm {f:AV->Option (IV×List Nat)} (hf:∀ x,f (.imm x)=some (x,[])):∀ xs:List IV,peekL f (xs.map .imm)=some (xs,[])
 |[]=>rfl
 |x::r=>by simp only [List.map_cons,peekL,hf,peekL_imm hf r];rfl
theorem Own.peek {e sz lo hi k:Nat} {xs:List IV} {G:Nat->Obj} {v:AV} (h:Own e sz lo hi xs G v):∃ ids,Go.Abs.peek G (k+1) v=some (.lst xs,ids):=by
 rcases h with ⟨rfl,rfl⟩|⟨o,_,_,rfl,hG⟩
 ·exact ⟨[],rfl⟩
 ·refine ⟨[o],?_⟩
  have hp:∀ x,Go.Abs.peek G k (.imm x)=some (x,[]):=fun x=>by cases k<;>rfl
  simp only [Go.Abs.peek,hG,List.length_map,if_true,peekL_imm hp]
theorem Own.elems {e sz lo hi:Nat} {xs:List IV} {G:Nat->Obj} {v:AV} (h:Own e sz lo hi xs G v):Go.Abs.elems G v=some (xs.map .imm):=by
 rcases h with ⟨rfl,rfl⟩|⟨o,_,_,rfl,hG⟩
 ·rfl
 ·simp [Go.Abs.elems,hG]
theorem O.lenO {x:Operand} {t:TypeId} {k:TyI} {e e' sz lo hi:Nat} {xs:List IV} [hk:TyIs C t k] (hx:lookO l x=some v) (hl:k.d = .sl e') (ho:Own e sz lo hi xs G v):OpV C id l G nx df pk (.call { callee := .builtin .len,args := #[x],argTypes := #[t] }) (.imm (.int .i64 xs.length)) []:=
 O.len (m:=xs.length) hx (by rw [hl];simp [lenA,ho.elems])
theorem fits_all {sz:Nat} {ys:List IV} (h:∀ y∈ys,(AV.imm y).fits sz=true):(ys.map AV.imm).all (AV.fits sz)=true:=by
 rw [List.all_eq_true]
 intro x hx
 obtain ⟨y,hy,rfl⟩:=List.mem_map.1 hx
 exact h y hy
theorem R.appOwn {x y:Operand} {t u e lo:Nat} {k ke:TyI} {xs ys:List IV} {w:AV} [hk:TyIs C t k] (ht:k.d = .sl e) [he:TyIs C e ke] (hu:Nat.beq t u=true) (hx:lookO l x=some v) (ho:Own e ke.sz lo nx xs G v) (hy:lookO l y=some w) (hw:elems G w=some (ys.map .imm))
  (hs:0 < ke.sz) (hb:ke.bytes<=4096) (hz:ke.zero.fits ke.sz=true) (hys:∀ y∈ys,(AV.imm y).fits ke.sz=true) (hm:xs.length+ys.length<=most) (hid:lo<=base+i/\base+i < nx) (hd:Nat.ble (d+1) nt=true)
  (next:∀ v' G',Own e ke.sz lo nx (xs++ys) G' v'->(∀ o,o < lo->G' o=G o)->R C nt ol base (i+1) r ((d,v')::l) G' nx df pk Φ) :
  R C nt ol base i (⟨some d, .call { callee := .builtin .append,args := #[x,y],argTypes := #[t,u] },ty,pos,af,none⟩::r) l G nx df pk Φ:=by
 rcases ho with ⟨rfl,rfl⟩|⟨o,h1,h2,rfl,hG⟩
 ·refine R.op1 (O.appNil ht hu hx hy hw hs hb hz (fits_all hys) (by simpa using hm)) hd (next _ _ (.inr ⟨base+i,hid.1,hid.2,by simp,by rw [upd_same];simp⟩) fun o ho=>upd_ne _ _ _ _ (by omega))
 ·refine R.op1 (O.appRow ht hu hx hG (by simp) hy hw hs hb hz (fits_all hys) (by simpa using hm)) hd (next _ _ (.inr ⟨o,h1,h2,by simp,by rw [upd_same];simp⟩) fun o' ho'=>upd_ne _ _ _ _ (by omega))
end Go.Abs

/- One step of the logic after the other, as far as it goes. -/
open Go Go.Abs
namespace Go.Abs
set_option maxRecDepth 100000
structure Hold (Q:Prop):Prop where
 out:Q
variable {C:Cfg} {id:Nat} {l:Env} {G:Nat->Obj} {nx:Nat} {df:List (AV×List AV)} {pk:Pk}
theorem O.addrX {x y:Operand} {t e:TypeId} {k ke:TyI} {xs:List IV} {kk:IntKind} {n:Int} {u:IV} [hk:TyIs C t k] (ht:k.d = .sl e) (he:TyIs C e ke) (hx:lookO l x=some (.imm (.lst xs))) (hy:lookO l y=some (.imm (.int kk n)))
  (h0:0<=n) (hu:xs[n.toNat]? = some u) (hs:u.cells.length=ke.sz):OpV C id l G nx df pk (.indexAddr t x y) (.imm (.eptr xs n.toNat 0)) []:=O.addrL ht hx hy h0 hu hs
variable {fid nt:Nat} {Φ:Out->Prop} {b:Code}
theorem W.unseq {a:Code} (h:W C fid nt (.seq a b) l G nx df pk Φ):W C fid nt a l G nx df pk (aft C fid nt b Φ):=by
 refine .mk fun t ht=>?_
 obtain ⟨n,o,h1,h2⟩:=h.st t ht
 unfold code at h1
 cases hc:code C (low C n) n fid nt a ⟨t,G,nx,df,pk⟩ with
 |none=>rw [hc] at h1;cases h1
 |some o'=>
  rw [hc] at h1
  cases o' with
  |norm s=>exact ⟨n,_,hc,n,o,h1,h2⟩
  |_=>cases h1;exact ⟨n,_,hc,h2⟩
theorem W.seqR {k:Nat} {ol:Array Oper} {dr:Bool} (h:W C fid nt (.region k ol dr) l G nx df pk (aft C fid nt b Φ)):W C fid nt (.seq (.region k ol dr) b) l G nx df pk Φ:=W.seq h
theorem W.seqC {c:Operand} {a a':Code} (h:W C fid nt (.cond c a a') l G nx df pk (aft C fid nt b Φ)):W C fid nt (.seq (.cond c a a') b) l G nx df pk Φ:=W.seq h
theorem O.addrRX {x y:Operand} {t e et:TypeId} {k ke:TyI} {o m sz:Nat} {xs:List AV} {fr:Bool} {kk:IntKind} {n:Int} [hk:TyIs C t k] (ht:k.d = .sl e) (he:TyIs C e ke) (hx:lookO l x=some (.row o m)) (hy:lookO l y=some (.imm (.int kk n)))
  (hG:G o = .row et sz xs fr) (hm:xs.length=m) (h0:0<=n/\n < m) (hs:sz=ke.sz):OpV C id l G nx df pk (.indexAddr t x y) (.rptr o m n.toNat 0) []:=O.addrR ht hx hy hG hm h0 hs
theorem O.loadRX {x:Operand} {t et:TypeId} {k:TyI} {o m n sz:Nat} {xs:List AV} {fr:Bool} {u:AV} [hk:TyIs C t k] (hx:lookO l x=some (.rptr o m n 0)) (hG:G o = .row et sz xs fr) (hm:xs.length=m) (hu:xs[n]? = some u) (hc:u.cells=[u]) (hg:k.d.isAgg=false) (hs:k.sz=1) :
  OpV C id l G nx df pk (.load t x) u []:=O.loadR hx hG hm hu hc hg hs
theorem O.boolNe {t:TypeId} {x y:Operand} {t2:TypeId} {m n:Bool} {k:TyI} [hk:TyIs C t k] (hb:k.d = .bool) (hx:lookO l x=some (.imm (.bool m))) (hy:lookO l y=some (.imm (.bool n))):OpV C id l G nx df pk (.binOp .neq t x y t2) (.imm (.bool (!(m==n)))) []:=
 O.of fun t L ht=>by simp only [opA,ht.ev hx,ht.ev hy,binA,eqAV,hk.is,hb,eqOp,Option.map_some]
theorem SB {P Q:Prop} (k:Q) (h:Hold Q->P:=by
 intro k
 (repeat (first|(apply R.op0;(first|exact O.move rfl|exact O.assign rfl|exact O.fieldP rfl rfl rfl rfl|exact O.loadP rfl rfl rfl (by first|rfl|assumption) rfl|exact O.cmp rfl rfl rfl|exact O.int rfl rfl (add64 (by omega))|exact O.int rfl rfl (sub64 (by omega))|exact O.int rfl rfl (add8 (by omega))|exact O.pickT rfl (by first|with_reducible rfl|with_reducible assumption|decide) rfl|exact O.pickF rfl (by first|with_reducible rfl|with_reducible assumption|decide) rfl|exact O.lenL rfl rfl|exact O.lenSv rfl rfl|exact O.lenS rfl rfl|exact O.not rfl|exact O.svEq rfl rfl|exact O.svNe rfl rfl|exact O.str rfl rfl rfl|exact O.boolEq rfl rfl rfl|exact O.boolNe rfl rfl rfl|exact O.fieldE rfl rfl rfl rfl|exact O.fieldR rfl rfl rfl rfl|exact O.loadPA rfl rfl (by first|rfl|assumption) rfl rfl|exact O.extr rfl rfl|(apply O.addrX;exact rfl;infer_instance;exact rfl;exact rfl;omega;(first|with_reducible assumption|assumption);(first|exact rfl|assumption))|(apply O.load1;exact rfl;(first|with_reducible assumption|assumption);exact rfl;exact rfl;exact rfl)|(apply O.loadE;exact rfl;exact rfl;exact rfl;(first|with_reducible assumption|assumption);exact rfl)|(apply O.loadEA;exact rfl;exact rfl;(first|with_reducible assumption|assumption);exact rfl)|(apply O.call;exact rfl;exact rfl;(first|with_reducible assumption|assumption))|(apply O.addrRX;exact rfl;infer_instance;exact rfl;exact rfl;(first|with_reducible assumption|assumption);(first|exact rfl|assumption);omega;exact rfl)|(apply O.loadRX;exact rfl;(first|with_reducible assumption|assumption);(first|exact rfl|assumption);(first|with_reducible assumption|assumption);exact rfl;exact rfl;exact rfl)|(apply O.lenO;exact rfl;exact rfl;(first|with_reducible assumption|assumption))|(apply O.build;exact rfl;exact rfl;exact rfl;exact rfl));exact rfl)|(apply R.guardT1;exact rfl;exact rfl;(first|with_reducible rfl|with_reducible assumption|decide))|(apply R.guardT0;exact rfl;exact rfl;(first|with_reducible rfl|with_reducible assumption|decide))|(apply R.guardF1;exact rfl;exact rfl;(first|with_reducible rfl|with_reducible assumption|decide);exact rfl)|(apply R.guardF0;exact rfl;exact rfl;(first|with_reducible rfl|with_reducible assumption|decide);exact rfl)|(apply R.guardN;exact rfl;exact rfl;exact rfl)|apply R.done|(first|apply W.seqR|apply W.seqC)|apply W.region|apply W.draw|(apply W.condT;exact rfl;(first|with_reducible rfl|with_reducible assumption|decide))|(apply W.condF;exact rfl;(first|with_reducible rfl|with_reducible assumption|decide))|apply W.retAft|apply W.retBlk|apply W.retLop|apply W.exitAft|apply W.exitLop|apply W.exitBlk|(apply W.exitBlkNe;exact rfl)|apply W.skipAft|apply W.skipBlk|apply W.retCut|apply W.exitCut|apply R.skip|(apply D.op0;(first|exact O.move rfl|exact O.assign rfl|exact O.fieldP rfl rfl rfl rfl|exact O.loadP rfl rfl rfl (by first|rfl|assumption) rfl|exact O.cmp rfl rfl rfl|exact O.int rfl rfl (add64 (by omega))|exact O.int rfl rfl (sub64 (by omega))|exact O.int rfl rfl (add8 (by omega))|exact O.pickT rfl (by first|with_reducible rfl|with_reducible assumption|decide) rfl|exact O.pickF rfl (by first|with_reducible rfl|with_reducible assumption|decide) rfl|exact O.lenL rfl rfl|exact O.lenSv rfl rfl|exact O.lenS rfl rfl|exact O.not rfl|exact O.svEq rfl rfl|exact O.svNe rfl rfl|exact O.str rfl rfl rfl|exact O.boolEq rfl rfl rfl|exact O.boolNe rfl rfl rfl|exact O.fieldE rfl rfl rfl rfl|exact O.fieldR rfl rfl rfl rfl|exact O.loadPA rfl rfl (by first|rfl|assumption) rfl rfl|exact O.extr rfl rfl|(apply O.addrX;exact rfl;infer_instance;exact rfl;exact rfl;omega;(first|with_reducible assumption|assumption);(first|exact rfl|assumption))|(apply O.load1;exact rfl;(first|with_reducible assumption|assumption);exact rfl;exact rfl;exact rfl)|(apply O.loadE;exact rfl;exact rfl;exact rfl;(first|with_reducible assumption|assumption);exact rfl)|(apply O.loadEA;exact rfl;exact rfl;(first|with_reducible assumption|assumption);exact rfl)|(apply O.call;exact rfl;exact rfl;(first|with_reducible assumption|assumption))|(apply O.addrRX;exact rfl;infer_instance;exact rfl;exact rfl;(first|with_reducible assumption|assumption);(first|exact rfl|assumption);omega;exact rfl)|(apply O.loadRX;exact rfl;(first|with_reducible assumption|assumption);(first|exact rfl|assumption);(first|with_reducible assumption|assumption);exact rfl;exact rfl;exact rfl)|(apply O.lenO;exact rfl;exact rfl;(first|with_reducible assumption|assumption))|(apply O.build;exact rfl;exact rfl;exact rfl;exact rfl));exact rfl;exact rfl)|(apply D.guardT1;exact rfl;exact rfl;(first|with_reducible rfl|with_reducible assumption|decide))|(apply D.guardT0;exact rfl;exact rfl;(first|with_reducible rfl|with_reducible assumption|decide))|(apply D.guardF1;exact rfl;exact rfl;(first|with_reducible rfl|with_reducible assumption|decide);exact rfl)|(apply D.guardF0;exact rfl;exact rfl;(first|with_reducible rfl|with_reducible assumption|decide);exact rfl)|(apply D.guardN;exact rfl;exact rfl;exact rfl)|(apply D.done;kernel_rfl)|(apply D.skip;kernel_rfl)))
 exact Hold.out k):P:=h ⟨k⟩
theorem SS {P Q:Prop} (k:Q) (h:Hold Q->P:=by
 intro k
 (repeat (first|(apply R.op0;(first|exact O.move rfl|exact O.assign rfl|exact O.fieldP rfl rfl rfl rfl|exact O.loadP rfl rfl rfl (by first|rfl|assumption) rfl|exact O.cmp rfl rfl rfl|exact O.int rfl rfl (add64 (by omega))|exact O.int rfl rfl (sub64 (by omega))|exact O.int rfl rfl (add8 (by omega))|exact O.pickT rfl (by first|with_reducible rfl|with_reducible assumption|decide) rfl|exact O.pickF rfl (by first|with_reducible rfl|with_reducible assumption|decide) rfl|exact O.lenL rfl rfl|exact O.lenSv rfl rfl|exact O.lenS rfl rfl|exact O.not rfl|exact O.svEq rfl rfl|exact O.svNe rfl rfl|exact O.str rfl rfl rfl|exact O.boolEq rfl rfl rfl|exact O.boolNe rfl rfl rfl|exact O.fieldE rfl rfl rfl rfl|exact O.fieldR rfl rfl rfl rfl|exact O.loadPA rfl rfl (by first|rfl|assumption) rfl rfl|exact O.extr rfl rfl|(apply O.addrX;exact rfl;infer_instance;exact rfl;exact rfl;omega;(first|with_reducible assumption|assumption);(first|exact rfl|assumption))|(apply O.load1;exact rfl;(first|with_reducible assumption|assumption);exact rfl;exact rfl;exact rfl)|(apply O.loadE;exact rfl;exact rfl;exact rfl;(first|with_reducible assumption|assumption);exact rfl)|(apply O.loadEA;exact rfl;exact rfl;(first|with_reducible assumption|assumption);exact rfl)|(apply O.call;exact rfl;exact rfl;(first|with_reducible assumption|assumption))|(apply O.addrRX;exact rfl;infer_instance;exact rfl;exact rfl;(first|with_reducible assumption|assumption);(first|exact rfl|assumption);omega;exact rfl)|(apply O.loadRX;exact rfl;(first|with_reducible assumption|assumption);(first|exact rfl|assumption);(first|with_reducible assumption|assumption);exact rfl;exact rfl;exact rfl)|(apply O.lenO;exact rfl;exact rfl;(first|with_reducible assumption|assumption))|(apply O.build;exact rfl;exact rfl;exact rfl;exact rfl));exact rfl)|(apply R.guardT1;exact rfl;exact rfl;(first|with_reducible rfl|with_reducible assumption|decide))|(apply R.guardT0;exact rfl;exact rfl;(first|with_reducible rfl|with_reducible assumption|decide))|(apply R.guardF1;exact rfl;exact rfl;(first|with_reducible rfl|with_reducible assumption|decide);exact rfl)|(apply R.guardF0;exact rfl;exact rfl;(first|with_reducible rfl|with_reducible assumption|decide);exact rfl)|(apply R.guardN;exact rfl;exact rfl;exact rfl)|apply R.done|apply W.seq|apply W.region|apply W.draw|apply W.block|(apply W.condT;exact rfl;(first|with_reducible rfl|with_reducible assumption|decide))|(apply W.condF;exact rfl;(first|with_reducible rfl|with_reducible assumption|decide))|apply W.retAft|apply W.retBlk|apply W.retLop|apply W.exitAft|apply W.exitLop|apply W.exitBlk|(apply W.exitBlkNe;exact rfl)|apply W.skipAft|apply W.skipBlk|apply W.retCut|apply W.exitCut|apply R.skip|(apply D.op0;(first|exact O.move rfl|exact O.assign rfl|exact O.fieldP rfl rfl rfl rfl|exact O.loadP rfl rfl rfl (by first|rfl|assumption) rfl|exact O.cmp rfl rfl rfl|exact O.int rfl rfl (add64 (by omega))|exact O.int rfl rfl (sub64 (by omega))|exact O.int rfl rfl (add8 (by omega))|exact O.pickT rfl (by first|with_reducible rfl|with_reducible assumption|decide) rfl|exact O.pickF rfl (by first|with_reducible rfl|with_reducible assumption|decide) rfl|exact O.lenL rfl rfl|exact O.lenSv rfl rfl|exact O.lenS rfl rfl|exact O.not rfl|exact O.svEq rfl rfl|exact O.svNe rfl rfl|exact O.str rfl rfl rfl|exact O.boolEq rfl rfl rfl|exact O.boolNe rfl rfl rfl|exact O.fieldE rfl rfl rfl rfl|exact O.fieldR rfl rfl rfl rfl|exact O.loadPA rfl rfl (by first|rfl|assumption) rfl rfl|exact O.extr rfl rfl|(apply O.addrX;exact rfl;infer_instance;exact rfl;exact rfl;omega;(first|with_reducible assumption|assumption);(first|exact rfl|assumption))|(apply O.load1;exact rfl;(first|with_reducible assumption|assumption);exact rfl;exact rfl;exact rfl)|(apply O.loadE;exact rfl;exact rfl;exact rfl;(first|with_reducible assumption|assumption);exact rfl)|(apply O.loadEA;exact rfl;exact rfl;(first|with_reducible assumption|assumption);exact rfl)|(apply O.call;exact rfl;exact rfl;(first|with_reducible assumption|assumption))|(apply O.addrRX;exact rfl;infer_instance;exact rfl;exact rfl;(first|with_reducible assumption|assumption);(first|exact rfl|assumption);omega;exact rfl)|(apply O.loadRX;exact rfl;(first|with_reducible assumption|assumption);(first|exact rfl|assumption);(first|with_reducible assumption|assumption);exact rfl;exact rfl;exact rfl)|(apply O.lenO;exact rfl;exact rfl;(first|with_reducible assumption|assumption))|(apply O.build;exact rfl;exact rfl;exact rfl;exact rfl));exact rfl;exact rfl)|(apply D.guardT1;exact rfl;exact rfl;(first|with_reducible rfl|with_reducible assumption|decide))|(apply D.guardT0;exact rfl;exact rfl;(first|with_reducible rfl|with_reducible assumption|decide))|(apply D.guardF1;exact rfl;exact rfl;(first|with_reducible rfl|with_reducible assumption|decide);exact rfl)|(apply D.guardF0;exact rfl;exact rfl;(first|with_reducible rfl|with_reducible assumption|decide);exact rfl)|(apply D.guardN;exact rfl;exact rfl;exact rfl)|(apply D.done;kernel_rfl)|(apply D.skip;kernel_rfl)))
 exact Hold.out k):P:=h ⟨k⟩
theorem SD {P Q:Prop} (k:Q) (h:Hold Q->P:=by
 intro k
 (repeat (first|(apply D.op0;(first|exact O.move rfl|exact O.assign rfl|exact O.fieldP rfl rfl rfl rfl|exact O.loadP rfl rfl rfl (by first|rfl|assumption) rfl|exact O.cmp rfl rfl rfl|exact O.int rfl rfl (add64 (by omega))|exact O.int rfl rfl (sub64 (by omega))|exact O.int rfl rfl (add8 (by omega))|exact O.pickT rfl (by first|with_reducible rfl|with_reducible assumption|decide) rfl|exact O.pickF rfl (by first|with_reducible rfl|with_reducible assumption|decide) rfl|exact O.lenL rfl rfl|exact O.lenSv rfl rfl|exact O.lenS rfl rfl|exact O.not rfl|exact O.svEq rfl rfl|exact O.svNe rfl rfl|exact O.str rfl rfl rfl|exact O.boolEq rfl rfl rfl|exact O.boolNe rfl rfl rfl|exact O.fieldE rfl rfl rfl rfl|exact O.fieldR rfl rfl rfl rfl|exact O.loadPA rfl rfl (by first|rfl|assumption) rfl rfl|exact O.extr rfl rfl|(apply O.addrX;exact rfl;infer_instance;exact rfl;exact rfl;omega;(first|with_reducible assumption|assumption);(first|exact rfl|assumption))|(apply O.load1;exact rfl;(first|with_reducible assumption|assumption);exact rfl;exact rfl;exact rfl)|(apply O.loadE;exact rfl;exact rfl;exact rfl;(first|with_reducible assumption|assumption);exact rfl)|(apply O.loadEA;exact rfl;exact rfl;(first|with_reducible assumption|assumption);exact rfl)|(apply O.call;exact rfl;exact rfl;(first|with_reducible assumption|assumption))|(apply O.addrRX;exact rfl;infer_instance;exact rfl;exact rfl;(first|with_reducible assumption|assumption);(first|exact rfl|assumption);omega;exact rfl)|(apply O.loadRX;exact rfl;(first|with_reducible assumption|assumption);(first|exact rfl|assumption);(first|with_reducible assumption|assumption);exact rfl;exact rfl;exact rfl)|(apply O.lenO;exact rfl;exact rfl;(first|with_reducible assumption|assumption))|(apply O.build;exact rfl;exact rfl;exact rfl;exact rfl));exact rfl;exact rfl)|(apply D.guardT1;exact rfl;exact rfl;(first|with_reducible rfl|with_reducible assumption|decide))|(apply D.guardT0;exact rfl;exact rfl;(first|with_reducible rfl|with_reducible assumption|decide))|(apply D.guardF1;exact rfl;exact rfl;(first|with_reducible rfl|with_reducible assumption|decide);exact rfl)|(apply D.guardF0;exact rfl;exact rfl;(first|with_reducible rfl|with_reducible assumption|decide);exact rfl)|(apply D.guardN;exact rfl;exact rfl;exact rfl)))
 exact Hold.out k):P:=h ⟨k⟩
theorem Sub.auto {l' l:Env} (h:Sub l' l:=by
 (repeat (first|exact Sub.nil _|(apply Sub.cons;exact rfl)))):Sub l' l:=h
end Go.Abs

/- Steps without memory, as far as they go. -/
open Go Go.Abs
namespace Go.Abs
set_option maxRecDepth 100000
theorem SO {P Q:Prop} (k:Q) (h:Hold Q->P:=by
 intro k
 (repeat (first|(apply R.op0;(first|exact O.move rfl|exact O.assign rfl|exact O.fieldP rfl rfl rfl rfl|exact O.loadP rfl rfl rfl (by first|rfl|assumption) rfl|exact O.cmp rfl rfl rfl|exact O.int rfl rfl (add64 (by omega))|exact O.int rfl rfl (sub64 (by omega))|exact O.int rfl rfl (add8 (by omega))|exact O.pickT rfl (by first|with_reducible rfl|with_reducible assumption|decide) rfl|exact O.pickF rfl (by first|with_reducible rfl|with_reducible assumption|decide) rfl|exact O.lenL rfl rfl|exact O.lenSv rfl rfl|exact O.lenS rfl rfl|exact O.not rfl|exact O.svEq rfl rfl|exact O.svNe rfl rfl|exact O.str rfl rfl rfl|exact O.boolEq rfl rfl rfl|exact O.fieldE rfl rfl rfl rfl|exact O.fieldR rfl rfl rfl rfl|exact O.loadPA rfl rfl (by first|rfl|assumption) rfl rfl|exact O.extr rfl rfl);exact rfl)|(apply R.guardT1;exact rfl;exact rfl;(first|with_reducible rfl|with_reducible assumption|decide))|(apply R.guardT0;exact rfl;exact rfl;(first|with_reducible rfl|with_reducible assumption|decide))|(apply R.guardF1;exact rfl;exact rfl;(first|with_reducible rfl|with_reducible assumption|decide);exact rfl)|(apply R.guardF0;exact rfl;exact rfl;(first|with_reducible rfl|with_reducible assumption|decide);exact rfl)|(apply R.guardN;exact rfl;exact rfl;exact rfl)|apply R.done|apply W.seq|apply W.region|apply W.draw|apply W.block|(apply W.condT;exact rfl;(first|with_reducible rfl|with_reducible assumption|decide))|(apply W.condF;exact rfl;(first|with_reducible rfl|with_reducible assumption|decide))|apply W.retAft|apply W.retBlk|apply W.retLop|apply W.exitAft|apply W.exitLop|apply W.exitBlk|(apply W.exitBlkNe;exact rfl)|apply W.skipAft|apply W.skipBlk|apply W.retCut|apply W.exitCut|apply R.skip))
 exact Hold.out k):P:=h ⟨k⟩
theorem SOD {P Q:Prop} (k:Q) (h:Hold Q->P:=by
 intro k
 (repeat (first|(apply D.op0;(first|exact O.move rfl|exact O.assign rfl|exact O.fieldP rfl rfl rfl rfl|exact O.loadP rfl rfl rfl (by first|rfl|assumption) rfl|exact O.cmp rfl rfl rfl|exact O.int rfl rfl (add64 (by omega))|exact O.int rfl rfl (sub64 (by omega))|exact O.int rfl rfl (add8 (by omega))|exact O.pickT rfl (by first|with_reducible rfl|with_reducible assumption|decide) rfl|exact O.pickF rfl (by first|with_reducible rfl|with_reducible assumption|decide) rfl|exact O.lenL rfl rfl|exact O.lenSv rfl rfl|exact O.lenS rfl rfl|exact O.not rfl|exact O.svEq rfl rfl|exact O.svNe rfl rfl|exact O.str rfl rfl rfl|exact O.boolEq rfl rfl rfl|exact O.fieldE rfl rfl rfl rfl|exact O.fieldR rfl rfl rfl rfl|exact O.loadPA rfl rfl (by first|rfl|assumption) rfl rfl|exact O.extr rfl rfl);exact rfl;exact rfl)|(apply D.guardT1;exact rfl;exact rfl;(first|with_reducible rfl|with_reducible assumption|decide))|(apply D.guardT0;exact rfl;exact rfl;(first|with_reducible rfl|with_reducible assumption|decide))|(apply D.guardF1;exact rfl;exact rfl;(first|with_reducible rfl|with_reducible assumption|decide);exact rfl)|(apply D.guardF0;exact rfl;exact rfl;(first|with_reducible rfl|with_reducible assumption|decide);exact rfl)|(apply D.guardN;exact rfl;exact rfl;exact rfl)))
 exact Hold.out k):P:=h ⟨k⟩
theorem SOR {P Q:Prop} (k:Q) (h:Hold Q->P:=by
 intro k
 (repeat (first|(apply R.op0;(first|exact O.move rfl|exact O.assign rfl|exact O.fieldP rfl rfl rfl rfl|exact O.loadP rfl rfl rfl (by first|rfl|assumption) rfl|exact O.cmp rfl rfl rfl|exact O.int rfl rfl (add64 (by omega))|exact O.int rfl rfl (sub64 (by omega))|exact O.int rfl rfl (add8 (by omega))|exact O.pickT rfl (by first|with_reducible rfl|with_reducible assumption|decide) rfl|exact O.pickF rfl (by first|with_reducible rfl|with_reducible assumption|decide) rfl|exact O.lenL rfl rfl|exact O.lenSv rfl rfl|exact O.lenS rfl rfl|exact O.not rfl|exact O.svEq rfl rfl|exact O.svNe rfl rfl|exact O.str rfl rfl rfl|exact O.boolEq rfl rfl rfl|exact O.fieldE rfl rfl rfl rfl|exact O.fieldR rfl rfl rfl rfl|exact O.loadPA rfl rfl (by first|rfl|assumption) rfl rfl|exact O.extr rfl rfl);exact rfl)|(apply R.guardT1;exact rfl;exact rfl;(first|with_reducible rfl|with_reducible assumption|decide))|(apply R.guardT0;exact rfl;exact rfl;(first|with_reducible rfl|with_reducible assumption|decide))|(apply R.guardF1;exact rfl;exact rfl;(first|with_reducible rfl|with_reducible assumption|decide);exact rfl)|(apply R.guardF0;exact rfl;exact rfl;(first|with_reducible rfl|with_reducible assumption|decide);exact rfl)|(apply R.guardN;exact rfl;exact rfl;exact rfl)|apply R.done))
 exact Hold.out k):P:=h ⟨k⟩
end Go.Abs

/- Names: which strings are names. -/
open Go Go.Abs
namespace Go.Abs
instance fnis69:FnIs CC 154:=⟨rfl,fun _=>rfl⟩
instance fnis39:FnIs CC 168:=⟨rfl,fun _=>rfl⟩
instance fnis38:FnIs CC 164:=⟨rfl,fun _=>rfl⟩
instance fnis40:FnIs CC 191:=⟨rfl,fun _=>rfl⟩
instance fnis10:FnIs CC 108:=⟨rfl,fun _=>rfl⟩
instance fnis11:FnIs CC 167:=⟨rfl,fun _=>rfl⟩
set_option maxRecDepth 100000
set_option maxHeartbeats 1000000
def idxFrom (l:List Str) (s:Str) (i:Nat):Int:=
 match l with
 |[] => -1
 |x::r=>if (x==s)=true then i else idxFrom r s (i+1)
theorem idxFrom_drop {l:List Str} {s x:Str} {i k:Nat} (h:l[i]? = some x):idxFrom (l.drop i) s k=if (x==s)=true then (k:Int) else idxFrom (l.drop (i+1)) s (k+1):=by
 have:l.drop i=x::l.drop (i+1):=by
  rw [List.getElem?_eq_some_iff] at h
  obtain ⟨hi,rfl⟩:=h
  exact List.drop_eq_getElem_cons hi
 rw [this,idxFrom]
theorem idxFrom_nonneg (s:Str):∀ (l:List Str) (k:Nat),decide (idxFrom l s k>=0)=l.contains s
 |[],k=>rfl
 |x::r,k=>by
  unfold idxFrom
  rw [List.contains_cons]
  by_cases h:(x==s)=true
  ·rw [if_pos h]
   have:(s==x)=true:=by rw [beq_iff_eq] at h ⊢;exact h.symm
   rw [this]
   simp
  ·rw [if_neg h,idxFrom_nonneg s r (k+1)]
   have:(s==x)=false:=by
    rw [<-Bool.not_eq_true,beq_iff_eq]
    rw [beq_iff_eq] at h
    exact fun e=>h e.symm
   rw [this,Bool.false_or]
theorem ret69 (l:List Str) (s:Str) (hl:l.length<=9223372036854775807):Ret CC 154 [.lst (l.map sv),sv s] (.int .i64 (idxFrom l s 0)):=by
 refine Ret.of (fn:=Go.Proofs.Tryz.f154) (by kernel_rfl) rfl rfl ?_
 refine SO ?_
 refine W.loop (X:=Nat) (fun i=>[(0, .imm (.lst (l.map sv))),(1, .imm (sv s)),(5, .imm (.int .i64 i))]) (fun i _ _=>i<=l.length/\idxFrom l s 0=idxFrom (l.drop i) s i) (fun i=>l.length-i) 0 (.cons rfl (.cons rfl (.cons rfl (.nil _)))) ⟨Nat.zero_le _,rfl⟩ ?_
 intro i nx G ⟨hi,he⟩
 refine SO ?_
 refine W.cond rfl (fun hc=>?_) (fun hc=>?_)
 ·have hlt:i < l.length:=by have:=of_decide_eq_true hc;rw [List.length_map] at this;omega
  obtain ⟨x,hx⟩:∃ x,l[i]? = some x:=⟨l[i],by simp [hlt]⟩
  rw [idxFrom_drop hx] at he
  refine SO ?_
  refine R.op0 (O.addrL (u:=sv x) rfl rfl rfl (by omega) (by simp [hx]) rfl) rfl ?_
  refine R.op0 (O.load1 (u:=sv x) rfl (by simp [hx]) rfl rfl rfl) rfl ?_
  refine SO ?_
  refine W.cond rfl (fun hc=>?_) (fun hc=>?_)
  ·rw [if_pos hc] at he
   refine SO ?_
   exact W.retFin1 rfl ⟨_,by rw [he];rfl⟩
  ·rw [if_neg (by simp [hc])] at he
   refine SO ?_
   refine W.skipLop (i+1) ?_ ?_ ⟨hlt,he⟩
   ·show l.length-(i+1) < l.length-i;omega
   ·exact .cons rfl (.cons rfl (.cons rfl (.nil _)))
 ·have hge:¬ i < l.length:=by have:=of_decide_eq_false hc;rw [List.length_map] at this;omega
  have:l.drop i=[]:=List.drop_eq_nil_of_le (by omega)
  refine SO ?_
  exact W.retFin1 rfl ⟨_,by rw [he,this];rfl⟩
theorem idxFrom_sym {x s:Str}:(x==s)=(s==x):=by
 rw [Bool.eq_iff_iff,beq_iff_eq,beq_iff_eq];exact ⟨Eq.symm,Eq.symm⟩
theorem ret39 (l:List Str) (s:Str) (hl:l.length<=9223372036854775807):Ret CC 168 [.lst (l.map sv),sv s] (.bool (l.contains s)):=by
 refine Ret.of (fn:=Go.Proofs.Tryz.f168) (by kernel_rfl) rfl rfl ?_
 refine SO ?_
 refine R.op0 (O.call rfl rfl (ret69 l s hl)) rfl ?_
 refine SO ?_
 exact W.retFin1 rfl ⟨_,by rw [<-idxFrom_nonneg s l 0];rfl⟩
end Go.Abs

/- Names: which strings are names. -/
open Go Go.Abs
namespace Go.Abs
set_option maxRecDepth 100000
set_option maxHeartbeats 1000000
def kws:List Str:=[[97,102,116,101,114],[97,110,100],[97,115],[97,116],[98,111,116,104],[98,121],[99,111,117,110,116],[101,97,99,104],[101,108,115,101],[103,114,101,97,116],[103,114,111,117,112],[105,110],[105,115],[107,101,121],[108,97,99,107],[108,101,97,115,116],[108,101,115,115],[108,101,116],[111,102],[111,110,99,101],[111,114],[111,116,104,101,114],[112,97,105,114],[112,114,101,118],[114,101,115,116],[115,97,109,101],[115,104,105,102,116],[115,108,105,100,101],[115,111,117,114,99,101],[115,117,109],[116,111,116,97,108],[118,97,108],[119,104,101,114,101],[119,105,116,104,105,110]]
theorem ret38:Ret CC 164 [] (.fmp (kws.map sv) (List.replicate 34 (.bool true))):=Ret.reckon (n:=60) (by kernel_rfl)
theorem ret40:Ret CC 191 [] (.lst (kws.map sv)):=Ret.reckon (n:=60) (by kernel_rfl)
def okc (c:UInt8):Bool := !(decide ((c.toNat:Int) < 97)||decide ((c.toNat:Int) > 122))
def lows (s:Str):Bool:=s.all okc
def nameOk (s:Str):Bool:=decide (0 < s.length)&&decide (s.length<=8) && !kws.contains s&&lows s
theorem low_drop {s:Str} {c:UInt8} {i:Nat} (h:s[i]? = some c):lows (s.drop i)=(okc c&&lows (s.drop (i+1))):=by
 have:s.drop i=c::s.drop (i+1):=by
  rw [List.getElem?_eq_some_iff] at h
  obtain ⟨hi,rfl⟩:=h
  exact List.drop_eq_getElem_cons hi
 rw [this,lows,List.all_cons];rfl
theorem keyFind_sv (s:Str):∀ l:List Str,keyFind (sv s) (l.map sv)=some (l.findIdx? fun x=>s==x)
 |[]=>rfl
 |x::r=>by
  have h:scalarEq (sv s) (sv x)=some (s==x):=by
   show some ((ByteArray.mk s.toArray)==(ByteArray.mk x.toArray))=_
   rw [sv_beq]
  rw [List.map_cons,keyFind,h,List.findIdx?_cons,keyFind_sv s r]
  cases s==x<;>rfl
theorem kw_at (s:Str):keyAt (sv s) (kws.map sv) (List.replicate 34 (.bool true)) (.bool false)=some (.bool (kws.contains s)):=by
 unfold keyAt
 rw [keyFind_sv]
 have hc:kws.contains s=(kws.findIdx? fun x=>s==x).isSome:=by
  rw [List.findIdx?_isSome,List.contains_eq_any_beq]
 cases hf:kws.findIdx? fun x=>s==x with
 |none=>rw [hc,hf];rfl
 |some j=>
  rw [hc,hf]
  have hj:j < kws.length:=by
   rw [List.findIdx?_eq_some_iff_getElem] at hf
   exact hf.1
  have hj':j < 34:=hj
  show (List.replicate 34 (IV.bool true))[j]? = some (IV.bool true)
  rw [List.getElem?_replicate,if_pos hj']
theorem ret10 (s:Str) (hs:s.length<=9223372036854775807):Ret CC 108 [sv s] (.bool (nameOk s)):=by
 refine Ret.of (fn:=Go.Proofs.Tryz.f108) (by kernel_rfl) rfl rfl ?_
 refine SO ?_
 refine W.loop (X:=Nat) (fun i=>[(0, .imm (sv s)),(5, .imm (.int .i64 s.length)),(6, .imm (.int .i64 i))]) (fun i _ _=>i<=s.length/\lows s=lows (s.drop i)) (fun i=>s.length-i) 0 (.cons rfl (.cons rfl (.cons rfl (.nil _)))) ⟨Nat.zero_le _,rfl⟩ ?_
 intro i nx G ⟨hi,he⟩
 refine SO ?_
 refine W.cond rfl (fun hc=>?_) (fun hc=>?_)
 ·have hlt:i < s.length:=by have:=of_decide_eq_true hc;omega
  obtain ⟨c,hx⟩:∃ c,s[i]? = some c:=⟨s[i],by simp [hlt]⟩
  rw [low_drop hx,okc] at he
  refine SO ?_
  refine R.op0 (O.indexSv rfl rfl rfl hx) rfl ?_
  refine SO ?_
  refine R.guardC0 rfl rfl rfl (fun h1=>?_) (fun h1=>?_)
  ·refine R.op0 (O.move rfl) rfl ?_
   refine SO ?_
   refine R.op0 (O.indexSv rfl rfl rfl hx) rfl ?_
   refine SO ?_
   refine W.cond rfl (fun h2=>?_) (fun h2=>?_)
   ·refine SO ?_
    refine W.retFin1 rfl ⟨[],?_⟩
    have:lows s=false:=by rw [he,h1,h2];rfl
    rw [nameOk,this];simp [peek]
   ·rw [h1,h2] at he
    refine SO ?_
    refine W.skipLop (i+1) ?_ ?_ ⟨hlt,he.trans (by simp)⟩
    ·show s.length-(i+1) < s.length-i;omega
    ·exact .cons rfl (.cons rfl (.cons rfl (.nil _)))
  ·refine SO ?_
   refine W.retFin1 rfl ⟨[],?_⟩
   have:lows s=false:=by rw [he,h1];rfl
   rw [nameOk,this];simp [peek]
 ·have hge:¬ i < s.length:=by have:=of_decide_eq_false hc;omega
  have hlow:lows s=true:=by rw [he,List.drop_eq_nil_of_le (by omega)];rfl
  refine SO ?_
  refine R.guardC1 rfl rfl rfl (fun h1=>?_) (fun h1=>?_)
  ·refine SO ?_
   refine R.guardC1 rfl rfl rfl (fun h2=>?_) (fun h2=>?_)
   ·refine R.op0 (O.call rfl rfl ret38) rfl ?_
    refine SO ?_
    refine R.op0 (O.lookF rfl rfl rfl rfl rfl (kw_at s)) rfl ?_
    refine SO ?_
    refine W.retFin1 rfl ⟨[],?_⟩
    have h1':=of_decide_eq_true h1
    have h2':=of_decide_eq_true h2
    simp [nameOk,hlow,peek]
    omega
   ·refine SO ?_
    refine W.retFin1 rfl ⟨[],?_⟩
    have h2':=of_decide_eq_false h2
    simp [nameOk,hlow,peek]
    omega
  ·refine SO ?_
   refine W.retFin1 rfl ⟨[],?_⟩
   have h1':=of_decide_eq_false h1
   simp [nameOk,hlow,peek]
   omega
end Go.Abs

/- Names: the reference's. -/
open Go Go.Abs
namespace Go.Abs
set_option maxRecDepth 100000
set_option maxHeartbeats 1000000
theorem ret11 (s:Str) (hs:s.length<=9223372036854775807):Ret CC 167 [sv s] (.bool (nameOk s)):=by
 refine Ret.of (fn:=Go.Proofs.Tryz.f167) (by kernel_rfl) rfl rfl ?_
 refine SO ?_
 refine R.guardC0 rfl rfl rfl (fun h1=>?_) (fun h1=>?_)
 ·have h1':=of_decide_eq_false h1
  refine SO ?_
  refine R.guardC0 rfl rfl rfl (fun h2=>?_) (fun h2=>?_)
  ·have h2':=of_decide_eq_false h2
   refine R.op0 (O.call rfl rfl ret40) rfl ?_
   refine SO ?_
   refine R.op0 (O.call rfl rfl (ret39 kws s (by decide))) rfl ?_
   refine SO ?_
   refine W.cond rfl (fun h3=>?_) (fun h3=>?_)
   ·refine SO ?_
    refine W.retFin1 rfl ⟨[],?_⟩
    have h3':s∈kws:=by simpa using h3
    simp [nameOk,h3',peek]
   ·have h3':¬ s∈kws:=by simpa using h3
    refine SO ?_
    refine W.loop (X:=Nat) (fun i=>[(0, .imm (sv s)),(3, .imm (.int .i64 i))]) (fun i _ _=>i<=s.length/\lows s=lows (s.drop i)) (fun i=>s.length-i) 0 (.cons rfl (.cons rfl (.nil _))) ⟨Nat.zero_le _,rfl⟩ ?_
    intro i nx G ⟨hi,he⟩
    refine SO ?_
    refine W.cond rfl (fun hc=>?_) (fun hc=>?_)
    ·have hlt:i < s.length:=by have:=of_decide_eq_true hc;omega
     obtain ⟨c,hx⟩:∃ c,s[i]? = some c:=⟨s[i],by simp [hlt]⟩
     rw [low_drop hx,okc] at he
     refine SO ?_
     refine R.op0 (O.indexSv rfl rfl rfl hx) rfl ?_
     refine SO ?_
     refine R.guardC0 rfl rfl rfl (fun h4=>?_) (fun h4=>?_)
     ·refine R.op0 (O.move rfl) rfl ?_
      refine SO ?_
      refine R.op0 (O.indexSv rfl rfl rfl hx) rfl ?_
      refine SO ?_
      refine W.cond rfl (fun h5=>?_) (fun h5=>?_)
      ·refine SO ?_
       refine W.retFin1 rfl ⟨[],?_⟩
       have:lows s=false:=by rw [he,h4,h5];rfl
       rw [nameOk,this];simp [peek]
      ·rw [h4,h5] at he
       refine SO ?_
       refine W.skipLop (i+1) ?_ ?_ ⟨hlt,he.trans (by simp)⟩
       ·show s.length-(i+1) < s.length-i;omega
       ·exact .cons rfl (.cons rfl (.nil _))
     ·refine SO ?_
      refine W.retFin1 rfl ⟨[],?_⟩
      have:lows s=false:=by rw [he,h4];rfl
      rw [nameOk,this];simp [peek]
    ·have hge:¬ i < s.length:=by have:=of_decide_eq_false hc;omega
     have hlow:lows s=true:=by rw [he,List.drop_eq_nil_of_le (by omega)];rfl
     refine SO ?_
     refine W.retFin1 rfl ⟨[],?_⟩
     simp [nameOk,hlow,h3',peek]
     omega
  ·have h2':=of_decide_eq_true h2
   refine SO ?_
   refine W.retFin1 rfl ⟨[],?_⟩
   simp [nameOk,peek]
   omega
 ·have h1':=of_decide_eq_true h1
  refine SO ?_
  refine W.retFin1 rfl ⟨[],?_⟩
  simp [nameOk,peek]
  omega
def wordN:Nat->Str
 |0=>[]
 |n+1=>wordN (n / 26)++[UInt8.ofNat (97+n % 26)]
 decreasing_by omega
theorem wordN_succ (n:Nat):wordN (n+1)=wordN (n / 26)++[UInt8.ofNat (97+n % 26)]:=by rw [wordN]
def good (l:List Str) (n:Nat):Bool:=nameOk (wordN n) && !l.contains (wordN n)
structure First (l:List Str) (n:Nat):Prop where
 pos:1<=n
 good:good l n=true
 least:∀ m,1<=m->m < n->Go.Abs.good l m=false
 small:n<=4294967296
end Go.Abs

/- The reference: terms. -/
open Go Go.Abs
namespace Go.Abs
set_option maxRecDepth 100000
set_option maxHeartbeats 4000000
instance fnis106:FnIs CC 170:=⟨rfl,fun _=>rfl⟩
instance fnis107:FnIs CC 171:=⟨rfl,fun _=>rfl⟩
def ty27:TyI:={ d:=TyD.sl 95,sz:=1,bytes:=24,zero:=AV.nils }
instance tyis27:TyIs CC 23 ty27:=⟨by kernel_rfl⟩
def ty29:TyI:={ d:=TyD.st [(0,1),(1,1)],sz:=2,bytes:=48,zero:=AV.agg [AV.nils,AV.nils] }
instance tyis29:TyIs CC 25 ty29:=⟨by kernel_rfl⟩
def ty30:TyI:={ d:=TyD.sl 3,sz:=1,bytes:=24,zero:=AV.nils }
instance tyis30:TyIs CC 44 ty30:=⟨by kernel_rfl⟩
def ty31:TyI:={ d:=TyD.int IntKind.i64,sz:=1,bytes:=8,zero:=AV.imm (IV.int IntKind.i64 (0)) }
instance tyis31:TyIs CC 27 ty31:=⟨by kernel_rfl⟩
def ty50:TyI:={ d:=TyD.sl 93,sz:=1,bytes:=24,zero:=AV.nils }
instance tyis50:TyIs CC 91 ty50:=⟨by kernel_rfl⟩
def ty55:TyI:={ d:=TyD.int IntKind.i64,sz:=1,bytes:=8,zero:=AV.imm (IV.int IntKind.i64 (0)) }
instance tyis55:TyIs CC 88 ty55:=⟨by kernel_rfl⟩
def ty56:TyI:={ d:=TyD.int IntKind.i64,sz:=1,bytes:=8,zero:=AV.imm (IV.int IntKind.i64 (0)) }
instance tyis56:TyIs CC 89 ty56:=⟨by kernel_rfl⟩
def ty57:TyI:={ d:=TyD.sl 172,sz:=1,bytes:=24,zero:=AV.nils }
instance tyis57:TyIs CC 90 ty57:=⟨by kernel_rfl⟩
def ty59:TyI:={ d:=TyD.st [(0,1),(1,1),(2,1),(3,1),(4,1),(5,1)],sz:=6,bytes:=88,zero:=AV.agg [AV.imm (IV.int IntKind.i64 (0)),AV.imm (IV.str { data:={ toList:=[] } }),AV.imm (IV.int IntKind.i64 (0)),AV.imm (IV.int IntKind.i64 (0)),AV.nils,AV.nils] }
instance tyis59:TyIs CC 93 ty59:=⟨by kernel_rfl⟩
def ty70:TyI:={ d:=TyD.st [(0,1),(1,6)],sz:=7,bytes:=104,zero:=AV.agg [AV.imm (IV.str { data:={ toList:=[] } }),AV.imm (IV.int IntKind.i64 (0)),AV.imm (IV.str { data:={ toList:=[] } }),AV.imm (IV.int IntKind.i64 (0)),AV.imm (IV.int IntKind.i64 (0)),AV.nils,AV.nils] }
instance tyis70:TyIs CC 95 ty70:=⟨by kernel_rfl⟩
def ty121:TyI:={ d:=TyD.int IntKind.i64,sz:=1,bytes:=8,zero:=AV.imm (IV.int IntKind.i64 (0)) }
instance tyis121:TyIs CC 170 ty121:=⟨by kernel_rfl⟩
def ty123:TyI:={ d:=TyD.st [(0,1),(1,1),(2,1)],sz:=3,bytes:=40,zero:=AV.agg [AV.imm (IV.int IntKind.i64 (0)),AV.imm (IV.int IntKind.i64 (0)),AV.nils] }
instance tyis123:TyIs CC 172 ty123:=⟨by kernel_rfl⟩
def inR (n low high:Int):Bool:=decide (n>=low)&&decide (n<=high)
theorem ret106 (n low high:Int):Ret CC 170 [.int .i64 n, .int .i64 low, .int .i64 high] (.bool (inR n low high)):=by
 refine Ret.of (fn:=Go.Proofs.Tryz.f170) (by kernel_rfl) rfl rfl ?_
 refine SO ?_
 refine R.guardC1 rfl rfl rfl (fun h1=>?_) (fun h1=>?_)
 ·refine SO ?_
  exact W.retFin1 rfl ⟨[],by unfold inR;rw [h1];rfl⟩
 ·refine SO ?_
  exact W.retFin1 rfl ⟨[],by unfold inR;rw [h1];rfl⟩
def kidsOf (op n:Int) (other:Bool):Option Nat:=
 if op=1 then (if inR n (-1000000000) 1000000000 then some 0 else none)
 else if op=2\/op=3\/op=4 then some 0
 else if op=5 then (if other then some 0 else none)
 else if op=6\/op=7\/op=8\/op=9\/op=10 then some 2
 else none
mutual
def calcR:Trm->Bool->Int->Int->Int
 | .mk op n kids,other,depth,left=>
  if depth > 10\/left < 1 then -1 else
  match kidsOf op n other with
  |none => -1
  |some k=>if kids.length≠k\/(op≠1/\n≠0) then -1 else calcRs kids other depth left 1
def calcRs:List Trm->Bool->Int->Int->Int->Int
 |[],_,_,_,n=>n
 |k::r,other,depth,left,n=>if calcR k other (depth+1) (left-n) < 0 then -1 else calcRs r other depth left (n+calcR k other (depth+1) (left-n))
end
theorem calcR_mk {op n:Int} {kids:List Trm} {other:Bool} {depth left:Int} (h:¬ (depth > 10\/left < 1)):calcR (.mk op n kids) other depth left=match kidsOf op n other with
  |none => -1
  |some k=>if kids.length≠k\/(op≠1/\n≠0) then -1 else calcRs kids other depth left 1:=by
 rw [calcR,if_neg h]
mutual
theorem calcR_le:∀ (c:Trm) (other:Bool) (depth left:Int),0<=calcR c other depth left->1<=calcR c other depth left/\calcR c other depth left<=left
 | .mk op n kids,other,depth,left,h=>by
  rw [calcR] at h ⊢
  split at h
  ·omega
  ·rename_i h0
   rw [if_neg h0]
   split at h
   ·omega
   ·split at h
    ·omega
    ·rename_i h1
     simp only [if_neg h1]
     have:=calcRs_le kids other depth left 1 (by omega) h
     omega
theorem calcRs_le:∀ (l:List Trm) (other:Bool) (depth left n:Int),1<=n/\n<=left->0<=calcRs l other depth left n->n<=calcRs l other depth left n/\calcRs l other depth left n<=left
 |[],_,_,_,n,hn,_=>by rw [calcRs];omega
 |k::r,other,depth,left,n,hn,h=>by
  rw [calcRs] at h ⊢
  split at h
  ·omega
  ·rename_i h0
   rw [if_neg h0]
   have h1:=calcR_le k other (depth+1) (left-n) (by omega)
   have:=calcRs_le r other depth left (n+calcR k other (depth+1) (left-n)) (by omega) h
   omega
end
theorem calcRs_drop {kids:List Trm} {k:Trm} {i:Nat} (h:kids[i]? = some k) (other:Bool) (depth left n:Int) :
  calcRs (kids.drop i) other depth left n=if calcR k other (depth+1) (left-n) < 0 then -1 else calcRs (kids.drop (i+1)) other depth left (n+calcR k other (depth+1) (left-n)):=by
 have:kids.drop i=k::kids.drop (i+1):=by
  rw [List.getElem?_eq_some_iff] at h
  obtain ⟨hi,rfl⟩:=h
  exact List.drop_eq_getElem_cons hi
 rw [this,calcRs]
theorem ret107 {c:Trm} (hf:c.Fits):∀ (other:Bool) (depth left:Int),(-1000<=depth/\depth<=1000)->(-1000<=left/\left<=1000)->Ret CC 171 [c.iv, .bool other, .int .i64 depth, .int .i64 left] (.int .i64 (calcR c other depth left)):=by
 induction hf with
 |mk op n kids hlen hkf ih=>
 intro other depth left hd hl
 have hlen':kids.length<=9223372036854775807:=hlen
 refine Ret.of (fn:=Go.Proofs.Tryz.f171) (by kernel_rfl) rfl rfl ?_
 refine W.seq (W.region ?_)
 refine R.op1 (O.boxS (cs:=[.imm (.int .i64 op), .imm (.int .i64 n), .imm (.lst (Trm.ivs kids))]) rfl rfl rfl) rfl ?_
 refine SO ?_
 have early:(depth > 10\/left < 1)->calcR (.mk op n kids) other depth left = -1:=fun h=>by rw [calcR,if_pos h]
 refine R.guardC0 rfl rfl rfl (fun h1=>?_) (fun h1=>?_)
 rotate_left
 ·refine SO ?_
  exact W.retFin1 rfl ⟨[],by rw [early (.inl (of_decide_eq_true h1))];rfl⟩
 refine SO ?_
 refine W.cond rfl (fun h2=>?_) (fun h2=>?_)
 ·refine SO ?_
  exact W.retFin1 rfl ⟨[],by rw [early (.inr (of_decide_eq_true h2))];rfl⟩
 have h1':=of_decide_eq_false h1
 have h2':=of_decide_eq_false h2
 have hmk:=calcR_mk (op:=op) (n:=n) (kids:=kids) (other:=other) (depth:=depth) (left:=left) (by omega)
 have hnone:kidsOf op n other=none->calcR (.mk op n kids) other depth left = -1:=fun h=>by rw [hmk,h]
 clear early
 refine W.skipAft ?_
 refine W.seq (W.region ?_)
 refine SOR ?_
 refine W.cut (X:=Nat) (fun k=>[(4, .ptr (0+0) 0),(1, .imm (.bool other)),(2, .imm (.int .i64 depth)),(3, .imm (.int .i64 left)),(9, .imm (.int .i64 1)),(10, .imm (.int .i64 k))])
  (fun k _ G'=>G'=upd (fun _ => .gone) (0+0) (.box [.imm (.int .i64 op), .imm (.int .i64 n), .imm (.lst (Trm.ivs kids))] false)/\kidsOf op n other=some k) ?_ ?_
 ·have hops:op=1\/op=2\/op=3\/op=4\/op=5\/op=6\/op=7\/op=8\/op=9\/op=10\/(op≠1/\op≠2/\op≠3/\op≠4/\op≠5/\op≠6/\op≠7/\op≠8/\op≠9/\op≠10):=by omega
  rcases hops with rfl|rfl|rfl|rfl|rfl|rfl|rfl|rfl|rfl|rfl|⟨n1,n2,n3,n4,n5,n6,n7,n8,n9,n10⟩
  ·refine SO ?_
   refine R.op0 (O.call rfl rfl (ret106 n _ _)) rfl ?_
   refine SO ?_
   refine W.cond rfl (fun h=>?_) (fun h=>?_)
   ·have ho:inR n (-1000000000) 1000000000=false:=by simpa using h
    refine SO ?_
    exact W.retFin1 rfl ⟨[],by rw [hnone (by unfold kidsOf;simp [ho])];rfl⟩
   ·have ho:inR n (-1000000000) 1000000000=true:=by simpa using h
    refine SO ?_
    refine W.skipCut 0 ?_ ⟨rfl,by unfold kidsOf;simp [ho]⟩
    exact .cons rfl (.cons rfl (.cons rfl (.cons rfl (.cons rfl (.cons rfl (.nil _))))))
  ·refine SO ?_
   refine W.skipCut 0 ?_ ⟨rfl,rfl⟩
   exact .cons rfl (.cons rfl (.cons rfl (.cons rfl (.cons rfl (.cons rfl (.nil _))))))
  ·refine SO ?_
   refine W.skipCut 0 ?_ ⟨rfl,rfl⟩
   exact .cons rfl (.cons rfl (.cons rfl (.cons rfl (.cons rfl (.cons rfl (.nil _))))))
  ·refine SO ?_
   refine W.skipCut 0 ?_ ⟨rfl,rfl⟩
   exact .cons rfl (.cons rfl (.cons rfl (.cons rfl (.cons rfl (.cons rfl (.nil _))))))
  ·refine SO ?_
   refine W.cond rfl (fun h=>?_) (fun h=>?_)
   ·have ho:other=false:=by simpa using h
    subst ho
    refine SO ?_
    exact W.retFin1 rfl ⟨[],by rw [hnone rfl];rfl⟩
   ·have ho:other=true:=by simpa using h
    subst ho
    refine SO ?_
    refine W.skipCut 0 ?_ ⟨rfl,rfl⟩
    exact .cons rfl (.cons rfl (.cons rfl (.cons rfl (.cons rfl (.cons rfl (.nil _))))))
  ·refine SO ?_
   refine W.skipCut 2 ?_ ⟨rfl,rfl⟩
   exact .cons rfl (.cons rfl (.cons rfl (.cons rfl (.cons rfl (.cons rfl (.nil _))))))
  ·refine SO ?_
   refine W.skipCut 2 ?_ ⟨rfl,rfl⟩
   exact .cons rfl (.cons rfl (.cons rfl (.cons rfl (.cons rfl (.cons rfl (.nil _))))))
  ·refine SO ?_
   refine W.skipCut 2 ?_ ⟨rfl,rfl⟩
   exact .cons rfl (.cons rfl (.cons rfl (.cons rfl (.cons rfl (.cons rfl (.nil _))))))
  ·refine SO ?_
   refine W.skipCut 2 ?_ ⟨rfl,rfl⟩
   exact .cons rfl (.cons rfl (.cons rfl (.cons rfl (.cons rfl (.cons rfl (.nil _))))))
  ·refine SO ?_
   refine W.skipCut 2 ?_ ⟨rfl,rfl⟩
   exact .cons rfl (.cons rfl (.cons rfl (.cons rfl (.cons rfl (.cons rfl (.nil _))))))
  ·have e1:(op==1)=false:=by simpa using n1
   have e2:(op==2)=false:=by simpa using n2
   have e3:(op==3)=false:=by simpa using n3
   have e4:(op==4)=false:=by simpa using n4
   have e5:(op==5)=false:=by simpa using n5
   have e6:(op==6)=false:=by simpa using n6
   have e7:(op==7)=false:=by simpa using n7
   have e8:(op==8)=false:=by simpa using n8
   have e9:(op==9)=false:=by simpa using n9
   have e10:(op==10)=false:=by simpa using n10
   refine SO ?_
   exact W.retFin1 rfl ⟨[],by rw [hnone (by unfold kidsOf;simp [n1,n2,n3,n4,n5,n6,n7,n8,n9,n10])];rfl⟩
 ·rintro k nx G ⟨rfl,hk⟩
  rw [hk] at hmk
  simp only at hmk
  have hlv:(Trm.ivs kids).length=kids.length:=by rw [Trm.ivs_map,List.length_map]
  refine W.cut (X:=Unit) (fun _=>[(4, .ptr (0+0) 0),(1, .imm (.bool other)),(2, .imm (.int .i64 depth)),(3, .imm (.int .i64 left)),(9, .imm (.int .i64 1)),(10, .imm (.int .i64 k))])
   (fun _ _ G'=>G'=upd (fun _ => .gone) (0+0) (.box [.imm (.int .i64 op), .imm (.int .i64 n), .imm (.lst (Trm.ivs kids))] false)/\kids.length=k/\(op=1\/n=0)) ?_ ?_
  ·have bad:(kids.length≠k\/(op≠1/\n≠0))->calcR (.mk op n kids) other depth left = -1:=fun h=>by rw [hmk,if_pos h]
   rcases Bool.eq_false_or_eq_true (((Trm.ivs kids).length:Int) != (k:Int)) with hA|hA
   ·refine SO ?_
    exact W.retFin1 rfl ⟨[],by rw [bad (.inl (by rw [hlv] at hA;simp at hA;omega))];rfl⟩
   ·have hA':kids.length=k:=by
     rw [hlv] at hA
     simp at hA
     omega
    rcases Bool.eq_false_or_eq_true (op != 1) with hB|hB
    ·rcases Bool.eq_false_or_eq_true (n != 0) with hN|hN
     ·refine SO ?_
      exact W.retFin1 rfl ⟨[],by rw [bad (.inr ⟨by simpa using hB,by simpa using hN⟩)];rfl⟩
     ·refine SO ?_
      refine W.skipCut () ?_ ⟨rfl,hA', .inr (by simpa using hN)⟩
      exact .cons rfl (.cons rfl (.cons rfl (.cons rfl (.cons rfl (.cons rfl (.nil _))))))
    ·refine SO ?_
     refine W.skipCut () ?_ ⟨rfl,hA', .inl (by simpa using hB)⟩
     exact .cons rfl (.cons rfl (.cons rfl (.cons rfl (.cons rfl (.cons rfl (.nil _))))))
  ·rintro _ nx G ⟨rfl,hA,hB⟩
   rw [if_neg (by omega)] at hmk
   refine SO ?_
   refine W.loop (X:=Nat×Int) (fun x=>[(4, .ptr (0+0) 0),(1, .imm (.bool other)),(2, .imm (.int .i64 depth)),(3, .imm (.int .i64 left)),(10, .imm (.int .i64 k)),(11, .imm (.int .i64 x.1)),(9, .imm (.int .i64 x.2))])
    (fun x _ G'=>G'=upd (fun _ => .gone) (0+0) (.box [.imm (.int .i64 op), .imm (.int .i64 n), .imm (.lst (Trm.ivs kids))] false)/\x.1<=kids.length/\1<=x.2/\x.2<=left/\calcR (.mk op n kids) other depth left=calcRs (kids.drop x.1) other depth left x.2) (fun x=>kids.length-x.1) (0,1)
    (.cons rfl (.cons rfl (.cons rfl (.cons rfl (.cons rfl (.cons rfl (.cons rfl (.nil _)))))))) ⟨rfl,Nat.zero_le _,by decide,by show (1:Int)<=left;omega,by rw [hmk];rfl⟩ ?_
   rintro ⟨i,m⟩ nx G ⟨rfl,hi,hm1,hm2,he⟩
   dsimp only at hi hm1 hm2 he ⊢
   refine SO ?_
   refine W.cond rfl (fun hc=>?_) (fun hc=>?_)
   ·have hlt:i < kids.length:=by have:=of_decide_eq_true hc;omega
    obtain ⟨kid,hx⟩:∃ c,kids[i]? = some c:=⟨kids[i],by simp [hlt]⟩
    have hr:=ih kid (List.mem_of_getElem? hx) other (depth+1) (left-m) (by omega) (by omega)
    have hle:=calcR_le kid other (depth+1) (left-m)
    rw [calcRs_drop hx] at he
    have hxi:(Trm.ivs kids)[i]? = some kid.iv:=by rw [Trm.ivs_map,List.getElem?_map,hx];rfl
    obtain ⟨o',n',ks'⟩:=kid
    refine SO ?_
    refine R.op0 (O.addrL (u:=(Trm.mk o' n' ks').iv) rfl rfl rfl (by omega) (by rw [Int.toNat_natCast];exact hxi) rfl) rfl ?_
    refine R.op0 (O.loadEA (e:=(Trm.mk o' n' ks').iv) rfl rfl (by rw [Int.toNat_natCast];exact hxi) rfl) rfl ?_
    refine SO ?_
    refine R.op0 (O.call rfl rfl hr) rfl ?_
    refine SO ?_
    refine W.cond rfl (fun h5=>?_) (fun h5=>?_)
    ·rw [if_pos (of_decide_eq_true h5)] at he
     refine SO ?_
     exact W.retFin1 rfl ⟨[],by rw [he];rfl⟩
    ·have h5':=of_decide_eq_false h5
     rw [if_neg h5'] at he
     have hle':=hle (by omega)
     refine SO ?_
     refine W.skipLop (i+1,m+calcR (.mk o' n' ks') other (depth+1) (left-m)) ?_ ?_ ⟨rfl,hlt,?_,?_,he⟩
     ·show kids.length-(i+1) < kids.length-i;omega
     ·exact .cons rfl (.cons rfl (.cons rfl (.cons rfl (.cons rfl (.cons rfl (.cons rfl (.nil _)))))))
     ·show 1<=m+_;omega
     ·show m+_<=left;omega
   ·have hge:¬ i < kids.length:=by have:=of_decide_eq_false hc;omega
    have:kids.drop i=[]:=List.drop_eq_nil_of_le (by omega)
    refine SO ?_
    exact W.retFin1 rfl ⟨[],by rw [he,this,calcRs];rfl⟩
end Go.Abs

/- The reference: names of definitions; the nodes of an expression; whether it looks ahead. -/
open Go Go.Abs
namespace Go.Abs
set_option maxRecDepth 100000
set_option maxHeartbeats 4000000
instance fnis96:FnIs CC 114:=⟨rfl,fun _=>rfl⟩
instance fnis58:FnIs CC 84:=⟨rfl,fun _=>rfl⟩
instance fnis68:FnIs CC 67:=⟨rfl,fun _=>rfl⟩
def defNames (p:Pgm):List Str:=(p.defs.take 7).map Dfn.name
theorem at_map {α:Type} (f:α->IV) {l:List α} {i:Nat} {x:α} (h:l[i]? = some x):(l.map f)[(i:Int).toNat]? = some (f x):=by
 rw [Int.toNat_natCast,List.getElem?_map,h];rfl
theorem at_lt {α:Type} {l:List α} {i:Nat} (h:i < l.length):∃ x,l[i]? = some x:=⟨l[i],by simp [h]⟩
theorem Exp.cells_len (e:Exp):e.iv.cells.length=6:=by cases e;rfl
theorem Dfn.cells_len (d:Dfn):d.iv.cells.length=7:=by
 obtain ⟨n,⟨op,name,m,fold,calcs,kids⟩⟩:=d;rfl
theorem ret96 (p:Pgm) (hp:p.defs.length<=9223372036854775807):Ret CC 114 [p.iv] (.lst ((defNames p).map sv)):=by
 obtain ⟨srcs,defs⟩:=p
 simp only at hp
 refine Ret.of (fn:=Go.Proofs.Tryz.f114) (by kernel_rfl) rfl rfl ?_
 refine W.seq (W.region ?_)
 refine R.op1 (O.boxS (cs:=[.imm (.lst (srcs.map sv)), .imm (.lst (defs.map Dfn.iv))]) rfl rfl rfl) rfl ?_
 refine SS ?_
 refine W.loop (X:=Nat×AV) (fun x=>[(1, .ptr (0+0) 0),(4, .imm (.int .i64 x.1)),(3,x.2)])
  (fun x nx G=>G (0+0) = .box [.imm (.lst (srcs.map sv)), .imm (.lst (defs.map Dfn.iv))] false/\x.1<=defs.length/\x.1<=7/\1<=nx/\Own 9 1 1 nx (((defs.take x.1).map Dfn.name).map sv) G x.2) (fun x=>7-x.1) (0, .nils)
  .auto ⟨rfl,Nat.zero_le _,by simp,by simp, .inl ⟨rfl,rfl⟩⟩ ?_
 rintro ⟨i,v⟩ nx G ⟨hB,hi,hi7,hnx,ho⟩
 dsimp only at hi hi7 ho ⊢
 refine SS ?_
 refine R.guardC1 rfl rfl rfl (fun h1=>?_) (fun h1=>?_)
 ·have h1':i < defs.length:=by have:=of_decide_eq_true h1;rw [List.length_map] at this;omega
  refine SS ?_
  refine W.cond rfl (fun h2=>?_) (fun h2=>?_)
  ·have h2':i < 7:=by have:=of_decide_eq_true h2;omega
   obtain ⟨d,hx⟩:=at_lt h1'
   have hxi:=at_map Dfn.iv hx
   have hdc:=d.cells_len
   have htake:(defs.take (i+1)).map Dfn.name=(defs.take i).map Dfn.name++[d.name]:=by
    rw [List.take_add_one,hx];simp
   refine SS ?_
   refine R.op1 (O.buildS (n:=1) (ke:=ty9) (xs:=[.imm (sv d.name)]) rfl rfl rfl (by decide) rfl rfl (by decide)) rfl ?_
   refine R.appOwn (lo:=1) (xs:=((defs.take i).map Dfn.name).map sv) (ys:=[sv d.name]) rfl rfl rfl (ho.upd (by omega) (by omega)) rfl (by simp [elems,upd]) (by decide) (by decide) rfl (by simp [sv];rfl) (by simp [most];omega) ⟨by omega,by simp only [List.length_cons,List.length_nil];omega⟩ rfl fun v' G' ho' hG'=>?_
   have hB':G' (0+0) = .box [.imm (.lst (srcs.map sv)), .imm (.lst (defs.map Dfn.iv))] false:=by rw [hG' (0+0) (by omega),upd_ne _ _ _ _ (by omega)];exact hB
   refine SS ?_
   refine W.skipLop (i+1,v') ?_ .auto ⟨hB',h1',h2',by omega,?_⟩
   ·show 7-(i+1) < 7-i;omega
   ·show Own 9 1 1 _ (((defs.take (i+1)).map Dfn.name).map sv) G' v'
    rw [htake,List.map_append]
    exact ho'.up (by omega)
  ·have h2':i=7:=by have:=of_decide_eq_false h2;omega
   refine SS ?_
   refine W.retFin1 rfl ?_
   have:=ho.peek (k:=99)
   subst h2'
   exact this
 ·have h1':defs.length<=i:=by have:=of_decide_eq_false h1;rw [List.length_map] at this;omega
  refine SS ?_
  refine W.retFin1 rfl ?_
  have:=ho.peek (k:=99)
  have e:defNames ⟨srcs,defs⟩=(defs.take i).map Dfn.name:=by
   unfold defNames
   rw [List.take_of_length_le (show defs.length<=7 by omega),List.take_of_length_le (show defs.length<=i by omega)]
  rw [e]
  exact this
end Go.Abs

/- The reference: the nodes of an expression; whether it looks ahead. -/
open Go Go.Abs
namespace Go.Abs
set_option maxRecDepth 100000
set_option maxHeartbeats 4000000
mutual
/-- The nodes of an expression, in order. -/
def allE:Exp->List Exp
 | .mk op name n fold calcs kids => .mk op name n fold calcs kids::allEs kids
def allEs:List Exp->List Exp
 |[]=>[]
 |k::r=>allE k++allEs r
end
theorem allEs_take {kids:List Exp} {k:Exp} {i:Nat} (h:kids[i]? = some k):allEs (kids.take (i+1))=allEs (kids.take i)++allE k:=by
 induction kids generalizing i with
 |nil=>simp at h
 |cons a r ih=>
  cases i with
  |zero=>simp at h;subst h;simp [allEs]
  |succ i=>simp only [List.getElem?_cons_succ] at h;simp only [List.take_succ_cons,allEs,ih h,List.append_assoc]
theorem allEs_len {kids:List Exp}:∀ i,(allEs (kids.take i)).length<=(allEs kids).length:=by
 induction kids with
 |nil=>intro i;simp [allEs]
 |cons a r ih=>
  intro i
  cases i with
  |zero=>simp [allEs]
  |succ i=>simp only [List.take_succ_cons,allEs,List.length_append];have:=ih i;omega
theorem ivs_at {kids:List Exp} {k:Exp} {i:Nat} (h:kids[i]? = some k):(Exp.ivs kids)[(i:Int).toNat]? = some k.iv:=by
 rw [Exp.ivs_map];exact at_map _ h
theorem ivs_len (kids:List Exp):(Exp.ivs kids).length=kids.length:=by rw [Exp.ivs_map,List.length_map]
theorem Exp.ivs_fits (l:List Exp):∀ y∈Exp.ivs l,(AV.imm y).fits 6=true:=by
 intro y hy
 rw [Exp.ivs_map] at hy
 obtain ⟨e,_,rfl⟩:=List.mem_map.1 hy
 cases e;rfl
theorem ret58 {e:Exp} (hf:e.Fits):(allE e).length<=4294967296->Ret CC 84 [e.iv] (.lst (Exp.ivs (allE e))):=by
 induction hf with
 |mk op name n fold calcs kids hn hw hc hk hcs hks ih=>
 intro hs
 have hk':kids.length<=9223372036854775807:=hk
 have hlv:=ivs_len kids
 rw [allE] at hs
 simp only [List.length_cons] at hs
 refine Ret.of (fn:=Go.Proofs.Tryz.f84) (by kernel_rfl) rfl rfl ?_
 refine W.seq (W.region ?_)
 refine R.op1 (O.boxS (cs:=[.imm (.int .i64 op), .imm (sv name), .imm (.int .i64 n), .imm (.int .i64 fold), .imm (.lst (Trm.ivs calcs)), .imm (.lst (Exp.ivs kids))]) rfl rfl rfl) rfl ?_
 refine SS ?_
 refine R.op1 (O.buildS (xs:=[.imm (Exp.mk op name n fold calcs kids).iv]) rfl rfl rfl (by decide) rfl rfl (by decide)) rfl ?_
 refine SS ?_
 refine W.loop (X:=Nat×AV) (fun x=>[(1, .ptr (0+0) 0),(4, .imm (.int .i64 x.1)),(3,x.2)])
  (fun x nx G=>G (0+0) = .box [.imm (.int .i64 op), .imm (sv name), .imm (.int .i64 n), .imm (.int .i64 fold), .imm (.lst (Trm.ivs calcs)), .imm (.lst (Exp.ivs kids))] false/\x.1<=kids.length/\1<=nx/\Own 93 6 1 nx (Exp.ivs (Exp.mk op name n fold calcs kids::allEs (kids.take x.1))) G x.2) (fun x=>kids.length-x.1) (0,_)
  .auto ⟨rfl,Nat.zero_le _,by simp, .inr ⟨_,?_,?_,rfl,rfl⟩⟩ ?_
 ·decide
 ·decide
 rintro ⟨i,v⟩ nx G ⟨hB,hi,hnx,ho⟩
 dsimp only at hi ho ⊢
 refine SS ?_
 refine W.cond rfl (fun h1=>?_) (fun h1=>?_)
 ·have h1':i < kids.length:=by have:=of_decide_eq_true h1;omega
  obtain ⟨k,hx⟩:=at_lt h1'
  have hxi:=ivs_at hx
  have hkl:=allEs_take hx
  have hle:=allEs_len (kids:=kids) (i+1)
  have hll:=congrArg List.length hkl
  rw [List.length_append] at hll
  have hr:=ih k (List.mem_of_getElem? hx) (by omega)
  obtain ⟨o',s',n',f',c',k'⟩:=k
  refine SS ?_
  refine R.appOwn (lo:=1) (ys:=Exp.ivs (allE (.mk o' s' n' f' c' k'))) rfl rfl rfl (ho.up (by omega)) rfl rfl (by decide) (by decide) rfl (Exp.ivs_fits _) ?_ ⟨by omega,by simp only [List.length_cons,List.length_nil];omega⟩ rfl fun v' G' ho' hG'=>?_
  ·rw [ivs_len,ivs_len,List.length_cons];show _<=4294967296;omega
  have hB':=hG' (0+0) (by omega)
  rw [hB] at hB'
  refine SS ?_
  refine W.skipLop (i+1,v') ?_ .auto ⟨hB',h1',by omega,?_⟩
  ·show kids.length-(i+1) < kids.length-i;omega
  ·show Own 93 6 1 _ (Exp.ivs (_::allEs (kids.take (i+1)))) G' v'
   rw [hkl,Exp.ivs_map]
   rw [Exp.ivs_map,Exp.ivs_map,<-List.map_append] at ho'
   exact ho'.up (by omega)
 ·have h1':kids.length<=i:=by have:=of_decide_eq_false h1;omega
  refine SS ?_
  refine W.retFin1 rfl ?_
  have:=ho.peek (k:=99)
  rw [List.take_of_length_le h1',<-allE] at this
  exact this
end Go.Abs

/- The reference: whether an expression looks ahead. -/
open Go Go.Abs
namespace Go.Abs
set_option maxRecDepth 100000
set_option maxHeartbeats 4000000
def Exp.fore (x:Exp):Bool:=(x.op==14)||((x.op==7)&&decide (x.n < 0))
def aheadE (e:Exp):Bool:=(allE e).any Exp.fore
theorem any_take {α:Type} {p:α->Bool} {l:List α} {i:Nat} {x:α} (h:l[i]? = some x) (hi:(l.take i).any p=false) (hx:p x=false):(l.take (i+1)).any p=false:=by
 rw [List.take_add_one,h,List.any_append,hi];simp [hx]
theorem any_of_take {α:Type} {p:α->Bool} {l:List α} {i:Nat} (h:l.length<=i) (hi:(l.take i).any p=false):l.any p=false:=by
 rw [List.take_of_length_le h] at hi;exact hi
theorem any_at {α:Type} {p:α->Bool} {l:List α} {i:Nat} {x:α} (h:l[i]? = some x) (hx:p x=true):l.any p=true:=
 List.any_eq_true.2 ⟨x,List.mem_of_getElem? h,hx⟩
theorem ret68 {e:Exp} (hf:e.Fits) (hs:(allE e).length<=4294967296):Ret CC 67 [e.iv] (.bool (aheadE e)):=by
 have hr58:=ret58 hf hs
 generalize hl:allE e=nodes at hr58 hs
 have hgoal:aheadE e=nodes.any Exp.fore:=by unfold aheadE;rw [hl]
 rw [hgoal]
 clear hgoal hl hf
 obtain ⟨op,name,n,fold,calcs,kids⟩:=e
 have hlv:=ivs_len nodes
 refine Ret.of (fn:=Go.Proofs.Tryz.f67) (by kernel_rfl) rfl rfl ?_
 refine W.seq (W.region ?_)
 refine R.op1 (O.boxS (cs:=[.imm (.int .i64 op), .imm (sv name), .imm (.int .i64 n), .imm (.int .i64 fold), .imm (.lst (Trm.ivs calcs)), .imm (.lst (Exp.ivs kids))]) rfl rfl rfl) rfl ?_
 refine SS ?_
 refine W.loop (X:=Nat) (fun i=>[(4, .imm (.int .i64 i)),(3, .imm (.lst (Exp.ivs nodes)))])
  (fun i nx G=>i<=nodes.length/\(nodes.take i).any Exp.fore=false) (fun i=>nodes.length-i) 0
  .auto ⟨Nat.zero_le _,rfl⟩ ?_
 rintro i nx G ⟨hi,ha⟩
 refine SS ?_
 refine W.cond rfl (fun h1=>?_) (fun h1=>?_)
 ·have h1':i < nodes.length:=by have:=of_decide_eq_true h1;omega
  obtain ⟨x,hx⟩:=at_lt h1'
  have hxi:=ivs_at hx
  have next:=fun h=>any_take hx ha h
  have found:=fun h=>any_at (p:=Exp.fore) hx h
  obtain ⟨o',s',n',f',c',k'⟩:=x
  rcases Bool.eq_false_or_eq_true (o'==14) with hA|hA
  ·refine SS ?_
   exact W.retFin1 rfl ⟨[],by rw [found (by show ((o'==14)||_)=true;rw [hA];rfl)];rfl⟩
  ·rcases Bool.eq_false_or_eq_true (o'==7) with hB|hB
   ·rcases Bool.eq_false_or_eq_true (decide (n' < 0)) with hC|hC
    ·refine SS ?_
     exact W.retFin1 rfl ⟨[],by rw [found (by show ((o'==14)||((o'==7)&&decide (n' < 0)))=true;rw [hA,hB,hC];rfl)];rfl⟩
    ·refine SS ?_
     refine W.skipLop (i+1) ?_ .auto ⟨h1',next (by show ((o'==14)||((o'==7)&&decide (n' < 0)))=false;rw [hA,hB,hC];rfl)⟩
     show nodes.length-(i+1) < nodes.length-i;omega
   ·refine SS ?_
    refine W.skipLop (i+1) ?_ .auto ⟨h1',next (by show ((o'==14)||((o'==7)&&decide (n' < 0)))=false;rw [hA,hB];rfl)⟩
    show nodes.length-(i+1) < nodes.length-i;omega
 ·have h1':nodes.length<=i:=by have:=of_decide_eq_false h1;omega
  refine SS ?_
  exact W.retFin1 rfl ⟨[],by rw [any_of_take h1' ha];rfl⟩
end Go.Abs

/- The reference: what expressions of a kind have; names of definitions; names that differ. -/
open Go Go.Abs
namespace Go.Abs
set_option maxRecDepth 100000
set_option maxHeartbeats 4000000
instance fnis105:FnIs CC 169:=⟨rfl,fun _=>rfl⟩
def ty142:TyI:={ d:=TyD.st [(0,1),(1,1),(2,1),(3,1),(4,1),(5,1)],sz:=6,bytes:=40,zero:=AV.imm (IV.agg [IV.int IntKind.i64 (0),IV.int IntKind.i64 (0),IV.bool false,IV.bool false,IV.int IntKind.i64 (0),IV.int IntKind.i64 (0)]) }
instance tyis142:TyIs CC 233 ty142:=⟨by kernel_rfl⟩
structure Shp where
 calcs:Nat
 kids:Nat
 name:Bool
 fold:Bool
 low:Int
 high:Int
def shpIV (s:Shp):IV := .agg [.int .i64 s.calcs, .int .i64 s.kids, .bool s.name, .bool s.fold, .int .i64 s.low, .int .i64 s.high]
def shapeR (op:Int):Option Shp:=
 if op=1\/op=2 then some ⟨0,0,true,false,0,0⟩
 else if op=3 then some ⟨0,0,true,false,1,50⟩
 else if op=4 then some ⟨0,2,false,false,0,0⟩
 else if op=5 then some ⟨1,1,false,false,0,0⟩
 else if op=6 then some ⟨2,1,false,false,0,0⟩
 else if op=7 then some ⟨0,1,false,false, -50,50⟩
 else if op=8\/op=11 then some ⟨0,1,false,true,1,50⟩
 else if op=9 then some ⟨0,1,false,true,0,50⟩
 else if op=10 then some ⟨0,1,false,true,0,0⟩
 else if op=12 then some ⟨1,2,false,false,0,50⟩
 else if op=13 then some ⟨1,2,false,false,0,0⟩
 else if op=14 then some ⟨0,2,false,false,0,50⟩
 else if op=15 then some ⟨0,1,false,false,0,0⟩
 else none
def shpRes:Option Shp->IV
 |some s => .tup [shpIV s, .bool true]
 |none => .tup [shpIV ⟨0,0,false,false,0,0⟩, .bool false]
theorem ops15 (op:Int):op=1\/op=2\/op=3\/op=4\/op=5\/op=6\/op=7\/op=8\/op=9\/op=10\/op=11\/op=12\/op=13\/op=14\/op=15 \/
  (op≠1/\op≠2/\op≠3/\op≠4/\op≠5/\op≠6/\op≠7/\op≠8/\op≠9/\op≠10/\op≠11/\op≠12/\op≠13/\op≠14/\op≠15):=by omega
theorem ret105 (op:Int):Ret CC 169 [.int .i64 op] (shpRes (shapeR op)):=by
 rcases ops15 op with rfl|rfl|rfl|rfl|rfl|rfl|rfl|rfl|rfl|rfl|rfl|rfl|rfl|rfl|rfl|⟨n1,n2,n3,n4,n5,n6,n7,n8,n9,n10,n11,n12,n13,n14,n15⟩
 iterate 15 exact Ret.reckon (n:=20) (by kernel_rfl)
 have hs:shapeR op=none:=by unfold shapeR;simp [n1,n2,n3,n4,n5,n6,n7,n8,n9,n10,n11,n12,n13,n14,n15]
 rw [hs]
 have e1:(op==1)=false:=by simpa using n1
 have e2:(op==2)=false:=by simpa using n2
 have e3:(op==3)=false:=by simpa using n3
 have e4:(op==4)=false:=by simpa using n4
 have e5:(op==5)=false:=by simpa using n5
 have e6:(op==6)=false:=by simpa using n6
 have e7:(op==7)=false:=by simpa using n7
 have e8:(op==8)=false:=by simpa using n8
 have e9:(op==9)=false:=by simpa using n9
 have e10:(op==10)=false:=by simpa using n10
 have e11:(op==11)=false:=by simpa using n11
 have e12:(op==12)=false:=by simpa using n12
 have e13:(op==13)=false:=by simpa using n13
 have e14:(op==14)=false:=by simpa using n14
 have e15:(op==15)=false:=by simpa using n15
 refine Ret.of (fn:=Go.Proofs.Tryz.f169) (by kernel_rfl) rfl rfl ?_
 refine W.seq (W.region ?_)
 refine R.op1 (O.alloc (cs:=[.imm (.int .i64 0), .imm (.int .i64 0), .imm (.bool false), .imm (.bool false), .imm (.int .i64 0), .imm (.int .i64 0)]) rfl rfl) rfl ?_
 refine SO ?_
 refine R.op0 (O.build rfl rfl rfl rfl) rfl ?_
 refine R.opN1 (O.storeP rfl rfl rfl rfl rfl rfl) ?_
 refine SO ?_
 exact W.retFinCT rfl rfl rfl rfl rfl ⟨[],rfl⟩
instance fnis97:FnIs CC 126:=⟨rfl,fun _=>rfl⟩
def diff (l:List Str):Bool:=(List.range l.length).all fun i=>nameOk (l.getD i []) && !(l.take i).contains (l.getD i [])
theorem ret97 (l:List Str) (hl:l.length<=9223372036854775807) (hs:∀ s∈l,s.length<=9223372036854775807):Ret CC 126 [.lst (l.map sv)] (.bool (diff l)):=by
 refine Ret.of (fn:=Go.Proofs.Tryz.f126) (by kernel_rfl) rfl rfl ?_
 refine SO ?_
 refine W.loop (X:=Nat) (fun i=>[(0, .imm (.lst (l.map sv))),(3, .imm (.int .i64 i))]) (fun i _ _=>i<=l.length/\∀ j,j < i->(nameOk (l.getD j []) && !(l.take j).contains (l.getD j []))=true) (fun i=>l.length-i) 0 (.cons rfl (.cons rfl (.nil _))) ⟨Nat.zero_le _,fun j hj=>by omega⟩ ?_
 intro i nx G ⟨hi,he⟩
 refine SO ?_
 refine W.cond rfl (fun hc=>?_) (fun hc=>?_)
 ·have hlt:i < l.length:=by have:=of_decide_eq_true hc;rw [List.length_map] at this;omega
  obtain ⟨x,hx⟩:∃ x,l[i]? = some x:=⟨l[i],by simp [hlt]⟩
  have hxd:l.getD i []=x:=by rw [List.getD_eq_getElem?_getD,hx];rfl
  have hxs:=hs x (List.mem_of_getElem? hx)
  have bad:(nameOk x && !(l.take i).contains x)=false->diff l=false:=fun h=>by
   unfold diff
   rw [List.all_eq_false]
   exact ⟨i,by simpa using hlt,by rw [hxd,h];simp⟩
  have e:((l.map sv).take i).drop 0=(l.take i).map sv:=by simp
  have hxm:(l.map sv)[(i:Int).toNat]? = some (sv x):=by simp [hx]
  have hr11:=ret11 x hxs
  have hr39:Ret CC 168 [.lst (((l.map sv).take i).drop 0),sv x] (.bool ((l.take i).contains x)):=by rw [e];exact ret39 _ _ (by simp;omega)
  have hall:(l.map sv).all (fun y=>y.cells.length==ty9.sz)=true:=by
   rw [List.all_eq_true]
   intro y hy
   obtain ⟨z,_,rfl⟩:=List.mem_map.1 hy
   rfl
  have hb:boundE [(18, .imm (.int .i64 (i:Int)))] (l.map sv).length (l.map sv).length (some (.tmp 18))=some i:=by
   show (if (0:Int)<=i/\(i:Int)<=((l.map sv).length:Nat) then some (i:Int).toNat else none)=some i
   rw [if_pos ⟨by omega,by rw [List.length_map];omega⟩,Int.toNat_natCast]
  cases hN:nameOk x with
  |false=>
   rw [hN] at hr11
   refine SO ?_
   refine SOD ?_
   refine D.op0 (O.addrL (u:=sv x) rfl rfl rfl (by omega) hxm rfl) rfl rfl ?_
   refine D.op0 (O.load1 (u:=sv x) rfl hxm rfl rfl rfl) rfl rfl ?_
   refine D.op0 (O.call rfl rfl hr11) rfl rfl ?_
   refine SOD ?_
   refine D.done (by kernel_rfl) ?_
   refine SO ?_
   exact W.retFin1 rfl ⟨[],by rw [bad (by rw [hN];rfl)];rfl⟩
  |true=>
   rw [hN] at hr11
   cases hC:(l.take i).contains x with
   |true=>
    rw [hC] at hr39
    refine SO ?_
    refine SOD ?_
    refine D.op0 (O.addrL (u:=sv x) rfl rfl rfl (by omega) hxm rfl) rfl rfl ?_
    refine D.op0 (O.load1 (u:=sv x) rfl hxm rfl rfl rfl) rfl rfl ?_
    refine D.op0 (O.call rfl rfl hr11) rfl rfl ?_
    refine SOD ?_
    refine D.op0 (O.sliceL (a:=0) rfl rfl hb rfl hall) rfl rfl ?_
    refine SOD ?_
    refine D.op0 (O.addrL (u:=sv x) rfl rfl rfl (by omega) hxm rfl) rfl rfl ?_
    refine SOD ?_
    refine D.op0 (O.load1 (u:=sv x) rfl hxm rfl rfl rfl) rfl rfl ?_
    refine SOD ?_
    refine D.op0 (O.call rfl rfl hr39) rfl rfl ?_
    refine SOD ?_
    refine D.done (by kernel_rfl) ?_
    refine SO ?_
    exact W.retFin1 rfl ⟨[],by rw [bad (by rw [hC];simp)];rfl⟩
   |false=>
    rw [hC] at hr39
    refine SO ?_
    refine SOD ?_
    refine D.op0 (O.addrL (u:=sv x) rfl rfl rfl (by omega) hxm rfl) rfl rfl ?_
    refine D.op0 (O.load1 (u:=sv x) rfl hxm rfl rfl rfl) rfl rfl ?_
    refine D.op0 (O.call rfl rfl hr11) rfl rfl ?_
    refine SOD ?_
    refine D.op0 (O.sliceL (a:=0) rfl rfl hb rfl hall) rfl rfl ?_
    refine SOD ?_
    refine D.op0 (O.addrL (u:=sv x) rfl rfl rfl (by omega) hxm rfl) rfl rfl ?_
    refine SOD ?_
    refine D.op0 (O.load1 (u:=sv x) rfl hxm rfl rfl rfl) rfl rfl ?_
    refine SOD ?_
    refine D.op0 (O.call rfl rfl hr39) rfl rfl ?_
    refine SOD ?_
    refine D.done (by kernel_rfl) ?_
    refine SO ?_
    refine W.skipLop (i+1) ?_ ?_ ⟨hlt,fun j hj=>?_⟩
    ·show l.length-(i+1) < l.length-i;omega
    ·exact .cons rfl (.cons rfl (.nil _))
    ·rcases Nat.lt_or_ge j i with h|h
     ·exact he j h
     ·obtain rfl:j=i:=by omega
      rw [hxd,hN,hC];rfl
 ·have hge:i=l.length:=by have:=of_decide_eq_false hc;rw [List.length_map] at this;omega
  refine SO ?_
  refine W.retFin1 rfl ⟨[],?_⟩
  have:diff l=true:=by
   unfold diff
   rw [List.all_eq_true]
   intro j hj
   exact he j (by simp at hj;omega)
  rw [this];rfl
end Go.Abs

/- The reference: how many nodes an expression has, if it is formed. -/
open Go Go.Abs
namespace Go.Abs
set_option maxRecDepth 100000
set_option maxHeartbeats 4000000
instance fnis98:FnIs CC 127:=⟨rfl,fun _=>rfl⟩
def ty129:TyI:={ d:=TyD.st [(0,1),(1,1),(2,1)],sz:=3,bytes:=56,zero:=AV.agg [AV.nils,AV.nils,AV.imm (IV.int IntKind.i64 (0))] }
instance tyis129:TyIs CC 195 ty129:=⟨by kernel_rfl⟩
mutual
theorem calcR_ge:∀ (c:Trm) (other:Bool) (depth left:Int), -1<=calcR c other depth left
 | .mk op n kids,other,depth,left=>by
  rw [calcR]
  split
  ·omega
  ·split
   ·omega
   ·split
    ·omega
    ·exact calcRs_ge kids other depth left 1 (by omega)
theorem calcRs_ge:∀ (l:List Trm) (other:Bool) (depth left n:Int),0<=n -> -1<=calcRs l other depth left n
 |[],_,_,_,n,h=>by rw [calcRs];omega
 |k::r,other,depth,left,n,h=>by
  rw [calcRs]
  split
  ·omega
  ·exact calcRs_ge r other depth left _ (by omega)
end
def nameIs (srcs defs:List Str) (ahead:Nat) (op:Int) (name:Str):Bool:=
 if op=1 then srcs.contains name else if op=2 then (defs.take ahead).contains name else if op=3 then defs.contains name else true
def foldIs (s:Shp) (fold:Int):Bool:=if s.fold then inR fold 1 4 else fold==0
def other (op:Int):Bool:=op==12||op==13
def headIs (srcs defs:List Str) (ahead:Nat) (s:Shp) (op:Int) (name:Str) (n fold:Int) (nc nk:Nat):Bool:=
 nc==s.calcs&&nk==s.kids&&(s.name == !(name==[]))&&inR n s.low s.high&&foldIs s fold&&nameIs srcs defs ahead op name
mutual
/-- How many nodes an expression has; below 0: it is not formed. -/
def expR (srcs defs:List Str) (ahead:Nat):Exp->Int->Int->Int
 | .mk op name n fold calcs kids,depth,left=>
  match shapeR op with
  |none => -1
  |some s=>
   if depth > 10\/left < 1 then -1 else
   if headIs srcs defs ahead s op name n fold calcs.length kids.length then
    (if calcRs calcs (other op) 0 left 1 < 0 then -1 else expRs srcs defs ahead kids depth left (calcRs calcs (other op) 0 left 1))
   else -1
def expRs (srcs defs:List Str) (ahead:Nat):List Exp->Int->Int->Int->Int
 |[],_,_,n=>n
 |k::r,depth,left,n=>if expR srcs defs ahead k (depth+1) (left-n) < 0 then -1 else expRs srcs defs ahead r depth left (n+expR srcs defs ahead k (depth+1) (left-n))
end
mutual
theorem expR_le (srcs defs:List Str) (ahead:Nat):∀ (e:Exp) (depth left:Int), -1<=expR srcs defs ahead e depth left/\(0<=expR srcs defs ahead e depth left->1<=expR srcs defs ahead e depth left/\expR srcs defs ahead e depth left<=left)
 | .mk op name n fold calcs kids,depth,left=>by
  rw [expR]
  split
  ·omega
  ·split
   ·omega
   ·split
    ·split
     ·omega
     ·rename_i h1 _ h2
      have:=calcRs_le calcs (Go.Abs.other op) 0 left 1 (by omega) (by omega)
      exact expRs_le srcs defs ahead kids depth left _ (by omega)
    ·omega
theorem expRs_le (srcs defs:List Str) (ahead:Nat):∀ (l:List Exp) (depth left n:Int),1<=n/\n<=left -> -1<=expRs srcs defs ahead l depth left n/\(0<=expRs srcs defs ahead l depth left n->1<=expRs srcs defs ahead l depth left n/\expRs srcs defs ahead l depth left n<=left)
 |[],_,_,n,hn=>by rw [expRs];omega
 |k::r,depth,left,n,hn=>by
  rw [expRs]
  split
  ·omega
  ·have h1:=expR_le srcs defs ahead k (depth+1) (left-n)
   exact expRs_le srcs defs ahead r depth left _ (by omega)
end
theorem expRs_drop (srcs defs:List Str) (ahead:Nat) {kids:List Exp} {k:Exp} {i:Nat} (h:kids[i]? = some k) (depth left n:Int) :
  expRs srcs defs ahead (kids.drop i) depth left n=if expR srcs defs ahead k (depth+1) (left-n) < 0 then -1 else expRs srcs defs ahead (kids.drop (i+1)) depth left (n+expR srcs defs ahead k (depth+1) (left-n)):=by
 have:kids.drop i=k::kids.drop (i+1):=by
  rw [List.getElem?_eq_some_iff] at h
  obtain ⟨hi,rfl⟩:=h
  exact List.drop_eq_getElem_cons hi
 rw [this,expRs]
theorem tivs_at {kids:List Trm} {k:Trm} {i:Nat} (h:kids[i]? = some k):(Trm.ivs kids)[(i:Int).toNat]? = some k.iv:=by
 rw [Trm.ivs_map];exact at_map _ h
theorem tivs_len (kids:List Trm):(Trm.ivs kids).length=kids.length:=by rw [Trm.ivs_map,List.length_map]
theorem Trm.cells_len (e:Trm):e.iv.cells.length=3:=by cases e;rfl
theorem ret98 (srcs defs:List Str) (ahead:Nat) (hsl:srcs.length<=9223372036854775807) (hdl:defs.length<=9223372036854775807) (hah:ahead<=defs.length) {e:Exp} (hf:e.Fits):∀ (depth left:Int),(0<=depth/\depth<=1000)->(-1000<=left/\left<=1000) ->
  Ret CC 127 [.agg [.lst (srcs.map sv), .lst (defs.map sv), .int .i64 ahead],e.iv, .int .i64 depth, .int .i64 left] (.int .i64 (expR srcs defs ahead e depth left)):=by
 induction hf with
 |mk op name n fold calcs kids hnm hw hc hk hcs hks ih=>
 intro depth left hd hl
 have hc':calcs.length<=9223372036854775807:=hc
 have hk':kids.length<=9223372036854775807:=hk
 have hlk:=ivs_len kids
 have hlc:=tivs_len calcs
 have hr105:=ret105 op
 have bad:expR srcs defs ahead (.mk op name n fold calcs kids) depth left = -1->Ret CC 127 [.agg [.lst (srcs.map sv), .lst (defs.map sv), .int .i64 ahead],(Exp.mk op name n fold calcs kids).iv, .int .i64 depth, .int .i64 left] (.int .i64 (-1))->Ret CC 127 [.agg [.lst (srcs.map sv), .lst (defs.map sv), .int .i64 ahead],(Exp.mk op name n fold calcs kids).iv, .int .i64 depth, .int .i64 left] (.int .i64 (expR srcs defs ahead (.mk op name n fold calcs kids) depth left)):=fun h hr=>by rw [h];exact hr
 refine Ret.of (fn:=Go.Proofs.Tryz.f127) (by kernel_rfl) rfl rfl ?_
 refine W.seq (W.region ?_)
 refine R.op1 (O.boxS (cs:=[.imm (.lst (srcs.map sv)), .imm (.lst (defs.map sv)), .imm (.int .i64 ahead)]) rfl rfl rfl) rfl ?_
 refine R.op1 (O.boxS (cs:=[.imm (.int .i64 op), .imm (sv name), .imm (.int .i64 n), .imm (.int .i64 fold), .imm (.lst (Trm.ivs calcs)), .imm (.lst (Exp.ivs kids))]) rfl rfl rfl) rfl ?_
 cases hs:shapeR op with
 |none=>
  have hv:expR srcs defs ahead (.mk op name n fold calcs kids) depth left = -1:=by rw [expR,hs]
  rw [hs] at hr105
  rw [hv]
  refine SS ?_
  refine R.op1 (O.alloc (cs:=[.imm (.int .i64 0), .imm (.int .i64 0), .imm (.bool false), .imm (.bool false), .imm (.int .i64 0), .imm (.int .i64 0)]) rfl rfl) rfl ?_
  refine R.opN1 (O.storeP (cs':=(shpIV ⟨0,0,false,false,0,0⟩).cells.map .imm) rfl rfl rfl rfl rfl rfl) ?_
  refine SS ?_
  exact W.retFin1 rfl ⟨[],rfl⟩
 |some s=>
  rw [hs] at hr105
  refine SB ?_
  refine R.op1 (O.alloc (cs:=[.imm (.int .i64 0), .imm (.int .i64 0), .imm (.bool false), .imm (.bool false), .imm (.int .i64 0), .imm (.int .i64 0)]) rfl rfl) rfl ?_
  refine R.opN1 (O.storeP (cs':=(shpIV s).cells.map .imm) rfl rfl rfl rfl rfl rfl) ?_
  have early:(depth > 10\/left < 1)->expR srcs defs ahead (.mk op name n fold calcs kids) depth left = -1:=fun h=>by rw [expR,hs];simp only [if_pos h]
  have hbad:headIs srcs defs ahead s op name n fold calcs.length kids.length=false->expR srcs defs ahead (.mk op name n fold calcs kids) depth left = -1:=fun h=>by
   rw [expR,hs];simp only [h];split<;>rfl
  have hr106:=ret106 n s.low s.high
  have hr106f:=ret106 fold 1 4
  refine SB ?_
  refine W.seq ?_
  refine SB ?_
  rcases Bool.eq_false_or_eq_true (decide (depth > 10)) with hA|hA
  ·refine SS ?_
   exact W.retFin1 rfl ⟨[],by rw [early (.inl (of_decide_eq_true hA))];rfl⟩
  rcases Bool.eq_false_or_eq_true (decide (left < 1)) with hB|hB
  ·refine SS ?_
   exact W.retFin1 rfl ⟨[],by rw [early (.inr (of_decide_eq_true hB))];rfl⟩
  rcases Bool.eq_false_or_eq_true (((Trm.ivs calcs).length:Int) != (s.calcs:Int)) with hC|hC
  ·refine SS ?_
   exact W.retFin1 rfl ⟨[],by rw [hbad (by rw [hlc] at hC;simp at hC;unfold headIs;simp;omega)];rfl⟩
  rcases Bool.eq_false_or_eq_true (((Exp.ivs kids).length:Int) != (s.kids:Int)) with hD|hD
  ·refine SS ?_
   exact W.retFin1 rfl ⟨[],by rw [hbad (by rw [hlk] at hD;simp at hD;unfold headIs;simp;omega)];rfl⟩
  rcases Bool.eq_false_or_eq_true (!(s.name == !(name==[]))) with hE|hE
  ·refine SS ?_
   exact W.retFin1 rfl ⟨[],by rw [hbad (by simp at hE;unfold headIs;simp [hE])];rfl⟩
  rcases Bool.eq_false_or_eq_true (!inR n s.low s.high) with hF|hF
  ·refine SS ?_
   exact W.retFin1 rfl ⟨[],by rw [hbad (by simp at hF;unfold headIs;simp [hF])];rfl⟩
  refine SB ?_
  have hF':inR n s.low s.high=true:=by simpa using hF
  have hE':(s.name == !(name==[]))=true:=by simpa using hE
  have hC':calcs.length=s.calcs:=by rw [hlc] at hC;simp at hC;omega
  have hD':kids.length=s.kids:=by rw [hlk] at hD;simp at hD;omega
  have hfold:foldIs s fold=false->headIs srcs defs ahead s op name n fold calcs.length kids.length=false:=fun h=>by unfold headIs;simp [h]
  have hname:foldIs s fold=true->headIs srcs defs ahead s op name n fold calcs.length kids.length=nameIs srcs defs ahead op name:=fun h=>by
   unfold headIs;rw [hC',hD',hE',hF',h];simp
  clear hE hF hE' hF'
  refine W.cut (X:=Unit) (fun _=>[(4, .ptr 0 0),(5, .ptr 1 0),(9, .ptr 9 0),(2, .imm (.int .i64 depth)),(3, .imm (.int .i64 left)),(10, .imm (.bool true))])
   (fun _ nx G=>G 0 = .box [.imm (.lst (srcs.map sv)), .imm (.lst (defs.map sv)), .imm (.int .i64 ahead)] false/\G 1 = .box [.imm (.int .i64 op), .imm (sv name), .imm (.int .i64 n), .imm (.int .i64 fold), .imm (.lst (Trm.ivs calcs)), .imm (.lst (Exp.ivs kids))] false /\
    G 9 = .box ((shpIV s).cells.map .imm) false/\foldIs s fold=true) ?_ ?_
  ·cases hFo:s.fold with
   |true=>
    have hFn:(!s.fold)=false:=by rw [hFo];rfl
    have hfi:foldIs s fold=inR fold 1 4:=by unfold foldIs;rw [hFo];rfl
    rcases Bool.eq_false_or_eq_true (!inR fold 1 4) with hI|hI
    ·refine SS ?_
     exact W.retFin1 rfl ⟨[],by rw [hbad (hfold (by rw [hfi];simpa using hI))];rfl⟩
    ·refine SS ?_
     exact W.skipCut () .auto ⟨rfl,rfl,rfl,by rw [hfi];simpa using hI⟩
   |false=>
    have hFn:(!s.fold)=true:=by rw [hFo];rfl
    have hfi:foldIs s fold=(fold==0):=by unfold foldIs;rw [hFo];rfl
    rcases Bool.eq_false_or_eq_true (fold != 0) with hI|hI
    ·refine SS ?_
     exact W.retFin1 rfl ⟨[],by rw [hbad (hfold (by rw [hfi];simpa using hI))];rfl⟩
    ·refine SS ?_
     exact W.skipCut () .auto ⟨rfl,rfl,rfl,by rw [hfi];simpa using hI⟩
  rintro _ nx G ⟨hG0,hG1,hG9,hfo⟩
  have hname:=hname hfo
  clear hfold hr105 hr106 hr106f
  refine SB ?_
  refine W.cut (X:=Unit) (fun _=>[(4, .ptr 0 0),(5, .ptr 1 0),(9, .ptr 9 0),(2, .imm (.int .i64 depth)),(3, .imm (.int .i64 left)),(10, .imm (.bool (nameIs srcs defs ahead op name)))])
   (fun _ _ G'=>G' 0 = .box [.imm (.lst (srcs.map sv)), .imm (.lst (defs.map sv)), .imm (.int .i64 ahead)] false/\G' 1 = .box [.imm (.int .i64 op), .imm (sv name), .imm (.int .i64 n), .imm (.int .i64 fold), .imm (.lst (Trm.ivs calcs)), .imm (.lst (Exp.ivs kids))] false /\
    G' 9 = .box ((shpIV s).cells.map .imm) false) ?_ ?_
  ·have h1:=ret39 srcs name hsl
   have h2:=ret39 (defs.take ahead) name (by simp;omega)
   have h3:=ret39 defs name hdl
   by_cases e1:op=1
   ·subst e1
    refine SS ?_
    exact W.skipCut () .auto ⟨hG0,hG1,hG9⟩
   by_cases e2:op=2
   ·subst e2
    have e:((defs.map sv).take ahead).drop 0=(defs.take ahead).map sv:=by simp
    have h2':Ret CC 168 [.lst (((defs.map sv).take ahead).drop 0),sv name] (.bool ((defs.take ahead).contains name)):=by rw [e];exact h2
    have hall:(defs.map sv).all (fun y=>y.cells.length==ty9.sz)=true:=by
     rw [List.all_eq_true]
     intro y hy
     obtain ⟨z,_,rfl⟩:=List.mem_map.1 hy
     rfl
    have hb:boundE [(98, .imm (.int .i64 (ahead:Int)))] (defs.map sv).length (defs.map sv).length (some (.tmp 98))=some ahead:=by
     show (if (0:Int)<=ahead/\(ahead:Int)<=((defs.map sv).length:Nat) then some (ahead:Int).toNat else none)=some ahead
     rw [if_pos ⟨by omega,by rw [List.length_map];omega⟩,Int.toNat_natCast]
    refine SS ?_
    refine D.op0 (O.sliceL (a:=0) rfl rfl hb rfl hall) rfl rfl ?_
    refine SS ?_
    exact W.skipCut () .auto ⟨hG0,hG1,hG9⟩
   by_cases e3:op=3
   ·subst e3
    refine SS ?_
    exact W.skipCut () .auto ⟨hG0,hG1,hG9⟩
   have hn:nameIs srcs defs ahead op name=true:=by unfold nameIs;simp [e1,e2,e3]
   rw [hn]
   have e1':(op==1)=false:=by simpa using e1
   have e2':(op==2)=false:=by simpa using e2
   have e3':(op==3)=false:=by simpa using e3
   refine SS ?_
   exact W.skipCut () .auto ⟨hG0,hG1,hG9⟩
  rintro _ nx G ⟨hG0,hG1,hG9⟩
  have hA':=of_decide_eq_false hA
  have hB':=of_decide_eq_false hB
  have hmk:expR srcs defs ahead (.mk op name n fold calcs kids) depth left=if nameIs srcs defs ahead op name then (if calcRs calcs (other op) 0 left 1 < 0 then -1 else expRs srcs defs ahead kids depth left (calcRs calcs (other op) 0 left 1)) else -1:=by
   rw [expR,hs];simp only [if_neg (show ¬ (depth > 10\/left < 1) by omega),hname]
  generalize hRes:expR srcs defs ahead (.mk op name n fold calcs kids) depth left=res
  rw [hRes] at hmk
  clear early hbad hname hRes bad
  generalize nameIs srcs defs ahead op name=is at hmk
  refine SB ?_
  refine W.cut (X:=Int×Bool) (fun x=>[(4, .ptr 0 0),(5, .ptr 1 0),(9, .ptr 9 0),(2, .imm (.int .i64 depth)),(3, .imm (.int .i64 left)),(11, .imm (.int .i64 x.1)),(10, .imm (.bool x.2))])
   (fun x _ G'=>G' 0 = .box [.imm (.lst (srcs.map sv)), .imm (.lst (defs.map sv)), .imm (.int .i64 ahead)] false/\G' 1 = .box [.imm (.int .i64 op), .imm (sv name), .imm (.int .i64 n), .imm (.int .i64 fold), .imm (.lst (Trm.ivs calcs)), .imm (.lst (Exp.ivs kids))] false /\
    G' 9 = .box ((shpIV s).cells.map .imm) false/\(x.2=true->1<=x.1/\x.1<=left/\res=expRs srcs defs ahead kids depth left x.1)/\(x.2=false->res = -1) /\ -1<=x.1/\x.1<=1000) ?_ ?_
  ·refine SS ?_
   refine W.loop (X:=Nat×Int×Bool) (fun x=>[(4, .ptr 0 0),(5, .ptr 1 0),(9, .ptr 9 0),(2, .imm (.int .i64 depth)),(3, .imm (.int .i64 left)),(12, .imm (.int .i64 x.1)),(11, .imm (.int .i64 x.2.1)),(10, .imm (.bool x.2.2))])
    (fun x _ G'=>G' 0 = .box [.imm (.lst (srcs.map sv)), .imm (.lst (defs.map sv)), .imm (.int .i64 ahead)] false/\G' 1 = .box [.imm (.int .i64 op), .imm (sv name), .imm (.int .i64 n), .imm (.int .i64 fold), .imm (.lst (Trm.ivs calcs)), .imm (.lst (Exp.ivs kids))] false /\
    G' 9 = .box ((shpIV s).cells.map .imm) false/\(x.2.2=true->1<=x.2.1/\x.2.1<=left/\res=if calcRs (calcs.drop x.1) (other op) 0 left x.2.1 < 0 then -1 else expRs srcs defs ahead kids depth left (calcRs (calcs.drop x.1) (other op) 0 left x.2.1))/\(x.2.2=false->res = -1)/\(-1<=x.2.1/\x.2.1<=1000)/\x.1<=calcs.length)
    (fun x=>calcs.length-x.1) (0,1,is) .auto ⟨hG0,hG1,hG9,?_,?_,(by show (-1:Int)<=1/\(1:Int)<=1000;decide),Nat.zero_le _⟩ ?_
   ·intro h
    refine ⟨(by show (1:Int)<=1;decide),(by show (1:Int)<=left;omega),?_⟩
    rw [hmk,if_pos h];rfl
   ·intro h
    dsimp only at h
    rw [hmk,h];rfl
   rintro ⟨i,m,b⟩ nx G ⟨hG0,hG1,hG9,ht,hf,hm,hi⟩
   dsimp only at ht hf hm hi ⊢
   cases b with
   |false=>
    have hf:=hf rfl
    rcases Bool.eq_false_or_eq_true (decide ((i:Int) < (s.calcs:Int))) with hc|hc
    ·refine SS ?_
     exact W.skipCut (m,false) .auto ⟨hG0,hG1,hG9,(fun h=>by cases h),fun _=>hf,hm⟩
    ·refine SS ?_
     exact W.skipCut (m,false) .auto ⟨hG0,hG1,hG9,(fun h=>by cases h),fun _=>hf,hm⟩
   |true=>
    obtain ⟨hm1,hm2,ht⟩:=ht rfl
    rcases Bool.eq_false_or_eq_true (decide ((i:Int) < (s.calcs:Int))) with hc|hc
    ·have hlt:i < calcs.length:=by have:=of_decide_eq_true hc;omega
     obtain ⟨c,hx⟩:=at_lt hlt
     have hxi:=tivs_at hx
     have hr:=ret107 (hcs c (List.mem_of_getElem? hx)) (other op) 1 (left-m) (by omega) (by omega)
     have hge:=calcR_ge c (other op) 1 (left-m)
     have hle:=calcR_le c (other op) 1 (left-m)
     rw [calcRs_drop hx,show (0:Int)+1=1 from rfl] at ht
     have next:(decide (calcR c (other op) 1 (left-m)>=0)=true->1<=m+calcR c (other op) 1 (left-m)/\m+calcR c (other op) 1 (left-m)<=left/\res=if calcRs (calcs.drop (i+1)) (other op) 0 left (m+calcR c (other op) 1 (left-m)) < 0 then -1 else expRs srcs defs ahead kids depth left (calcRs (calcs.drop (i+1)) (other op) 0 left (m+calcR c (other op) 1 (left-m)))) /\
       (decide (calcR c (other op) 1 (left-m)>=0)=false->res = -1)/\(-1<=m+calcR c (other op) 1 (left-m)/\m+calcR c (other op) 1 (left-m)<=1000):=by
      refine ⟨fun h=>?_,fun h=>?_,?_⟩
      ·have h:=of_decide_eq_true h
       have:=hle (by omega)
       rw [if_neg (show ¬ (calcR c (other op) 1 (left-m) < 0) by omega)] at ht
       exact ⟨by omega,by omega,ht⟩
      ·have h:=of_decide_eq_false h
       rw [if_pos (show calcR c (other op) 1 (left-m) < 0 by omega)] at ht
       simpa using ht
      ·rcases Int.lt_or_le (calcR c (other op) 1 (left-m)) 0 with h|h
       ·omega
       ·have:=hle h;omega
     obtain ⟨o',n',k'⟩:=c
     have hmu:calcs.length-(i+1) < calcs.length-i:=by omega
     generalize hoth:other op=oth at hr next hge hle
     generalize hk:calcR (.mk o' n' k') oth 1 (left-m)=r at hr next hge hle
     have hrb:r<=1000:=by rcases Int.lt_or_le r 0 with h|h<;>omega
     rcases Bool.eq_false_or_eq_true (op==12) with h12|h12
     ·have:oth=true:=by rw [<-hoth];unfold other;rw [h12];rfl
      subst this
      refine SS ?_
      refine W.skipLop (i+1,m+r,decide (r>=0)) hmu .auto ⟨hG0,hG1,hG9,next.1,next.2.1,next.2.2,hlt⟩
     ·have:oth=(op==13):=by rw [<-hoth];unfold other;rw [h12];rfl
      subst this
      refine SS ?_
      refine W.skipLop (i+1,m+r,decide (r>=0)) hmu .auto ⟨hG0,hG1,hG9,next.1,next.2.1,next.2.2,hlt⟩
    ·have hge:calcs.length<=i:=by have:=of_decide_eq_false hc;omega
     rw [List.drop_eq_nil_of_le hge,calcRs,if_neg (by omega)] at ht
     refine SS ?_
     exact W.skipCut (m,true) .auto ⟨hG0,hG1,hG9,fun _=>⟨hm1,hm2,ht⟩,(fun h=>by cases h),hm⟩
  rintro ⟨m,is⟩ nx G ⟨hG0,hG1,hG9,ht,hf,hm⟩
  dsimp only at ht hf hm ⊢
  clear hmk
  refine SB ?_
  refine W.cut (X:=Int×Bool) (fun x=>[(11, .imm (.int .i64 x.1)),(10, .imm (.bool x.2))])
   (fun x _ _=>(x.2=true->res=x.1)/\(x.2=false->res = -1)) ?_ ?_
  ·refine SS ?_
   refine W.loop (X:=Nat×Int×Bool) (fun x=>[(4, .ptr 0 0),(5, .ptr 1 0),(9, .ptr 9 0),(2, .imm (.int .i64 depth)),(3, .imm (.int .i64 left)),(14, .imm (.int .i64 x.1)),(11, .imm (.int .i64 x.2.1)),(10, .imm (.bool x.2.2))])
    (fun x _ G'=>G' 0 = .box [.imm (.lst (srcs.map sv)), .imm (.lst (defs.map sv)), .imm (.int .i64 ahead)] false/\G' 1 = .box [.imm (.int .i64 op), .imm (sv name), .imm (.int .i64 n), .imm (.int .i64 fold), .imm (.lst (Trm.ivs calcs)), .imm (.lst (Exp.ivs kids))] false /\
    G' 9 = .box ((shpIV s).cells.map .imm) false/\(x.2.2=true->1<=x.2.1/\x.2.1<=left/\res=expRs srcs defs ahead (kids.drop x.1) depth left x.2.1)/\(x.2.2=false->res = -1)/\(-1<=x.2.1/\x.2.1<=1000)/\x.1<=kids.length)
    (fun x=>kids.length-x.1) (0,m,is) .auto ⟨hG0,hG1,hG9,ht,hf,hm,Nat.zero_le _⟩ ?_
   rintro ⟨i,m,b⟩ nx G ⟨hG0,hG1,hG9,ht,hf,hm,hi⟩
   dsimp only at ht hf hm hi ⊢
   cases b with
   |false=>
    have hf:=hf rfl
    rcases Bool.eq_false_or_eq_true (decide ((i:Int) < (s.kids:Int))) with hc|hc
    ·refine SS ?_
     exact W.skipCut (m,false) .auto ⟨(fun h=>by cases h),fun _=>hf⟩
    ·refine SS ?_
     exact W.skipCut (m,false) .auto ⟨(fun h=>by cases h),fun _=>hf⟩
   |true=>
    obtain ⟨hm1,hm2,ht⟩:=ht rfl
    rcases Bool.eq_false_or_eq_true (decide ((i:Int) < (s.kids:Int))) with hc|hc
    ·have hlt:i < kids.length:=by have:=of_decide_eq_true hc;omega
     obtain ⟨k,hx⟩:=at_lt hlt
     have hxi:=ivs_at hx
     have hr:=ih k (List.mem_of_getElem? hx) (depth+1) (left-m) (by omega) (by omega)
     have hle:=expR_le srcs defs ahead k (depth+1) (left-m)
     rw [expRs_drop srcs defs ahead hx] at ht
     have hmu:kids.length-(i+1) < kids.length-i:=by omega
     generalize hk:expR srcs defs ahead k (depth+1) (left-m)=r at hr hle ht
     have hrb:r<=1000:=by rcases Int.lt_or_le r 0 with h|h<;>omega
     have next:(decide (r>=0)=true->1<=m+r/\m+r<=left/\res=expRs srcs defs ahead (kids.drop (i+1)) depth left (m+r))/\(decide (r>=0)=false->res = -1)/\(-1<=m+r/\m+r<=1000):=by
      refine ⟨fun h=>?_,fun h=>?_,?_⟩
      ·have h:=of_decide_eq_true h
       rw [if_neg (show ¬ (r < 0) by omega)] at ht
       exact ⟨by omega,by omega,ht⟩
      ·have h:=of_decide_eq_false h
       rw [if_pos (show r < 0 by omega)] at ht
       exact ht
      ·rcases Int.lt_or_le r 0 with h|h<;>omega
     obtain ⟨o',s',n',f',c',k'⟩:=k
     refine SS ?_
     refine W.skipLop (i+1,m+r,decide (r>=0)) hmu .auto ⟨hG0,hG1,hG9,next.1,next.2.1,next.2.2,hlt⟩
    ·have hge:kids.length<=i:=by have:=of_decide_eq_false hc;omega
     rw [List.drop_eq_nil_of_le hge,expRs] at ht
     refine SS ?_
     exact W.skipCut (m,true) .auto ⟨fun _=>ht,(fun h=>by cases h)⟩
  rintro ⟨m,is⟩ nx G ⟨ht,hf⟩
  dsimp only at ht hf ⊢
  cases is with
  |false=>
   refine SS ?_
   exact W.retFin1 rfl ⟨[],by rw [hf rfl];rfl⟩
  |true=>
   refine SS ?_
   exact W.retFin1 rfl ⟨[],by rw [ht rfl];rfl⟩
end Go.Abs

/- The reference: how many nodes a program has, if its parts are formed. -/
open Go Go.Abs
namespace Go.Abs
set_option maxRecDepth 100000
set_option maxHeartbeats 4000000
instance fnis65:FnIs CC 65:=⟨rfl,fun _=>rfl⟩
def countL (srcs names:List Str):List Dfn->Nat->Int->Int
 |[],_,n=>n
 |d::r,i,n=>if expR srcs names i d.exp 1 (60-n) < 0 then -1 else countL srcs names r (i+1) (n+expR srcs names i d.exp 1 (60-n))
def countR (p:Pgm):Int:=
 if p.srcs.length < 1\/4 < p.srcs.length\/6 < p.defs.length then -1 else
 if diff (p.srcs++defNames p) then countL p.srcs (defNames p) p.defs 0 0 else -1
theorem countL_drop (srcs names:List Str) {ds:List Dfn} {d:Dfn} {i:Nat} (h:ds[i]? = some d) (n:Int) :
  countL srcs names (ds.drop i) i n=if expR srcs names i d.exp 1 (60-n) < 0 then -1 else countL srcs names (ds.drop (i+1)) (i+1) (n+expR srcs names i d.exp 1 (60-n)):=by
 have:ds.drop i=d::ds.drop (i+1):=by
  rw [List.getElem?_eq_some_iff] at h
  obtain ⟨hi,rfl⟩:=h
  exact List.drop_eq_getElem_cons hi
 rw [this,countL]
theorem peeks_row {G:Nat->Obj} {o n e sz:Nat} {xs:List IV} (h:G o = .row e sz (xs.map .imm) false) (hn:xs.length=n):∃ ids,peeks G [.row o n]=some ([.lst xs],ids):=by
 have ho:Own e sz o (o+1) xs G (.row o n) := .inr ⟨o,Nat.le_refl _,by omega,by rw [hn],h⟩
 obtain ⟨ids,hp⟩:=ho.peek (k:=99)
 have hp':peek G pkDepth (.row o n)=some (.lst xs,ids):=hp
 exact ⟨ids++[],by simp only [peeks,peekL,hp']⟩
theorem O.callRow {C:Cfg} {id:Nat} {l:Env} {G:Nat->Obj} {nx:Nat} {df:List (AV×List AV)} {pk:Pk} {f:FuncId} {ar:List Operand} {ats:Array TypeId} {o n e sz:Nat} {xs:List IV} {ys:List AV} {x:IV} [hf:FnIs C f] (ha:looks l ar=some [.row o n]) (hG:G o = .row e sz ys false) (hn:ys.length=n) (hy:ys=xs.map .imm) (hr:Ret C f [.lst xs] x) (hx:x.scalar=true) :
  OpV C id l G nx df pk (.call { callee := .value (.func f),args:=⟨ar⟩,argTypes:=ats }) (.imm x) []:=by
 subst hy
 obtain ⟨ids,hp⟩:=peeks_row hG (by simpa using hn)
 exact O.callG ha hp hr hx
theorem sv_fits (l:List Str):((l.map sv).map AV.imm).all (AV.fits 1)=true:=by
 rw [List.all_eq_true]
 intro x hx
 simp only [List.mem_map] at hx
 obtain ⟨y,⟨z,_,rfl⟩,rfl⟩:=hx
 rfl
theorem ret65 (p:Pgm) (hp:p.Fits):Ret CC 65 [p.iv] (.int .i64 (countR p)):=by
 have hr96:=ret96 p hp.defs
 obtain ⟨srcs,defs⟩:=p
 have hs:=hp.srcs
 have hd:=hp.defs
 have hnl:(defNames ⟨srcs,defs⟩).length<=7:=by simp [defNames];omega
 have hnl2:defs.length<=6->(defNames ⟨srcs,defs⟩).length=defs.length:=fun h=>by simp [defNames];omega
 have hns:∀ s∈defNames ⟨srcs,defs⟩,s.length<=9223372036854775807:=by
  intro s hs
  simp only [defNames,List.mem_map] at hs
  obtain ⟨d,hd,rfl⟩:=hs
  exact hp.name d (List.mem_of_mem_take hd)
 simp only at hs hd
 unfold maxI at hs hd
 refine Ret.of (fn:=Go.Proofs.Tryz.f65) (by kernel_rfl) rfl rfl ?_
 refine W.seq (W.region ?_)
 refine R.op1 (O.boxS (cs:=[.imm (.lst (srcs.map sv)), .imm (.lst (defs.map Dfn.iv))]) rfl rfl rfl) rfl ?_
 have early:(srcs.length < 1\/4 < srcs.length\/6 < defs.length)->countR ⟨srcs,defs⟩ = -1:=fun h=>by unfold countR;rw [if_pos h]
 refine SB ?_
 refine W.seq ?_
 refine SB ?_
 rcases Bool.eq_false_or_eq_true (decide (((srcs.map sv).length:Int) < 1)) with hA|hA
 ·refine SS ?_
  exact W.retFin1 rfl ⟨[],by rw [early (.inl (by have:=of_decide_eq_true hA;rw [List.length_map] at this;omega))];rfl⟩
 rcases Bool.eq_false_or_eq_true (decide (((srcs.map sv).length:Int) > 4)) with hB|hB
 ·refine SS ?_
  exact W.retFin1 rfl ⟨[],by rw [early (.inr (.inl (by have:=of_decide_eq_true hB;rw [List.length_map] at this;omega)))];rfl⟩
 rcases Bool.eq_false_or_eq_true (decide (((defs.map Dfn.iv).length:Int) > 6)) with hC|hC
 ·refine SS ?_
  exact W.retFin1 rfl ⟨[],by rw [early (.inr (.inr (by have:=of_decide_eq_true hC;rw [List.length_map] at this;omega)))];rfl⟩
 have hsm:(srcs.map sv).length=srcs.length:=List.length_map ..
 have hdm:(defs.map Dfn.iv).length=defs.length:=List.length_map ..
 have hA':=of_decide_eq_false hA
 have hB':=of_decide_eq_false hB
 have hC':=of_decide_eq_false hC
 have hmk:countR ⟨srcs,defs⟩=if diff (srcs++defNames ⟨srcs,defs⟩) then countL srcs (defNames ⟨srcs,defs⟩) defs 0 0 else -1:=by
  unfold countR;rw [if_neg (by simp only;omega)]
 have hnl2:=hnl2 (by omega)
 have hr97:=ret97 (srcs++defNames ⟨srcs,defs⟩) (by rw [List.length_append];omega) (fun s h=>by
  rcases List.mem_append.1 h with h|h
  ·exact hp.src s h
  ·exact hns s h)
 generalize hN:defNames ⟨srcs,defs⟩=names at hr96 hmk hnl hns hnl2 hr97
 rw [hmk]
 refine SB ?_
 refine D.op1 (O.alloc (cs:=[.nils, .nils, .imm (.int .i64 0)]) rfl rfl) rfl rfl ?_
 refine D.opN1 (O.storeP (cs':=[.imm (.lst (srcs.map sv)), .imm (.lst (names.map sv)), .imm (.int .i64 0)]) rfl rfl rfl rfl rfl rfl) rfl ?_
 refine SB ?_
 refine W.seq ?_
 refine SB ?_
 refine D.op1 (O.appNil (ke:=ty9) (ys:=(srcs.map sv).map .imm) rfl rfl rfl rfl rfl (by decide) (by decide) rfl (sv_fits srcs) (by simp [most];omega)) rfl rfl ?_
 refine SD ?_
 refine D.op1 (O.appRow (ke:=ty9) (xs:=(srcs.map sv).map .imm) (ys:=(names.map sv).map .imm) rfl rfl rfl rfl rfl rfl rfl (by decide) (by decide) rfl (sv_fits names) (by simp [most];omega)) rfl rfl ?_
 refine D.op0 (O.callRow (xs:=(srcs++names).map sv) rfl rfl rfl (by simp) hr97 rfl) rfl rfl ?_
 generalize hdf:diff (srcs++names)=df
 cases df with
 |false=>
  refine SS ?_
  exact W.retFin1 rfl ⟨[],rfl⟩
 |true=>
 refine SB ?_
 refine W.seq ?_
 refine SS ?_
 refine W.loop (X:=Nat×Int×Int) (fun x=>[(1, .ptr 0 0),(3, .ptr 23 0),(5, .imm (.int .i64 x.1)),(4, .imm (.int .i64 x.2.1))])
  (fun x _ G=>G 0 = .box [.imm (.lst (srcs.map sv)), .imm (.lst (defs.map Dfn.iv))] false/\G 23 = .box [.imm (.lst (srcs.map sv)), .imm (.lst (names.map sv)), .imm (.int .i64 x.2.2)] false /\
   x.1<=defs.length/\(0<=x.2.1/\x.2.1<=60)/\countL srcs names defs 0 0=countL srcs names (defs.drop x.1) x.1 x.2.1)
  (fun x=>defs.length-x.1) (0,0,0) .auto ⟨rfl,rfl,Nat.zero_le _,(by show (0:Int)<=0/\(0:Int)<=60;decide),rfl⟩ ?_
 rintro ⟨i,n,a⟩ nx G ⟨hG0,hG23,hi,hn,he⟩
 dsimp only at hi hn he hG23 ⊢
 rw [he]
 clear he
 refine SS ?_
 refine W.cond rfl (fun hc=>?_) (fun hc=>?_)
 ·have hlt:i < defs.length:=by have:=of_decide_eq_true hc;omega
  obtain ⟨d,hx⟩:=at_lt hlt
  have hxi:=at_map Dfn.iv hx
  have hdc:=d.cells_len
  have hr:=ret98 srcs names i hs (by omega) (by omega) (hp.exp d (List.mem_of_getElem? hx)) 1 (60-n) (by decide) (by omega)
  have hle:=expR_le srcs names i d.exp 1 (60-n)
  rw [countL_drop srcs names hx]
  have hmu:defs.length-(i+1) < defs.length-i:=by omega
  generalize hk:expR srcs names i d.exp 1 (60-n)=r at hr hle ⊢
  obtain ⟨nm,⟨o',s',n',f',c',k'⟩⟩:=d
  refine SS ?_
  refine R.opN1 (O.storeP (cs':=[.imm (.lst (srcs.map sv)), .imm (.lst (names.map sv)), .imm (.int .i64 i)]) rfl rfl rfl hG23 rfl rfl) ?_
  refine R.gen (P:=fun G _ _=>G 0 = .box [.imm (.lst (srcs.map sv)), .imm (.lst (defs.map Dfn.iv))] false/\G 23 = .box [.imm (.lst (srcs.map sv)), .imm (.lst (names.map sv)), .imm (.int .i64 i)] false) ⟨by rw [upd_ne _ _ _ _ (by omega)];exact hG0,upd_same ..⟩ ?_
  clear hG0 hG23
  rintro G nx base ⟨hG0,hG23⟩
  refine SS ?_
  rcases Bool.eq_false_or_eq_true (decide (r < 0)) with hr0|hr0
  ·rw [if_pos (of_decide_eq_true hr0)]
   refine SS ?_
   exact W.retFin1 rfl ⟨[],rfl⟩
  ·have hr0':=of_decide_eq_false hr0
   rw [if_neg hr0']
   refine SS ?_
   exact W.skipLop (i+1,n+r,(i:Int)) hmu .auto ⟨hG0,hG23,hlt,(by show 0<=n+r/\n+r<=60;omega),rfl⟩
 ·have hge:defs.length<=i:=by have:=of_decide_eq_false hc;omega
  rw [List.drop_eq_nil_of_le hge,countL]
  refine SS ?_
  exact W.retFin1 rfl ⟨[],rfl⟩
end Go.Abs
