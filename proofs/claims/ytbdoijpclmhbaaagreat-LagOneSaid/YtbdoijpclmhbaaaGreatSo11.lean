/- The reference: the bag of items. -/
import Derived.Test.YtbdoijpclmhbaaaGreatSo10
open Go Go.Abs
namespace Go.Abs
set_option maxRecDepth 100000
set_option maxHeartbeats 4000000
section
variable {C:Cfg} {id:Nat} {l:Env} {G:Nat->Obj} {nx:Nat} {df:List (AV×List AV)} {pk:Pk} {v:AV}
theorem O.loadRO {x:Operand} {t et:TypeId} {k:TyI} {o m n sz off:Nat} {xs:List AV} {fr:Bool} {u w:AV} [hk:TyIs C t k] (hg:k.d.isAgg=false) (hs:k.sz=1) (hx:lookO l x=some (.rptr o m n off)) (hG:G o = .row et sz xs fr) (hm:xs.length=m) (hu:xs[n]? = some u) (hc:u.cells[off]? = some w) :
  OpV C id l G nx df pk (.load t x) w []:=
 O.of fun t L hA=>by simp only [opA,hA.ev hx,aLoad,hk.is,hs,readAt,hG,hm,hu,sub_one hc,if_true,hg,Bool.false_eq_true,if_false]
theorem O.loadROA {x:Operand} {t et:TypeId} {k:TyI} {o m n sz off:Nat} {xs us:List AV} {fr:Bool} {u w:AV} [hk:TyIs C t k] (hg:k.d.isAgg=true) (hx:lookO l x=some (.rptr o m n off)) (hG:G o = .row et sz xs fr) (hm:xs.length=m) (hu:xs[n]? = some u) (hc:Go.Abs.sub u.cells off k.sz=some us) (hw:mkAgg us=w) :
  OpV C id l G nx df pk (.load t x) w []:=
 O.of fun t L hA=>by simp only [opA,hA.ev hx,aLoad,hk.is,readAt,hG,hm,hu,hc,if_true,hg,hw]
theorem O.storeRO {a x:Operand} {t et sz:TypeId} {k:TyI} {o m n off:Nat} {vs:List AV} {u w:AV} [hk:TyIs C t k] (h0:0 < k.sz) (ha:lookO l a=some (.rptr o m n off)) (hx:lookO l x=some v) (hf:v.fits k.sz=true) (hG:G o = .row et sz vs false) (hm:vs.length=m) (hu:vs[n]? = some u) (huc:Nat.ble (off+k.sz) u.cells.length=true) (hv:avOf u (splice u.cells off v.cells)=w) :
  OpV C id l G nx df pk (.store t a x) .undef [(o, .set (.row et sz (vs.set n w) false))]:=
 O.of fun t' L hA=>by
  simp only [opA,hA.ev ha,hA.ev hx,aStore,hk.is,hf,if_true,hG,hu]
  rw [if_pos ⟨hm,h0,by have:=Nat.le_of_ble_eq_true huc;omega⟩,hv]
end
structure Rc.Ok (x:Rc):Prop where
 a:wf64 x.a
 k:wf64 x.k
 v:wf64 x.v
theorem Bi.Ok.rc {x:Bi} (h:x.Ok):x.r.Ok:=⟨h.a,h.k,h.v⟩
def Rc.same (x y:Rc):Bool:=(decide (IntKind.i64=IntKind.i64)&&decide (x.a=y.a))&&((decide (IntKind.i64=IntKind.i64)&&decide (x.k=y.k))&&((decide (IntKind.i64=IntKind.i64)&&decide (x.v=y.v))&&true))
theorem Rc.same_iff {x y:Rc}:x.same y=true↔x=y:=by
 obtain ⟨a,k,v⟩:=x
 obtain ⟨a',k',v'⟩:=y
 unfold Rc.same
 simp only [Bool.and_eq_true,decide_eq_true_eq,Rc.mk.injEq,and_true,true_and]
theorem litsRc {x:Rc} (h:x.Ok):litsOf CC.P 81 [.int .i64 x.a, .int .i64 x.k, .int .i64 x.v]=some [.int .i64 x.a, .int .i64 x.k, .int .i64 x.v]:=by
 unfold litsOf
 simp only [vsOf,vOf]
 exact keyRc h.a h.k h.v
theorem eqRc {x y:Rc} (hx:x.Ok) (hy:y.Ok):eqSt CC.P 81 [.int .i64 x.a, .int .i64 x.k, .int .i64 x.v] [.int .i64 y.a, .int .i64 y.k, .int .i64 y.v]=some (x.same y):=by
 have h5:CC.P.keyTypeAt 10 81=true:=by kernel_rfl
 have h6:CC.P.eqGuardType CC.P.depth 81=false:=by kernel_rfl
 unfold eqSt
 rw [if_pos ⟨h5,h6⟩,litsRc hx,litsRc hy]
 rfl
theorem O.rcEq {id:Nat} {l:Env} {G:Nat->Obj} {nx:Nat} {df:List (AV×List AV)} {pk:Pk} {x y:Operand} {t2:TypeId} {a b:Rc} (ha:a.Ok) (hb:b.Ok) (hx:lookO l x=some (.imm a.iv)) (hy:lookO l y=some (.imm b.iv)):OpV CC id l G nx df pk (.binOp .eql 81 x y t2) (.imm (.bool (a.same b))) []:=
 O.of fun t L ht=>by
  simp only [opA,ht.ev hx,ht.ev hy,Rc.iv,binA,eqAV,(inferInstance:TyIs CC 81 ty381).is,ty381,eqRc ha hb,Option.map_some]
def pushB (o:List Bi) (x:Bi):List Bi:=
 match o.getLast? with
 |some y=>if y.r.same x.r then o.dropLast++[⟨y.r,w64 (y.n+x.n)⟩] else o++[x]
 |none=>o++[x]
def mergeB (l:List Bi):List Bi:=l.foldl pushB []
def ofF (l:List Bi):List Bi:=(mergeB (sortedF l)).filter fun x=>x.n != 0
theorem pushB_nil (x:Bi):pushB [] x=[x]:=rfl
theorem pushB_app (o:List Bi) (y x:Bi):pushB (o++[y]) x=if y.r.same x.r then o++[⟨y.r,w64 (y.n+x.n)⟩] else o++[y]++[x]:=by
 unfold pushB
 simp
theorem mergeB_take {l:List Bi} {i:Nat} {x:Bi} (h:l[i]? = some x):mergeB (l.take (i+1))=pushB (mergeB (l.take i)) x:=by
 unfold mergeB
 rw [List.take_add_one,h,List.foldl_append];rfl
theorem pushB_len (o:List Bi) (x:Bi):(pushB o x).length<=o.length+1:=by
 rcases List.eq_nil_or_concat o with rfl|⟨o,y,rfl⟩
 ·rw [pushB_nil];simp
 ·rw [List.concat_eq_append,pushB_app]
  split<;>simp<;>omega
theorem w64_wf (n:Int):wf64 (w64 n):=by
 unfold wf64 w64
 simp [Lit.wf,IntKind.wrap,IntKind.min,IntKind.max,IntKind.signed,IntKind.bits]<;>(try split)<;>omega
theorem pushB_ok {o:List Bi} {x:Bi} (ho:∀ y∈o,y.Ok) (hx:x.Ok):∀ y∈pushB o x,y.Ok:=by
 rcases List.eq_nil_or_concat o with rfl|⟨o,z,rfl⟩
 ·rw [pushB_nil];intro y hy;rw [List.mem_singleton.1 hy];exact hx
 ·rw [List.concat_eq_append] at ho ⊢
  rw [pushB_app]
  intro y hy
  have hz:=ho z (by simp)
  split at hy
  ·rcases List.mem_append.1 hy with h|h
   ·exact ho y (List.mem_append_left _ h)
   ·rw [List.mem_singleton.1 h];exact ⟨hz.a,hz.k,hz.v,w64_wf _⟩
  ·rcases List.mem_append.1 hy with h|h
   ·exact ho y h
   ·rw [List.mem_singleton.1 h];exact hx
theorem mergeB_len:∀ (l:List Bi) (o:List Bi),(l.foldl pushB o).length<=o.length+l.length
 |[],_=>Nat.le_refl _
 |x::l,o=>by
  have:=mergeB_len l (pushB o x)
  have h2:=pushB_len o x
  rw [List.foldl_cons,List.length_cons];omega
theorem mergeB_ok:∀ (l:List Bi) (o:List Bi),(∀ y∈o,y.Ok)->(∀ y∈l,y.Ok)->∀ y∈l.foldl pushB o,y.Ok
 |[],_,h,_=>h
 |x::l,o,h,hl=>by
  rw [List.foldl_cons]
  exact mergeB_ok l _ (pushB_ok h (hl x (by simp))) fun y hy=>hl y (List.mem_cons_of_mem _ hy)
theorem sortF_mem:∀ (m:Nat) (l:List Bi) (x:Bi),x∈sortF m l->x∈l
 |0,_,_,h=>h
 |m+1,l,x,h=>by
  rw [sortF] at h
  split at h
  ·exact h
  ·rcases mergeL_mem _ _ _ _ h with h|h
   ·exact List.mem_of_mem_take (sortF_mem m _ _ h)
   ·exact List.mem_of_mem_drop (sortF_mem m _ _ h)
theorem last_at (o:List Bi) (y:Bi):(((o++[y]).map Bi.iv).map AV.imm)[o.length]? = some (.imm y.iv):=by simp
theorem last_set (o:List Bi) (y z:Bi):(((o++[y]).map Bi.iv).map AV.imm).set o.length (.imm z.iv)=((o++[z]).map Bi.iv).map AV.imm:=by simp
instance fnis488:FnIs CC 188:=⟨rfl,fun _=>rfl⟩
theorem ret488 {l:List Bi} (hl:l.length<=1000000000) (hok:∀ y∈l,y.Ok):Ret CC 188 [bagIV l] (bagIV (ofF l)):=by
 have hsl:(sortedF l).length=l.length:=sortF_len _ _
 have hsk:∀ y∈sortedF l,y.Ok:=fun y hy=>hok y (sortF_mem _ _ _ hy)
 have h506:Ret CC 206 [bagIV l] (bagIV (sortedF l)):=ret506 _ _ (Nat.le_refl _) (by omega)
 have hml:(mergeB (sortedF l)).length<=l.length:=by have:=mergeB_len (sortedF l) [];rw [hsl] at this;simpa [mergeB] using this
 unfold ofF
 generalize sortedF l=S at *
 have hSm:(S.map Bi.iv).length=S.length:=List.length_map ..
 unfold bagIV at h506
 refine Ret.of (fn:=Go.Proofs.Tryz.f188) (by kernel_rfl) rfl rfl ?_
 refine BB ?_
 refine W.loop (X:=Nat×List Bi×AV) (fun s=>[(3,s.2.2),(11, .imm (.lst (S.map Bi.iv))),(12, .imm (.int .i64 (S.map Bi.iv).length)),(13, .imm (.int .i64 s.1))])
  (fun s nx G=>s.1<=S.length/\s.2.1=mergeB (S.take s.1)/\s.2.1.length<=s.1/\(∀ y∈s.2.1,y.Ok)/\Own 169 4 0 nx (s.2.1.map Bi.iv) G s.2.2) (fun s=>S.length-s.1) (0,[], .nils) .auto ⟨Nat.zero_le _,rfl,Nat.le_refl _,by simp, .nil ..⟩ ?_
 rintro ⟨i,o,w⟩ nx G ⟨hi,he,hol,hoo,ho⟩
 dsimp only at hi he hol hoo ho ⊢
 refine BN ?_
 refine W.cond rfl (fun h1=>?_) (fun h1=>?_)
 ·have hlt:i < S.length:=by have:=of_decide_eq_true h1;rw [hSm] at this;omega
  obtain ⟨x,hx⟩:=at_lt hlt
  have hxi:=bag_at hx
  have hxo:=hsk x (List.mem_of_getElem? hx)
  have hmu:S.length-(i+1) < S.length-i:=by omega
  have hst:=mergeB_take hx
  rw [<-he] at hst
  have hpl:=pushB_len o x
  have hpo:=pushB_ok hoo hxo
  obtain ⟨⟨xa,xk,xv⟩,xn⟩:=x
  rcases List.eq_nil_or_concat o with rfl|⟨o,y,rfl⟩
  ·rw [pushB_nil] at hst hpl hpo
   have hof:=fun (G2:Nat->Obj) (h:∀ o,o < nx->G2 o=G o)=>ho.fr (G':=G2) (hh:=Nat.le_refl _) (hG:=fun q _ h2=>h q h2)
   refine BN ?_
   refine R.op0 (O.lenO (xs:=[]) rfl rfl (hof _ fun o h=>at_upd)) rfl ?_
   refine BN ?_
   refine BD ?_
   refine BN ?_
   refine R.app1 (xs:=[]) (z := .agg [.int .i64 xa, .int .i64 xk, .int .i64 xv, .int .i64 xn]) (hof _ fun o h=>at_upd) at_upd (by simp [most]) fun v' G' ho' hG'=>?_
   refine BN ?_
   refine W.skipLop (i+1,[⟨⟨xa,xk,xv⟩,xn⟩],v') hmu .auto ⟨hlt,hst.symm,by simp,hpo,?_⟩
   exact ho'.up (by omega)
  ·rw [List.concat_eq_append] at *
   have hyo:=hoo y (by simp)
   rw [pushB_app] at hst hpl hpo
   rcases ho with ⟨h,_⟩|⟨q,hq0,hq1,rfl,hG⟩
   ·simp at h
   have hle:((o++[y]).map Bi.iv).length=o.length+1:=by simp
   have hle2:(((o++[y]).map Bi.iv).map AV.imm).length=o.length+1:=by simp
   rw [hle]
   have hgq:(decide (((o.length+1:Nat):Int) > 0))=true:=decide_eq_true (by omega)
   refine BN ?_
   have hol2:o.length+1<=i:=by simpa using hol
   have hsub:intOp .sub .i64 ((o.length+1:Nat):Int) 1=some (.int .i64 (o.length:Nat)):=by
    simp only [intOp]
    rw [wrap64 (by omega)]
    congr 2;omega
   refine D.op0 (O.int rfl rfl hsub) rfl rfl ?_
   refine BD ?_
   refine D.op0 (O.addrRX rfl inferInstance rfl rfl (Eq.trans at_upd hG) hle2 (by omega) rfl) rfl rfl ?_
   refine BD ?_
   refine D.op0 (O.loadROA (w := .imm y.r.iv) rfl rfl (Eq.trans at_upd hG) hle2 (last_at o y) rfl rfl) rfl rfl ?_
   refine BD ?_
   refine D.op0 (O.rcEq (a:=y.r) (b:=⟨xa,xk,xv⟩) hyo.rc hxo.rc rfl rfl) rfl rfl ?_
   refine BD ?_
   have hm1:((o.length+1:Nat):Int)-1=(o.length:Nat):=by omega
   cases hs:y.r.same ⟨xa,xk,xv⟩ with
   |true=>
    simp only [hs,if_true] at hst hpl hpo
    refine BN ?_
    rw [hm1]
    refine D.op0 (O.addrRX rfl inferInstance rfl rfl (Eq.trans at_upd hG) hle2 (by omega) rfl) rfl rfl ?_
    refine BD ?_
    refine D.op0 (O.loadRO (w := .imm (.int .i64 y.n)) rfl rfl rfl (Eq.trans at_upd hG) hle2 (last_at o y) rfl) rfl rfl ?_
    refine BD ?_
    refine D.op0 (O.int (u := .int .i64 (w64 (y.n+xn))) rfl rfl rfl) rfl rfl ?_
    refine BD ?_
    refine D.op0 (O.addrRX rfl inferInstance rfl rfl (Eq.trans at_upd hG) hle2 (by omega) rfl) rfl rfl ?_
    refine BD ?_
    refine D.opN1 (O.storeRO (w := .imm (Bi.iv ⟨y.r,w64 (y.n+xn)⟩)) (by decide) rfl rfl rfl (Eq.trans at_upd hG) hle2 (last_at o y) rfl rfl) rfl ?_
    rw [show (o.length:Int).toNat=o.length from rfl,last_set]
    refine D.skip (by kernel_rfl) ?_
    refine BN ?_
    refine W.skipLop (i+1,o++[⟨y.r,w64 (y.n+xn)⟩], .row q (o.length+1)) hmu .auto ⟨hlt,hst.symm,by simp;omega,hpo,?_⟩
    refine .inr ⟨q,hq0,by omega,by simp,at_upd⟩
   |false=>
    simp only [hs,Bool.false_eq_true,if_false] at hst hpl hpo
    refine BN ?_
    refine R.app1 (xs:=(o++[y]).map Bi.iv) (z := .agg [.int .i64 xa, .int .i64 xk, .int .i64 xv, .int .i64 xn]) (lo:=0) (hi:=nx) (G0:=G) (.inr ⟨q,hq0,hq1,by rw [hle],hG⟩) at_upd (by simp only [most];omega) fun v' G' ho' hG'=>?_
    refine BN ?_
    refine W.skipLop (i+1,o++[y]++[⟨⟨xa,xk,xv⟩,xn⟩],v') hmu .auto ⟨hlt,hst.symm,by simp;omega,hpo,?_⟩
    rw [List.map_append]
    exact ho'.up (by omega)
 ·have hge:S.length<=i:=by have:=of_decide_eq_false h1;rw [hSm] at this;omega
  rw [List.take_of_length_le hge] at he
  subst he
  refine BN ?_
  have ho':=ho.up (hi':=nx+1+1+3) (by omega)
  clear ho hoo hol hi
  generalize mergeB S=M at *
  generalize nx+1+1+3=n0 at *
  have hMm:(M.map Bi.iv).length=M.length:=List.length_map ..
  refine W.loop (X:=Nat×AV) (fun s=>[(7,s.2),(48,w),(49, .imm (.int .i64 (M.map Bi.iv).length)),(50, .imm (.int .i64 s.1))])
   (fun s nx G=>n0<=nx/\s.1<=M.length/\Own 169 4 0 n0 (M.map Bi.iv) G w/\Own 169 4 n0 nx (((M.take s.1).filter fun x=>x.n != 0).map Bi.iv) G s.2) (fun s=>M.length-s.1) (0, .nils) .auto ⟨Nat.le_refl _,Nat.zero_le _,ho', .nil ..⟩ ?_
  clear ho' h1
  rintro ⟨i,v⟩ nx G ⟨hnx,hi,hw,ho⟩
  dsimp only at hi ho ⊢
  refine BN ?_
  refine W.cond rfl (fun h1=>?_) (fun h1=>?_)
  ·have hlt:i < M.length:=by have:=of_decide_eq_true h1;rw [hMm] at this;omega
   obtain ⟨x,hx⟩:=at_lt hlt
   have hmu:M.length-(i+1) < M.length-i:=by omega
   rcases hw with ⟨h,_⟩|⟨q,hq0,hq1,rfl,hG⟩
   ·rw [h] at hMm;simp at hMm;omega
   have hxi:((M.map Bi.iv).map AV.imm)[((i:Nat):Int).toNat]? = some (.imm x.iv):=by rw [List.getElem?_map,bag_at hx];rfl
   have hlen:(((M.take i).filter fun x=>x.n != 0).map Bi.iv).length<=i:=filter_small
   have htk:∀ c,(x.n != 0)=c->((M.take (i+1)).filter fun x=>x.n != 0).map Bi.iv=((M.take i).filter fun x=>x.n != 0).map Bi.iv++(if c then [x.iv] else []):=fun c hc=>filter_step hx hc
   obtain ⟨⟨xa,xk,xv⟩,xn⟩:=x
   simp only at htk
   rcases Bool.eq_false_or_eq_true (xn != 0) with c1|c1
   ·have htk2:=htk true c1
    rw [if_pos rfl] at htk2
    refine BN ?_
    refine R.app1 (z := .agg [.int .i64 xa, .int .i64 xk, .int .i64 xv, .int .i64 xn]) ho at_upd (by simp only [most];omega) fun v' G' ho' hG'=>?_
    refine BN ?_
    refine W.skipLop (i+1,v') hmu .auto ⟨by omega,hlt, .inr ⟨q,hq0,hq1,rfl,(hG' q (by omega)).trans (Eq.trans at_upd hG)⟩,?_⟩
    show Own _ _ _ _ (((M.take (i+1)).filter fun x=>x.n != 0).map Bi.iv) _ _
    rw [htk2]
    exact ho'.up (by omega)
   ·have htk2:=htk false c1
    rw [if_neg (by decide),List.append_nil] at htk2
    refine BN ?_
    refine W.skipLop (i+1,v) hmu .auto ⟨by omega,hlt, .inr ⟨q,hq0,hq1,rfl,Eq.trans at_upd hG⟩,?_⟩
    show Own _ _ _ _ (((M.take (i+1)).filter fun x=>x.n != 0).map Bi.iv) _ _
    rw [htk2]
    exact ho.fr
  ·have hge:M.length<=i:=by have:=of_decide_eq_false h1;rw [hMm] at this;omega
   rw [List.take_of_length_le hge] at ho
   refine BN ?_
   exact W.retFin1 rfl (ho.peek (k:=99))
end Go.Abs

/- The reference: folds of bags, moment by moment. -/
open Go Go.Abs
namespace Go.Abs
set_option maxRecDepth 100000
set_option maxHeartbeats 4000000
theorem W.join {C:Cfg} {fid nt:Nat} {l:Env} {G:Nat->Obj} {nx:Nat} {df:List (AV×List AV)} {pk:Pk} {Φ:Out->Prop} {a:Code} {X:Type} (le:X->Env) (Ge:X->Nat->(Nat->Obj)->Prop) (h1:W C fid nt a l G nx df pk (cutP le Ge df pk Φ)) (h2:∀ x nx G,Ge x nx G->W C fid nt .skip (le x) G nx df pk Φ):W C fid nt a l G nx df pk Φ:=
 h1.mono fun o ho=>by
  cases o with
  |norm s=>
   obtain ⟨x,ha,hg,hd,hp⟩:=ho
   have:=(h2 x s.nx s.G hg).skipI s.tmps ha
   have e:s=⟨s.tmps,s.G,s.nx,df,pk⟩:=by cases s;simp_all
   rw [e];exact this
  |_=>exact ho
theorem O.callGx {C:Cfg} {id:Nat} {l:Env} {G:Nat->Obj} {nx:Nat} {df:List (AV×List AV)} {pk:Pk} {f:FuncId} {ar:List Operand} {ats:Array TypeId} {vs:List AV} {ivs:List IV} {x:IV} [hf:FnIs C f] (ha:looks l ar=some vs) (hi:∃ ids,peeks G vs=some (ivs,ids)) (hr:Ret C f ivs x) (hx:x.scalar=true) :
  OpV C id l G nx df pk (.call { callee := .value (.func f),args:=⟨ar⟩,argTypes:=ats }) (.imm x) []:=by
 obtain ⟨ids,hi⟩:=hi
 exact O.callG ha hi hr hx
theorem peeksx_one {G:Nat->Obj} {v:AV} {x:IV} {ids2:List Nat} {vs:List AV} {xs:List IV} (h:∃ ids,Go.Abs.peek G pkDepth v=some (x,ids)) (hr:peeks G vs=some (xs,ids2)):∃ ids,peeks G (v::vs)=some (x::xs,ids):=by
 obtain ⟨ids,h⟩:=h
 exact ⟨_,peeks_one h hr⟩
theorem clampZ_in (n:Int) : -1000000000<=clampZ n/\clampZ n<=1000000000:=by
 unfold clampZ
 split<;>(split<;>(try split)<;>omega)
theorem wf64_in {n:Int} (h1 : -9223372036854775808<=n) (h2:n<=9223372036854775807):wf64 n:=by
 unfold wf64
 simp [Lit.wf,IntKind.min,IntKind.max,IntKind.signed,IntKind.bits];omega
theorem foldZ_wf (f:Int) (b:List Bi):wf64 (foldZ f b):=by
 have:=clampZ_in (foldI f b b.length)
 unfold foldZ
 exact wf64_in (by omega) (by omega)
def addB (o:List Bi) (x:Bi):List Bi:=if hasB o x then o else o++[x]
theorem addB_len (o:List Bi) (x:Bi):(addB o x).length<=o.length+1:=by unfold addB;split<;>simp
theorem addB_ok {o:List Bi} {x:Bi} (ho:∀ y∈o,y.Ok) (hx:x.Ok):∀ y∈addB o x,y.Ok:=by
 unfold addB
 split
 ·exact ho
 ·intro y hy
  rcases List.mem_append.1 hy with h|h
  ·exact ho y h
  ·rw [List.mem_singleton.1 h];exact hx
def winF (op n a:Int):Int×Int:=if op==8 then (w64 (a-a.tmod n),w64 (w64 (w64 (a-a.tmod n)+n)-1)) else if op==9 then (w64 (a-n),a) else (0,a)
def foldB (op n f:Int) (b:List Bi) (x:Bi):Bi:=⟨⟨(winF op n x.r.a).2,x.r.k,foldZ f (keyedF b x.r.k (winF op n x.r.a).1 (winF op n x.r.a).2)⟩,1⟩
def foldsF (op n f:Int) (b:List Bi):List Bi:=(b.map (foldB op n f b)).foldl addB []
theorem foldsT_step (g:Bi->Bi) {b:List Bi} {i:Nat} {x:Bi} (h:b[i]? = some x):((b.take (i+1)).map g).foldl addB []=addB (((b.take i).map g).foldl addB []) (g x):=by
 rw [List.take_add_one,h,List.map_append,List.foldl_append];rfl
theorem winF_wf {op n a:Int} (h:wf64 a):wf64 (winF op n a).2:=by
 unfold winF
 split
 ·exact w64_wf _
 ·split<;>exact h
instance fnis508:FnIs CC 208:=⟨rfl,fun _=>rfl⟩
theorem ret508 {b:List Bi} (hl:b.length<=1000000000) (hok:∀ y∈b,y.Ok) {op n f:Int} {name:Str} {calcs:List Trm} {kids:List Exp} (hn:op=8->n≠0):Ret CC 208 [Exp.iv (.mk op name n f calcs kids),bagIV b] (bagIV (foldsF op n f b)):=by
 have hbm:(b.map Bi.iv).length=b.length:=List.length_map ..
 have h522:=fun key lo hi=>ret522 (b:=b) (by omega) key lo hi
 have h521:=fun key lo hi=>ret521 (b:=keyedF b key lo hi) (by unfold keyedF;have:=List.length_filter_le (fun x:Bi=>x.r.k==key&&decide (x.r.a>=lo)&&decide (x.r.a<=hi)) b;omega) f
 unfold foldsF
 refine Ret.of (fn:=Go.Proofs.Tryz.f208) (by kernel_rfl) rfl rfl ?_
 refine BB ?_
 refine W.loop (X:=Nat×List Bi×AV) (fun s=>[(1, .imm (bagIV b)),(2, .ptr 0 0),(5,s.2.2),(6, .imm (.int .i64 s.1))])
  (fun s nx G=>1<=nx/\G 0 = .box ((Exp.mk op name n f calcs kids).iv.cells.map .imm) false/\s.1<=b.length/\s.2.1=((b.take s.1).map (foldB op n f b)).foldl addB []/\s.2.1.length<=s.1/\(∀ y∈s.2.1,y.Ok)/\Own 169 4 1 nx (s.2.1.map Bi.iv) G s.2.2) (fun s=>b.length-s.1) (0,[], .nils) .auto ⟨by omega,rfl,Nat.zero_le _,rfl,Nat.le_refl _,by simp, .nil ..⟩ ?_
 rintro ⟨i,o,w⟩ nx G ⟨hnx,g0,hi,he,hol,hoo,ho⟩
 dsimp only at hi he hol hoo ho ⊢
 refine BN ?_
 refine W.cond rfl (fun h1=>?_) (fun h1=>?_)
 ·have hlt:i < b.length:=by have:=of_decide_eq_true h1;rw [hbm] at this;omega
  obtain ⟨x,hx⟩:=at_lt hlt
  have hxi:=bag_at hx
  have hxo:=hok x (List.mem_of_getElem? hx)
  have hmu:b.length-(i+1) < b.length-i:=by omega
  have hst:=foldsT_step (foldB op n f b) hx
  rw [<-he] at hst
  have hfo:(foldB op n f b x).Ok:=⟨winF_wf hxo.a,hxo.k,foldZ_wf _ _,wf64_in (by show (-9223372036854775808:Int)<=1;decide) (by show (1:Int)<=_;decide)⟩
  have h523:=ret523 (b:=o) (z:=foldB op n f b x) (by omega) hoo hfo
  have hpl:=addB_len o (foldB op n f b x)
  have hpo:=addB_ok hoo hfo
  have hfe:foldB op n f b x=⟨⟨(winF op n x.r.a).2,x.r.k,foldZ f (keyedF b x.r.k (winF op n x.r.a).1 (winF op n x.r.a).2)⟩,1⟩:=rfl
  generalize foldB op n f b x=z at *
  obtain ⟨⟨a,k,v⟩,xn⟩:=x
  dsimp only at hfe
  refine BN ?_
  refine W.join (X:=Int×Int) (fun s=>[(1, .imm (bagIV b)),(2, .ptr 0 0),(5,w),(6, .imm (.int .i64 i)),(8, .imm (.int .i64 s.1)),(7, .imm (.int .i64 s.2))])
   (fun s nx' G'=>s=winF op n a/\nx<=nx'/\∀ o,o < nx->G' o=G o) ?_ ?_
  ·unfold winF
   rcases Bool.eq_false_or_eq_true (op==8) with c1|c1
   ·have h8:op=8:=by simpa using c1
    have hrem:intOp .rem .i64 a n=some (.int .i64 (a.tmod n)):=by simp only [intOp,if_neg (hn h8)]
    rw [c1,if_pos rfl]
    refine BN ?_
    refine R.op0 (O.int rfl rfl hrem) rfl ?_
    refine R.op0 (O.int (u := .int .i64 (w64 (a-a.tmod n))) rfl rfl rfl) rfl ?_
    refine BN ?_
    refine R.op0 (O.int (u := .int .i64 (w64 (w64 (a-a.tmod n)+n))) rfl rfl rfl) rfl ?_
    refine R.op0 (O.int (u := .int .i64 (w64 (w64 (w64 (a-a.tmod n)+n)-1))) rfl rfl rfl) rfl ?_
    refine BN ?_
    exact W.skipCut (w64 (a-a.tmod n),w64 (w64 (w64 (a-a.tmod n)+n)-1)) .auto ⟨rfl,by omega,fun o ho=>rfl⟩
   ·rw [c1,if_neg (by decide)]
    rcases Bool.eq_false_or_eq_true (op==9) with c2|c2
    ·rw [c2,if_pos rfl]
     refine BN ?_
     refine R.op0 (O.int (u := .int .i64 (w64 (a-n))) rfl rfl rfl) rfl ?_
     refine BN ?_
     exact W.skipCut (w64 (a-n),a) .auto ⟨rfl,by omega,fun o ho=>rfl⟩
    ·rw [c2,if_neg (by decide)]
     refine BN ?_
     exact W.skipCut (0,a) .auto ⟨rfl,by omega,fun o ho=>rfl⟩
  ·rintro _ nx' G' ⟨rfl,hnx',hG'⟩
   have ho':=ho.fr (G':=G') (hi':=nx') (by omega) (fun q _ h2=>hG' q h2)
   have g0':=(hG' 0 (by omega)).trans g0
   clear ho g0 hG'
   generalize (winF op n a).1=lo at *
   generalize (winF op n a).2=at' at *
   have h522':=h522 k lo at'
   have h521':=h521 k lo at'
   refine BN ?_
   have hfr:=fun (G2:Nat->Obj) (h:∀ o,o < nx'->G2 o=G' o)=>ho'.fr (G':=G2) (hh:=Nat.le_refl _) (hG:=fun q _ h2=>h q h2)
   have hpk:=fun (G2:Nat->Obj) (h:∀ o,o < nx'->G2 o=G' o)=>(hfr G2 h).peek (k:=99)
   unfold bagIV at h523
   rw [hfe] at h523
   refine R.op0 (O.callGx rfl (peeksx_one (hpk _ fun o h=>at_upd) (peeks_im peeks_nil)) h523 rfl) rfl ?_
   cases hc:hasB o z with
   |true=>
    have e1:addB o z=o:=by unfold addB;rw [if_pos hc]
    rw [e1] at hst hpl hpo
    rw [<-hfe,hc]
    refine BN ?_
    exact W.skipLop (i+1,o,w) hmu .auto ⟨by omega,Eq.trans at_upd g0',hlt,hst.symm,by simp only;omega,hpo,(hfr _ fun o h=>at_upd).up (by omega)⟩
   |false=>
    have e1:addB o z=o++[z]:=by unfold addB;rw [if_neg (by rw [hc];decide)]
    rw [e1] at hst hpl hpo
    rw [<-hfe,hc]
    refine BN ?_
    subst hfe
    refine R.app1 (z := .agg [.int .i64 at', .int .i64 k, .int .i64 (foldZ f (keyedF b k lo at')), .int .i64 1]) (hfr _ fun o h=>at_upd) at_upd (by simp only [most,List.length_map];omega) fun v' G2 ho2 hG2=>?_
    refine BN ?_
    refine W.skipLop (i+1,o++[⟨⟨at',k,foldZ f (keyedF b k lo at')⟩,1⟩],v') hmu .auto ⟨by omega,(hG2 0 (by omega)).trans (Eq.trans at_upd g0'),hlt,hst.symm,by simp;omega,hpo,?_⟩
    rw [List.map_append]
    exact ho2.up (by omega)
 ·have hge:b.length<=i:=by have:=of_decide_eq_false h1;rw [hbm] at this;omega
  rw [List.take_of_length_le hge] at he
  subst he
  refine BN ?_
  exact W.retFin1 rfl (ho.peek (k:=99))
end Go.Abs

/- The reference: items of a key that rests. -/
open Go Go.Abs
namespace Go.Abs
set_option maxRecDepth 100000
set_option maxHeartbeats 4000000
def Tin (a:Int):Prop:=0<=a/\a<=200
def restLow (n:Int) (b:List Bi) (key:Int):Nat->Int->Int
 |0,low=>low
 |m+1,low=>match keyedF b key (w64 (low-n)) (w64 (low-1)) with
  |[]=>low
  |y::_=>restLow n b key m y.r.a
def restB (n f:Int) (b:List Bi) (x:Bi):Bi:=⟨⟨w64 (x.r.a+n),x.r.k,foldZ f (keyedF b x.r.k (restLow n b x.r.k 201 x.r.a) x.r.a)⟩,1⟩
def restP (n:Int) (b:List Bi) (x:Bi):Bool:=(keyedF b x.r.k (w64 (x.r.a+1)) (w64 (x.r.a+n))).isEmpty
def restsF (n f:Int) (b:List Bi):List Bi:=((b.filter (restP n b)).map (restB n f b)).foldl addB []
theorem restsT_step {P:Bi->Bool} {g:Bi->Bi} {b:List Bi} {i:Nat} {x:Bi} (h:b[i]? = some x):(((b.take (i+1)).filter P).map g).foldl addB []=if P x then addB ((((b.take i).filter P).map g).foldl addB []) (g x) else (((b.take i).filter P).map g).foldl addB []:=by
 rw [List.take_add_one,h,List.filter_append,List.map_append,List.foldl_append]
 show List.foldl addB _ ((List.filter P [x]).map g)=_
 rw [List.filter_cons]
 cases P x<;>rfl
theorem keyed_mem {b:List Bi} {k lo hi:Int} {y:Bi} (h:y∈keyedF b k lo hi):y∈b/\lo<=y.r.a/\y.r.a<=hi:=by
 unfold keyedF at h
 rw [List.mem_filter,Bool.and_eq_true,Bool.and_eq_true,decide_eq_true_eq,decide_eq_true_eq] at h
 exact ⟨h.1,h.2.1.2,h.2.2⟩
theorem w64_id {n:Int} (h1 : -9223372036854775808<=n) (h2:n<=9223372036854775807):w64 n=n:=wrap64 ⟨h1,h2⟩
instance fnis509:FnIs CC 209:=⟨rfl,fun _=>rfl⟩
theorem ret509 {b:List Bi} (hl:b.length<=1000000000) (hok:∀ y∈b,y.Ok) (htm:∀ y∈b,Tin y.r.a) {op n f:Int} {name:Str} {calcs:List Trm} {kids:List Exp}:Ret CC 209 [Exp.iv (.mk op name n f calcs kids),bagIV b] (bagIV (restsF n f b)):=by
 have hbm:(b.map Bi.iv).length=b.length:=List.length_map ..
 have h522:=fun key lo hi=>ret522 (b:=b) (by omega) key lo hi
 have h521:=fun key lo hi=>ret521 (b:=keyedF b key lo hi) (by unfold keyedF;have:=List.length_filter_le (fun x:Bi=>x.r.k==key&&decide (x.r.a>=lo)&&decide (x.r.a<=hi)) b;omega) f
 unfold restsF
 refine Ret.of (fn:=Go.Proofs.Tryz.f209) (by kernel_rfl) rfl rfl ?_
 refine BB ?_
 refine W.loop (X:=Nat×List Bi×AV) (fun s=>[(1, .imm (bagIV b)),(2, .ptr 0 0),(5,s.2.2),(6, .imm (.int .i64 s.1))])
  (fun s nx G=>1<=nx/\G 0 = .box ((Exp.mk op name n f calcs kids).iv.cells.map .imm) false/\s.1<=b.length/\s.2.1=(((b.take s.1).filter (restP n b)).map (restB n f b)).foldl addB []/\s.2.1.length<=s.1/\(∀ y∈s.2.1,y.Ok)/\Own 169 4 1 nx (s.2.1.map Bi.iv) G s.2.2) (fun s=>b.length-s.1) (0,[], .nils) .auto ⟨by omega,rfl,Nat.zero_le _,rfl,Nat.le_refl _,by simp, .nil ..⟩ ?_
 rintro ⟨i,o,w⟩ nx G ⟨hnx,g0,hi,he,hol,hoo,ho⟩
 dsimp only at hi he hol hoo ho ⊢
 refine BN ?_
 refine W.cond rfl (fun h1=>?_) (fun h1=>?_)
 ·have hlt:i < b.length:=by have:=of_decide_eq_true h1;rw [hbm] at this;omega
  obtain ⟨x,hx⟩:=at_lt hlt
  have hxi:=bag_at hx
  have hxo:=hok x (List.mem_of_getElem? hx)
  have hxt:=htm x (List.mem_of_getElem? hx)
  have hmu:b.length-(i+1) < b.length-i:=by omega
  have hst:=restsT_step (P:=restP n b) (g:=restB n f b) hx
  rw [<-he] at hst
  have hfo:(restB n f b x).Ok:=⟨w64_wf _,hxo.k,foldZ_wf _ _,wf64_in (by show (-9223372036854775808:Int)<=1;decide) (by show (1:Int)<=_;decide)⟩
  have h523:=ret523 (b:=o) (z:=restB n f b x) (by omega) hoo hfo
  have hpl:=addB_len o (restB n f b x)
  have hpo:=addB_ok hoo hfo
  have hfe:restB n f b x=⟨⟨w64 (x.r.a+n),x.r.k,foldZ f (keyedF b x.r.k (restLow n b x.r.k 201 x.r.a) x.r.a)⟩,1⟩:=rfl
  generalize restB n f b x=z at *
  have hpe:restP n b x=(keyedF b x.r.k (w64 (x.r.a+1)) (w64 (x.r.a+n))).isEmpty:=rfl
  rw [hpe] at hst
  clear hpe
  obtain ⟨⟨a,k,v⟩,xn⟩:=x
  dsimp only at hfe hst hxt
  have hfr:=fun (G2:Nat->Obj) (h:∀ o,o < nx->G2 o=G o)=>ho.fr (G':=G2) (hh:=Nat.le_refl _) (hG:=fun q _ h2=>h q h2)
  have h5221:=h522 k (w64 (a+1)) (w64 (a+n))
  refine BN ?_
  refine R.op0 (O.int (u := .int .i64 (w64 (a+1))) rfl rfl rfl) rfl ?_
  refine BN ?_
  refine R.op0 (O.int (u := .int .i64 (w64 (a+n))) rfl rfl rfl) rfl ?_
  refine BN ?_
  refine W.cond rfl (fun h2=>?_) (fun h2=>?_)
  ·have hem:(keyedF b k (w64 (a+1)) (w64 (a+n))).isEmpty=false:=by
    have:=of_decide_eq_true h2
    rw [List.length_map] at this
    cases hk:keyedF b k (w64 (a+1)) (w64 (a+n)) with
    |nil=>rw [hk] at this;simp at this
    |cons _ _=>rfl
   simp only [hem,Bool.false_eq_true,if_false] at hst
   refine BN ?_
   exact W.skipLop (i+1,o,w) hmu .auto ⟨by omega,Eq.trans at_upd g0,hlt,hst.symm,by simp only;omega,hoo,(hfr _ fun o h=>at_upd).up (by omega)⟩
  ·have hem:(keyedF b k (w64 (a+1)) (w64 (a+n))).isEmpty=true:=by
    have:=of_decide_eq_false h2
    rw [List.length_map] at this
    cases hk:keyedF b k (w64 (a+1)) (w64 (a+n)) with
    |nil=>rfl
    |cons _ _=>rw [hk] at this;simp at this
   simp only [hem,if_true] at hst
   refine BN ?_
   refine W.loop (X:=Int×Bool) (fun s=>[(1, .imm (bagIV b)),(2, .ptr 0 0),(5,w),(6, .imm (.int .i64 i)),(7, .ptr (nx+4+5) 0),(8, .imm (.int .i64 s.1)),(9, .imm (.bool s.2))])
    (fun s nx1 G1=>nx+25<=nx1/\G1 (nx+4+5) = .box [.imm (.int .i64 a), .imm (.int .i64 k), .imm (.int .i64 v)] false/\(∀ o,o < nx->G1 o=G o)/\(s.2=true->Tin s.1/\∃ m,s.1.toNat < m/\restLow n b k m s.1=restLow n b k 201 a)/\(s.2=false->s.1=restLow n b k 201 a))
    (fun s=>if s.2 then s.1.toNat+2 else 0) (a,true) .auto ⟨by omega,at_upd,fun o ho=>at_upd,fun _=>⟨hxt,201,by have:=hxt.1;have:=hxt.2;omega,rfl⟩,fun h=>by cases h⟩ ?_
   rintro ⟨low,more⟩ nx1 G1 ⟨hn1,g1,hG1,hmore,hdone⟩
   dsimp only at hmore hdone ⊢
   have g01:=(hG1 0 (by omega)).trans g0
   cases more with
   |true=>
    obtain ⟨hlt2,m,hm,hlo⟩:=hmore rfl
    have h522l:=h522 k (w64 (low-n)) (w64 (low-1))
    have hcase:(keyedF b k (w64 (low-n)) (w64 (low-1))=[]/\low=restLow n b k 201 a)\/∃ y r,keyedF b k (w64 (low-n)) (w64 (low-1))=y::r/\Tin y.r.a/\y.r.a < low/\∃ m,y.r.a.toNat < m/\restLow n b k m y.r.a=restLow n b k 201 a:=by
     cases m with
     |zero=>omega
     |succ m=>
      rw [restLow] at hlo
      have hmem:∀ y∈keyedF b k (w64 (low-n)) (w64 (low-1)),Tin y.r.a/\y.r.a < low:=fun y hy=>by
       obtain ⟨h1,h2,h3⟩:=keyed_mem hy
       obtain ⟨e1,e2⟩:=hlt2
       rw [w64_id (by omega) (by omega)] at h3
       exact ⟨htm y h1,by omega⟩
      cases hk:keyedF b k (w64 (low-n)) (w64 (low-1)) with
      |nil=>rw [hk] at hlo;exact .inl ⟨rfl,hlo⟩
      |cons y r=>
       rw [hk] at hlo hmem
       obtain ⟨t1,t2⟩:=hmem y (by simp)
       exact .inr ⟨y,r,rfl,t1,t2,m,by have:=t1.1;omega,hlo⟩
    generalize keyedF b k (w64 (low-n)) (w64 (low-1))=K at *
    refine BN ?_
    refine R.op0 (O.int (u := .int .i64 (w64 (low-n))) rfl rfl rfl) rfl ?_
    refine BN ?_
    refine R.op0 (O.int (u := .int .i64 (w64 (low-1))) rfl rfl rfl) rfl ?_
    refine BN ?_
    rcases hcase with ⟨rfl,hT⟩|⟨y,r,rfl,hy1,hy2,hy3⟩
    ·have hd:decide (((([]:List Bi).map Bi.iv).length:Int) > 0)=false:=rfl
     refine BN ?_
     rw [hd]
     exact W.skipLop (low,false) (by simp) .auto ⟨by omega,g1,hG1,fun h=>(by cases h),fun _=>hT⟩
    ·have hy0:((y::r).map Bi.iv)[(0:Int).toNat]? = some y.iv:=rfl
     have hd:decide ((((y::r).map Bi.iv).length:Int) > 0)=true:=decide_eq_true (by simp only [List.length_map,List.length_cons];omega)
     refine BN ?_
     rw [hd]
     exact W.skipLop (y.r.a,true) (by have:=hy1.1;have:=hlt2.1;simp;omega) .auto ⟨by omega,g1,hG1,fun _=>⟨hy1,hy3⟩,fun h=>(by cases h)⟩
   |false=>
    have hT:=hdone rfl
    clear hmore hdone
    rw [<-hT] at hfe
    have ho':=ho.fr (G':=G1) (hi':=nx1) (by omega) (fun q _ h2=>hG1 q h2)
    clear ho hfr
    have h522':=h522 k low a
    have h521':=h521 k low a
    refine BN ?_
    refine D.op0 (O.int (u := .int .i64 (w64 (a+n))) rfl rfl rfl) rfl rfl ?_
    refine BD ?_
    refine D.auto ?_
    have hfr:=fun (G2:Nat->Obj) (h:∀ o,o < nx1->G2 o=G1 o)=>ho'.fr (G':=G2) (hh:=Nat.le_refl _) (hG:=fun q _ h2=>h q h2)
    have hpk:=fun (G2:Nat->Obj) (h:∀ o,o < nx1->G2 o=G1 o)=>(hfr G2 h).peek (k:=99)
    unfold bagIV at h523
    rw [hfe] at h523
    refine BN ?_
    refine R.op0 (O.callGx rfl (peeksx_one (hpk _ fun o h=>at_upd) (peeks_im peeks_nil)) h523 rfl) rfl ?_
    cases hc:hasB o z with
    |true=>
     have e1:addB o z=o:=by unfold addB;rw [if_pos hc]
     rw [e1] at hst hpl hpo
     rw [<-hfe,hc]
     refine BN ?_
     exact W.skipLop (i+1,o,w) hmu .auto ⟨by omega,Eq.trans at_upd g01,hlt,hst.symm,by simp only;omega,hpo,(hfr _ fun o h=>at_upd).up (by omega)⟩
    |false=>
     have e1:addB o z=o++[z]:=by unfold addB;rw [if_neg (by rw [hc];decide)]
     rw [e1] at hst hpl hpo
     rw [<-hfe,hc]
     refine BN ?_
     subst hfe
     refine R.app1 (z := .agg [.int .i64 (w64 (a+n)), .int .i64 k, .int .i64 (foldZ f (keyedF b k low a)), .int .i64 1]) (hfr _ fun o h=>at_upd) at_upd (by simp only [most,List.length_map];omega) fun v' G2 ho2 hG2=>?_
     refine BN ?_
     refine W.skipLop (i+1,o++[⟨⟨w64 (a+n),k,foldZ f (keyedF b k low a)⟩,1⟩],v') hmu .auto ⟨by omega,(hG2 0 (by omega)).trans (Eq.trans at_upd g01),hlt,hst.symm,by simp;omega,hpo,?_⟩
     rw [List.map_append]
     exact ho2.up (by omega)
 ·have hge:b.length<=i:=by have:=of_decide_eq_false h1;rw [hbm] at this;omega
  rw [List.take_of_length_le hge] at he
  subst he
  refine BN ?_
  exact W.retFin1 rfl (ho.peek (k:=99))
end Go.Abs

/- Bags in order: what they hold says what they are. -/
open Go Go.Abs
namespace Go.Abs
set_option maxRecDepth 100000
def Rc.lt (x y:Rc):Prop:=x.a < y.a\/x.a=y.a/\(x.k < y.k\/x.k=y.k/\x.v < y.v)
theorem Rc.ext' {x y:Rc} (h1:x.a=y.a) (h2:x.k=y.k) (h3:x.v=y.v):x=y:=by cases x;cases y;simp_all
theorem lessR_iff {x y:Rc}:lessR x y=true↔x.lt y:=by
 unfold lessR Rc.lt
 by_cases h1:x.a=y.a
 ·rw [h1,bne_self_eq_false,if_neg (by decide)]
  by_cases h2:x.k=y.k
  ·rw [h2,bne_self_eq_false,if_neg (by decide),decide_eq_true_eq];omega
  ·rw [if_pos (bne_iff_ne.2 h2),decide_eq_true_eq];omega
 ·rw [if_pos (bne_iff_ne.2 h1),decide_eq_true_eq];omega
theorem Rc.lt_irrefl {x:Rc} (h:x.lt x):False:=by unfold Rc.lt at h;omega
theorem Rc.lt_trans {x y z:Rc} (h:x.lt y) (h2:y.lt z):x.lt z:=by unfold Rc.lt at *;omega
theorem Rc.lt_tri (x y:Rc):x.lt y\/x=y\/y.lt x:=by
 unfold Rc.lt
 by_cases h1:x.a=y.a
 ·by_cases h2:x.k=y.k
  ·by_cases h3:x.v=y.v
   ·exact .inr (.inl (Rc.ext' h1 h2 h3))
   ·omega
  ·omega
 ·omega
def Srt (b:List Bi):Prop:=b.Pairwise fun x y=>x.r.lt y.r
theorem srt_ext:∀ {a b:List Bi},Srt a->Srt b->(∀ z,z∈a↔z∈b)->a=b
 |[],[],_,_,_=>rfl
 |[],y::ys,_,_,h=>absurd ((h y).2 (List.mem_cons_self ..)) (by simp)
 |x::xs,[],_,_,h=>absurd ((h x).1 (List.mem_cons_self ..)) (by simp)
 |x::xs,y::ys,ha,hb,h=>by
  obtain ⟨ha1,ha2⟩:=List.pairwise_cons.1 ha
  obtain ⟨hb1,hb2⟩:=List.pairwise_cons.1 hb
  have hxy:x=y:=by
   rcases List.mem_cons.1 ((h x).1 (List.mem_cons_self ..)) with e|h1
   ·exact e
   ·rcases List.mem_cons.1 ((h y).2 (List.mem_cons_self ..)) with e|h2
    ·exact e.symm
    ·exact (Rc.lt_irrefl (Rc.lt_trans (ha1 y h2) (hb1 x h1))).elim
  subst hxy
  rw [srt_ext ha2 hb2 fun z=>⟨fun hz=>?_,fun hz=>?_⟩]
  ·rcases List.mem_cons.1 ((h z).1 (List.mem_cons_of_mem _ hz)) with rfl|h1
   ·exact (Rc.lt_irrefl (ha1 _ hz)).elim
   ·exact h1
  ·rcases List.mem_cons.1 ((h z).2 (List.mem_cons_of_mem _ hz)) with rfl|h1
   ·exact (Rc.lt_irrefl (hb1 _ hz)).elim
   ·exact h1
theorem Srt.filter {b:List Bi} (h:Srt b) (P:Bi->Bool):Srt (b.filter P):=List.Pairwise.filter P h
theorem mem_cut {b:List Bi} {lo hi:Int} {z:Bi}:z∈cutB b lo hi↔z∈b/\lo<=z.r.a/\z.r.a<=hi:=by
 unfold cutB
 rw [List.mem_filter,Bool.and_eq_true,decide_eq_true_eq,decide_eq_true_eq]
theorem Srt.cut {b:List Bi} (h:Srt b) (lo hi:Int):Srt (cutB b lo hi):=h.filter _
def cntZ:List Bi->Rc->Int
 |[],_=>0
 |x::l,r=>(if x.r.same r=true then x.n else 0)+cntZ l r
theorem cntZ_app (r:Rc):∀ a b:List Bi,cntZ (a++b) r=cntZ a r+cntZ b r
 |[],b=>by simp [cntZ]
 |x::a,b=>by rw [List.cons_append,cntZ,cntZ,cntZ_app r a b];omega
theorem cntZ_perm {r:Rc} {a b:List Bi} (h:a.Perm b):cntZ a r=cntZ b r:=by
 induction h with
 |nil=>rfl
 |cons x _ ih=>rw [cntZ,cntZ,ih]
 |swap x y l=>rw [cntZ,cntZ,cntZ,cntZ];omega
 |trans _ _ h1 h2=>rw [h1,h2]
theorem cntZ_not {r:Rc}:∀ {b:List Bi},(∀ z∈b,z.r≠r)->cntZ b r=0
 |[],_=>rfl
 |x::b,h=>by
  rw [cntZ,cntZ_not fun z hz=>h z (List.mem_cons_of_mem _ hz),if_neg fun hs=>h x (List.mem_cons_self ..) (Rc.same_iff.1 hs)];rfl
theorem cntZ_mem {b:List Bi} (h:Srt b):∀ {z:Bi},z∈b->cntZ b z.r=z.n:=by
 induction b with
 |nil=>intro z hz;simp at hz
 |cons x b ih=>
  intro z hz
  obtain ⟨h1,h2⟩:=List.pairwise_cons.1 h
  rw [cntZ]
  rcases List.mem_cons.1 hz with rfl|hz
  ·rw [if_pos (Rc.same_iff.2 rfl),cntZ_not fun y hy e=>Rc.lt_irrefl (e▸h1 y hy)];omega
  ·rw [if_neg fun hs=>Rc.lt_irrefl (Rc.same_iff.1 hs▸h1 z hz),ih h2 hz];omega
theorem cntZ_has {r:Rc} {b:List Bi} (h:cntZ b r≠0):∃ z∈b,z.r=r:=Classical.byContradiction fun hc=>h (cntZ_not fun z hz e=>hc ⟨z,hz,e⟩)
theorem cntZ_cut {r:Rc}:∀ b:List Bi,cntZ (cutB b r.a r.a) r=cntZ b r
 |[]=>rfl
 |x::b=>by
  have ih:=cntZ_cut (r:=r) b
  unfold cutB at ih ⊢
  rw [List.filter_cons]
  split
  ·rw [cntZ,cntZ,ih]
  ·rename_i hc
   rw [cntZ,ih,if_neg fun hs=>hc ?_]; · omega
   rw [Rc.same_iff.1 hs];simp
theorem w64_def (n:Int):w64 n=if n % 18446744073709551616>=9223372036854775808 then n % 18446744073709551616-18446744073709551616 else n % 18446744073709551616:=by
 unfold w64 IntKind.wrap
 simp [IntKind.bits,IntKind.signed]
theorem w64_add (a b:Int):w64 (w64 a+b)=w64 (a+b):=by
 rw [w64_def,w64_def (a+b),w64_def a]
 split<;>split<;>split<;>omega
theorem w64_eq {a b:Int} (h:w64 a=w64 b) (c:Int):w64 (a+c)=w64 (b+c):=by rw [<-w64_add a,<-w64_add b,h]
theorem wf64_id {n:Int} (h:wf64 n):w64 n=n:=by
 unfold wf64 at h
 simp [Lit.wf,IntKind.min,IntKind.max,IntKind.signed,IntKind.bits] at h
 exact w64_id (by omega) (by omega)
/-! sorting -/
def Wks (b:List Bi):Prop:=b.Pairwise fun x y=>¬ y.r.lt x.r
theorem mergeL_nil (m:Nat) (b:List Bi):mergeL m [] b=b:=mergeL_end m (by simp)
theorem mergeL_nil2 (m:Nat) (a:List Bi):mergeL m a []=a:=(mergeL_end m (by simp)).trans (List.append_nil _)
theorem mergeL_perm:∀ (m:Nat) (a b:List Bi),(mergeL m a b).Perm (a++b)
 |0,a,b=>by rw [show mergeL 0 a b=a++b by simp [mergeL]]
 |m+1,[],b=>by rw [mergeL_nil];exact .refl _
 |m+1,x::a,[]=>by rw [mergeL_nil2,List.append_nil]
 |m+1,x::a,y::b=>by
  rw [mergeL]
  split
  ·exact ((mergeL_perm m (x::a) b).cons y).trans List.perm_middle.symm
  ·exact (mergeL_perm m a (y::b)).cons x
theorem mergeL_wks:∀ (m:Nat) (a b:List Bi),a.length+b.length<=m->Wks a->Wks b->Wks (mergeL m a b)
 |0,a,b,h,ha,hb=>by
  obtain rfl:a=[]:=List.eq_nil_of_length_eq_zero (by omega)
  rw [mergeL_nil];exact hb
 |m+1,[],b,_,_,hb=>by rw [mergeL_nil];exact hb
 |m+1,x::a,[],_,ha,_=>by rw [mergeL_nil2];exact ha
 |m+1,x::a,y::b,h,ha,hb=>by
  simp only [List.length_cons] at h
  obtain ⟨ha1,ha2⟩:=List.pairwise_cons.1 ha
  obtain ⟨hb1,hb2⟩:=List.pairwise_cons.1 hb
  have tr:∀ {u v w:Rc},¬ v.lt u->¬ w.lt v->¬ w.lt u:=fun {u v w} h1 h2 h3=>by unfold Rc.lt at *;omega
  rw [mergeL]
  split
  ·rename_i hc
   have hyx:=lessR_iff.1 hc
   refine List.pairwise_cons.2 ⟨fun z hz=>?_,mergeL_wks m (x::a) b (by simp only [List.length_cons];omega) ha hb2⟩
   have hx:¬ x.r.lt y.r:=fun h=>Rc.lt_irrefl (Rc.lt_trans h hyx)
   rcases mergeL_mem _ _ _ _ hz with hz|hz
   ·rcases List.mem_cons.1 hz with rfl|hz
    ·exact hx
    ·exact tr hx (ha1 z hz)
   ·exact hb1 z hz
  ·rename_i hc
   have hyx:¬ y.r.lt x.r:=fun h=>hc (lessR_iff.2 h)
   refine List.pairwise_cons.2 ⟨fun z hz=>?_,mergeL_wks m a (y::b) (by simp only [List.length_cons];omega) ha2 hb⟩
   rcases mergeL_mem _ _ _ _ hz with hz|hz
   ·exact ha1 z hz
   ·rcases List.mem_cons.1 hz with rfl|hz
    ·exact hyx
    ·exact tr hyx (hb1 z hz)
theorem sortF_is:∀ (m:Nat) (l:List Bi),l.length<=m->Wks (sortF m l)/\(sortF m l).Perm l
 |0,l,h=>by
  obtain rfl:l=[]:=List.eq_nil_of_length_eq_zero (by omega)
  exact ⟨List.Pairwise.nil, .refl _⟩
 |m+1,l,h=>by
  rw [sortF]
  split
  ·rename_i h2
   match l,h2 with
   |[],_=>exact ⟨List.Pairwise.nil, .refl _⟩
   |[x],_=>exact ⟨List.pairwise_singleton .., .refl _⟩
   |_::_::_,h2=>simp only [List.length_cons] at h2;omega
  ·have h1:=sortF_is m (l.take (l.length / 2)) (by rw [List.length_take];omega)
   have h2:=sortF_is m (l.drop (l.length / 2)) (by rw [List.length_drop];omega)
   refine ⟨mergeL_wks _ _ _ (Nat.le_refl _) h1.1 h2.1,(mergeL_perm _ _ _).trans ?_⟩
   have:=h1.2.append h2.2
   rwa [List.take_append_drop] at this
theorem merge_inv:∀ (l:List Bi) {o:List Bi},Srt o->(∀ y∈o,∀ x∈l,¬ x.r.lt y.r)->Wks l->Srt (l.foldl pushB o)/\∀ r,w64 (cntZ (l.foldl pushB o) r)=w64 (cntZ o r+cntZ l r)
 |[],o,ho,_,_=>⟨ho,fun r=>by rw [cntZ];simp⟩
 |x::l,o,ho,hc,hl=>by
  obtain ⟨hl1,hl2⟩:=List.pairwise_cons.1 hl
  rw [List.foldl_cons]
  have key:Srt (pushB o x)/\(∀ y∈pushB o x,∀ z∈l,¬ z.r.lt y.r)/\∀ r,w64 (cntZ (pushB o x) r)=w64 (cntZ o r+cntZ [x] r):=by
   rcases List.eq_nil_or_concat o with rfl|⟨o,y,rfl⟩
   ·rw [pushB_nil]
    exact ⟨List.pairwise_singleton ..,fun y hy z hz=>by rw [List.mem_singleton.1 hy];exact hl1 z hz,fun r=>by rw [show cntZ [] r=0 from rfl,Int.zero_add]⟩
   ·rw [List.concat_eq_append] at ho hc ⊢
    rw [pushB_app]
    obtain ⟨h1,h2,h3⟩:=List.pairwise_append.1 ho
    split
    ·rename_i hs
     have e:=Rc.same_iff.1 hs
     refine ⟨List.pairwise_append.2 ⟨h1,List.pairwise_singleton ..,fun z hz w hw=>?_⟩,fun z hz w hw=>?_,fun r=>?_⟩
     ·rw [List.mem_singleton.1 hw];exact h3 z hz y (List.mem_singleton_self _)
     ·rcases List.mem_append.1 hz with hz|hz
      ·exact hc z (List.mem_append_left _ hz) w (List.mem_cons_of_mem _ hw)
      ·rw [List.mem_singleton.1 hz];exact hc y (by simp) w (List.mem_cons_of_mem _ hw)
     ·rw [cntZ_app,cntZ_app]
      simp only [cntZ,e]
      by_cases hr:x.r.same r=true
      ·simp only [if_pos hr]
       rw [Int.add_zero,Int.add_comm,w64_add];congr 1;omega
      ·simp only [if_neg hr];congr 1;omega
    ·rename_i hs
     have hyx:y.r.lt x.r:=by
      rcases Rc.lt_tri y.r x.r with h|h|h
      ·exact h
      ·exact absurd (Rc.same_iff.2 h) hs
      ·exact absurd h (hc y (by simp) x (List.mem_cons_self ..))
     refine ⟨List.pairwise_append.2 ⟨ho,List.pairwise_singleton ..,fun z hz w hw=>?_⟩,fun z hz w hw=>?_,fun r=>?_⟩
     ·rw [List.mem_singleton.1 hw]
      rcases List.mem_append.1 hz with hz|hz
      ·exact Rc.lt_trans (h3 z hz y (List.mem_singleton_self _)) hyx
      ·rw [List.mem_singleton.1 hz];exact hyx
     ·rcases List.mem_append.1 hz with hz|hz
      ·exact hc z hz w (List.mem_cons_of_mem _ hw)
      ·rw [List.mem_singleton.1 hz];exact hl1 w hw
     ·rw [cntZ_app]
  obtain ⟨k1,k2,k3⟩:=key
  obtain ⟨g1,g2⟩:=merge_inv l k1 k2 hl2
  refine ⟨g1,fun r=>(g2 r).trans ((w64_eq (k3 r) _).trans ?_)⟩
  rw [show cntZ (x::l) r=cntZ [x] r+cntZ l r from cntZ_app r [x] l];congr 1;omega
theorem mergeB_is (l:List Bi):Srt (mergeB (sortedF l))/\∀ r,w64 (cntZ (mergeB (sortedF l)) r)=w64 (cntZ l r):=by
 obtain ⟨h1,h2⟩:=sortF_is l.length l (Nat.le_refl _)
 obtain ⟨h3,h4⟩:=merge_inv (sortF l.length l) (o:=[]) List.Pairwise.nil (by simp) h1
 exact ⟨h3,fun r=>(h4 r).trans (by rw [cntZ_perm h2,show cntZ [] r=0 from rfl,Int.zero_add])⟩
theorem ofF_srt (l:List Bi):Srt (ofF l):=(mergeB_is l).1.filter _
theorem ofF_mem {l:List Bi} (hl:∀ y∈l,y.Ok) {z:Bi}:z∈ofF l↔z.n≠0/\z.n=w64 (cntZ l z.r):=by
 obtain ⟨h1,h2⟩:=mergeB_is l
 have hok:∀ y∈mergeB (sortedF l),y.Ok:=mergeB_ok _ [] (by simp) fun y hy=>hl y (sortF_mem _ _ _ hy)
 unfold ofF
 rw [List.mem_filter,bne_iff_ne]
 constructor
 ·rintro ⟨hz,hn⟩
  refine ⟨hn,?_⟩
  rw [<-h2,cntZ_mem h1 hz,wf64_id (hok z hz).n]
 ·rintro ⟨hn,hz⟩
  refine ⟨?_,hn⟩
  rw [<-h2] at hz
  obtain ⟨y,hy,e⟩:=cntZ_has (b:=mergeB (sortedF l)) (r:=z.r) fun h0=>hn (by rw [hz,h0];rfl)
  rw [<-e,cntZ_mem h1 hy,wf64_id (hok y hy).n] at hz
  obtain ⟨yr,yn⟩:=y
  obtain ⟨zr,zn⟩:=z
  simp only at e hz
  subst e hz
  exact hy
theorem ofF_ok {l:List Bi} (hl:∀ y∈l,y.Ok):∀ y∈ofF l,y.Ok:=fun y hy=>mergeB_ok _ [] (by simp) (fun y hy=>hl y (sortF_mem _ _ _ hy)) y (List.mem_filter.1 hy).1
def AtEq (t:Int) (u v:List Bi):Prop:=∀ z:Bi,z.r.a=t->(z∈u↔z∈v)
theorem ofF_at {l m:List Bi} (hl:∀ y∈l,y.Ok) (hm:∀ y∈m,y.Ok) {t:Int} (h:cutB l t t=cutB m t t):AtEq t (ofF l) (ofF m):=fun z hz=>by
 subst hz
 rw [ofF_mem hl,ofF_mem hm,<-cntZ_cut l,<-cntZ_cut m,h]
theorem AtEq.cut {t:Int} {u v:List Bi} (h:AtEq t u v) (lo hi:Int):AtEq t (cutB u lo hi) (cutB v lo hi):=fun z hz=>by rw [mem_cut,mem_cut,h z hz]
theorem cut_eq {u v:List Bi} (hu:Srt u) (hv:Srt v) {lo hi:Int} (h:∀ t,lo<=t->t<=hi->AtEq t u v):cutB u lo hi=cutB v lo hi:=
 srt_ext (hu.cut lo hi) (hv.cut lo hi) fun z=>by
  rw [mem_cut,mem_cut]
  constructor
  ·rintro ⟨h1,h2,h3⟩;exact ⟨(h z.r.a h2 h3 z rfl).1 h1,h2,h3⟩
  ·rintro ⟨h1,h2,h3⟩;exact ⟨(h z.r.a h2 h3 z rfl).2 h1,h2,h3⟩
def pairB (c:Trm) (y l:Bi):Bi:=⟨⟨if l.r.a > y.r.a then l.r.a else y.r.a,y.r.k,calcZ ⟨if l.r.a > y.r.a then l.r.a else y.r.a,y.r.k,y.r.v⟩ l.r.v c⟩,w64 (y.n*l.n)⟩
def pairsF (n:Int) (c:Trm) (a b:List Bi):List Bi:=a.flatMap fun y=>(nearF b y.r n).map (pairB c y)
end Go.Abs

/- Whether a list of numbers holds one of a kind, asked by reference. -/
open Go Go.Abs
namespace Go.Abs
set_option maxRecDepth 100000
set_option maxHeartbeats 4000000
instance fnis484:FnIs CC 184:=⟨rfl,fun _=>rfl⟩
instance fnis438:FnIs CC 138:=⟨rfl,fun _=>rfl⟩
theorem ret484 {l:List Nat} (hl:l.length<=1000) (k:Nat):∃ z:Int,Ret CC 184 [natsIV l,natIV k] (.int .i64 z)/\decide (z>=0)=l.contains k:=by
 have hlm:(l.map natIV).length=l.length:=List.length_map ..
 refine ⟨match l.findIdx? (fun x=>x==k) with|some i=>(i:Int)|none => -1,?_,?_⟩
 ·refine Ret.of (fn:=Go.Proofs.Tryz.f184) (by kernel_rfl) rfl rfl ?_
  refine BB ?_
  refine W.loop (X:=Nat) (fun i=>[(0, .imm (natsIV l)),(1, .imm (natIV k)),(6, .imm (natsIV l)),(7, .imm (.int .i64 (l.map natIV).length)),(8, .imm (.int .i64 i))])
   (fun i nx1 G1=>i<=l.length/\∀ j,j < i->∀ x,l[j]? = some x->(x==k)=false) (fun i=>l.length-i) 0 .auto ⟨Nat.zero_le _,fun j h=>absurd h (Nat.not_lt_zero j)⟩ ?_
  rintro i nx1 G1 ⟨hi,hno⟩
  refine BB ?_
  refine W.cond rfl (fun h1=>?_) (fun h1=>?_)
  ·have hlt:i < l.length:=by have:=of_decide_eq_true h1;rw [hlm] at this;omega
   obtain ⟨x,hx⟩:=at_lt hlt
   have hxi:=at_map natIV hx
   have hmu:l.length-(i+1) < l.length-i:=by omega
   cases hp:((k:Int)==(x:Int)) with
   |false=>
    refine BB ?_
    refine W.skipLop (i+1) hmu .auto ⟨hlt,fun j hj y hy=>?_⟩
    rcases Nat.lt_or_eq_of_le (Nat.le_of_lt_succ hj) with hj|rfl
    ·exact hno j hj y hy
    ·rw [hx] at hy;cases hy
     simp only [beq_eq_false_iff_ne,ne_eq] at hp ⊢;omega
   |true=>
    have:l.findIdx? (fun x=>x==k)=some i:=by
     rw [List.findIdx?_eq_some_iff_getElem]
     refine ⟨hlt,?_,fun j hj=>?_⟩
     ·have h2:=(List.getElem?_eq_some_iff.1 hx).2
      simp only [beq_iff_eq] at hp ⊢
      rw [h2];omega
     ·have:=hno j hj l[j] (List.getElem?_eq_getElem _)
      simpa using this
    rw [this]
    refine BB ?_
    exact W.retFin1 rfl ⟨[],rfl⟩
  ·have hge:l.length<=i:=by have:=of_decide_eq_false h1;rw [hlm] at this;omega
   have:l.findIdx? (fun x=>x==k)=none:=by
    rw [List.findIdx?_eq_none_iff]
    intro x hx
    obtain ⟨j,hj⟩:=List.mem_iff_getElem?.1 hx
    exact hno j (by have:=(List.getElem?_eq_some_iff.1 hj).1;omega) x hj
   rw [this]
   refine BB ?_
   exact W.retFin1 rfl ⟨[],rfl⟩
 ·cases h:l.findIdx? (fun x=>x==k) with
  |none=>
   rw [List.findIdx?_eq_none_iff] at h
   have:l.contains k=false:=by
    rw [List.contains_eq_mem,decide_eq_false_iff_not]
    intro hc
    have:=h k hc
    simp at this
   rw [this];rfl
  |some i=>
   obtain ⟨h1,h2,_⟩:=List.findIdx?_eq_some_iff_getElem.1 h
   have:l.contains k=true:=by
    rw [List.contains_iff_mem]
    simp only [beq_iff_eq] at h2
    exact h2▸List.getElem_mem h1
   rw [this]
   exact decide_eq_true (by show (0:Int)<=(i:Int);omega)
theorem ret438 {l:List Nat} (hl:l.length<=1000) (k:Nat):Ret CC 138 [natsIV l,natIV k] (.bool (l.contains k)):=by
 obtain ⟨z,h1,h2⟩:=ret484 hl k
 refine Ret.of (fn:=Go.Proofs.Tryz.f138) (by kernel_rfl) rfl rfl ?_
 refine BB ?_
 refine W.retFin1 rfl ⟨[],?_⟩
 rw [<-h2];rfl
section
variable {f:FuncId} {cap:List AV} {P:Nat->Bool} {K:(Nat->Obj)->Nat->Prop}
theorem cal457 (hb:CC.byref f=true) (hK:∀ G nx nx',K G nx->nx<=nx'->K G nx') {l:List Nat} (hl:l.length<=1000) (hf:∀ x∈l,∀ G nx,K G nx->Cal CC f ([.imm (natIV x)]++cap) G nx fun v G' nx'=>v = .imm (.bool (P x))/\K G' nx') {G:Nat->Obj} {nx:Nat} (h0:K G nx) :
  Cal CC 157 [.imm (natsIV l), .fn (.func f) cap] G nx fun v G' nx'=>∃ z:Int,v = .imm (.int .i64 z)/\decide (z>=0)=l.any P/\K G' nx':=by
 have hlm:(l.map natIV).length=l.length:=List.length_map ..
 refine Cal.of (fn:=Go.Proofs.Tryz.f157) (by kernel_rfl) rfl rfl ?_
 refine BN ?_
 refine W.loop (X:=Nat) (fun i=>[(0, .imm (natsIV l)),(1, .fn (.func f) cap),(6, .imm (natsIV l)),(7, .imm (.int .i64 (l.map natIV).length)),(8, .imm (.int .i64 i))])
  (fun i nx1 G1=>i<=l.length/\K G1 nx1/\(l.take i).any P=false) (fun i=>l.length-i) 0 .auto ⟨Nat.zero_le _,hK _ _ _ h0 (by omega),rfl⟩ ?_
 clear h0
 rintro i nx1 G1 ⟨hi,hI,hno⟩
 refine BN ?_
 refine W.cond rfl (fun h1=>?_) (fun h1=>?_)
 ·have hlt:i < l.length:=by have:=of_decide_eq_true h1;rw [hlm] at this;omega
  obtain ⟨x,hx⟩:=at_lt hlt
  have hxi:=at_map natIV hx
  have hcal:=fun nx2 (h:nx1<=nx2)=>hf x (List.mem_of_getElem? hx) G1 nx2 (hK _ _ _ hI h)
  have hmu:l.length-(i+1) < l.length-i:=by omega
  have htk:(l.take (i+1)).any P=P x:=by rw [List.take_add_one,hx,List.any_append,hno];simp
  refine BN ?_
  refine R.callB rfl rfl hb rfl rfl ((hcal _ (by omega)).mono fun v G' nx' hv=>?_)
  obtain ⟨rfl,h2⟩:=hv
  cases hp:P x with
  |false=>
   refine BN ?_
   exact W.skipLop (i+1) hmu .auto ⟨hlt,hK _ _ _ h2 (by omega),by rw [htk,hp]⟩
  |true=>
   refine BN ?_
   refine W.retFin1 rfl ⟨_,rfl,?_,hK _ _ _ h2 (by omega)⟩
   rw [decide_eq_true (by omega)]
   exact (List.any_eq_true.2 ⟨x,List.mem_of_getElem? hx,hp⟩).symm
 ·have hge:l.length<=i:=by have:=of_decide_eq_false h1;rw [hlm] at this;omega
  rw [List.take_of_length_le hge] at hno
  refine BN ?_
  exact W.retFin1 rfl ⟨-1,rfl,by rw [hno];rfl,hK _ _ _ hI (by omega)⟩
theorem cal386 (hb:CC.byref f=true) (hK:∀ G nx nx',K G nx->nx<=nx'->K G nx') {l:List Nat} (hl:l.length<=1000) (hf:∀ x∈l,∀ G nx,K G nx->Cal CC f ([.imm (natIV x)]++cap) G nx fun v G' nx'=>v = .imm (.bool (P x))/\K G' nx') {G:Nat->Obj} {nx:Nat} (h0:K G nx) :
  Cal CC 86 [.imm (natsIV l), .fn (.func f) cap] G nx fun v G' nx'=>v = .imm (.bool (l.any P))/\K G' nx':=by
 have hc:=fun nx1 (h:nx<=nx1)=>cal457 hb hK hl hf (hK _ _ nx1 h0 h)
 refine Cal.of (fn:=Go.Proofs.Tryz.f86) (by kernel_rfl) rfl rfl ?_
 refine BN ?_
 refine R.callB rfl rfl rfl rfl rfl ((hc _ (by omega)).mono fun v G' nx' hv=>?_)
 obtain ⟨z,rfl,h1,h2⟩:=hv
 refine BN ?_
 refine W.retFin1 rfl ⟨?_,hK _ _ _ h2 (by omega)⟩
 rw [<-h1]
end
end Go.Abs

/- Sorted numbers of a set. (No program in sight.) -/
open Go Go.Abs
namespace Go.Abs
theorem slt_ext:∀ {a b:List Int},a.Pairwise (· < ·)->b.Pairwise (· < ·)->(∀ x,x∈a↔x∈b)->a=b
 |[],[],_,_,_=>rfl
 |[],y::s,_,_,h=>absurd ((h y).2 (by simp)) (by simp)
 |x::r,[],_,_,h=>absurd ((h x).1 (by simp)) (by simp)
 |x::r,y::s,ha,hb,h=>by
  rw [List.pairwise_cons] at ha hb
  have hxy:x=y:=by
   have h1:=(h x).1 (by simp)
   have h2:=(h y).2 (by simp)
   rcases List.mem_cons.1 h1 with h1|h1
   ·exact h1
   ·rcases List.mem_cons.1 h2 with h2|h2
    ·exact h2.symm
    ·have:=ha.1 y h2
     have:=hb.1 x h1
     omega
  subst hxy
  rw [slt_ext ha.2 hb.2 fun z=>?_]
  constructor
  ·intro hz
   have:=ha.1 z hz
   rcases List.mem_cons.1 ((h z).1 (by simp [hz])) with h1|h1
   ·omega
   ·exact h1
  ·intro hz
   have:=hb.1 z hz
   rcases List.mem_cons.1 ((h z).2 (by simp [hz])) with h1|h1
   ·omega
   ·exact h1
theorem ins_mem {x z:Int}:∀ {l:List Int},z∈ins x l↔z=x\/z∈l
 |[]=>by simp [ins]
 |y::r=>by
  unfold ins
  split
  ·simp
  ·simp only [List.mem_cons,ins_mem (l:=r)]
   constructor
   ·rintro (h|h|h)<;>simp [h]
   ·rintro (h|h|h)<;>simp [h]
theorem isort_mem {z:Int}:∀ {l:List Int},z∈isort l↔z∈l
 |[]=>by simp [isort]
 |x::r=>by rw [isort,ins_mem,isort_mem,List.mem_cons]
theorem ins_slt {x:Int}:∀ {l:List Int},l.Pairwise (· < ·)->x∉l->(ins x l).Pairwise (· < ·)
 |[],_,_=>by simp [ins]
 |y::r,h,hx=>by
  have hne:x≠y:=fun e=>hx (by simp [e])
  have hr:x∉r:=fun e=>hx (by simp [e])
  unfold ins
  rw [List.pairwise_cons] at h
  split
  ·rename_i hle
   rw [List.pairwise_cons,List.pairwise_cons]
   refine ⟨fun z hz=>?_,h⟩
   rcases List.mem_cons.1 hz with rfl|hz
   ·omega
   ·have:=h.1 z hz;omega
  ·rename_i hle
   rw [List.pairwise_cons]
   refine ⟨fun z hz=>?_,ins_slt h.2 hr⟩
   rcases ins_mem.1 hz with rfl|hz
   ·omega
   ·exact h.1 z hz
theorem isort_slt:∀ {l:List Int},l.Nodup->(isort l).Pairwise (· < ·)
 |[],_=>by simp [isort]
 |x::r,h=>by
  rw [List.nodup_cons] at h
  exact ins_slt (isort_slt h.2) fun e=>h.1 (isort_mem.1 e)
theorem ints_nats (l:List Nat):ints (l.map natIV)=l.map Int.ofNat:=by
 induction l with
 |nil=>rfl
 |cons x r ih=>
  rw [List.map_cons,List.map_cons,<-ih];rfl
theorem sorted_eq {out:List Nat} {n:Nat} {P:Nat->Bool} (hn:out.Nodup) (hb:∀ x∈out,x < n) (hP:∀ x,x < n->(P x=true↔x∈out)):(isort (ints (out.map natIV))).map (IV.int .i64)=((List.range n).filter P).map natIV:=by
 have key:isort (ints (out.map natIV))=((List.range n).filter P).map Int.ofNat:=by
  rw [ints_nats]
  refine slt_ext (isort_slt ?_) ?_ fun z=>?_
  ·rw [List.Nodup,List.pairwise_map]
   exact hn.imp fun h e=>h (Int.ofNat.inj e)
  ·rw [List.pairwise_map]
   refine (List.Pairwise.filter _ List.pairwise_lt_range).imp fun h=>?_
   exact Int.ofNat_lt.2 h
  ·rw [isort_mem,List.mem_map,List.mem_map]
   constructor
   ·rintro ⟨x,hx,rfl⟩
    exact ⟨x,List.mem_filter.2 ⟨List.mem_range.2 (hb x hx),(hP x (hb x hx)).2 hx⟩,rfl⟩
   ·rintro ⟨x,hx,rfl⟩
    rw [List.mem_filter,List.mem_range] at hx
    exact ⟨x,(hP x hx.1).1 hx.2,rfl⟩
 rw [key,List.map_map]
 rfl
theorem natKeys_int (l:List Nat):(l.map natIV).all isIntIV=true:=by
 induction l with
 |nil=>rfl
 |cons x r ih=>rw [List.map_cons,List.all_cons,ih];rfl
end Go.Abs

/- Lists of numbers: comparing what is the same; the numbers of what is true. -/
open Go Go.Abs
namespace Go.Abs
set_option maxRecDepth 100000
set_option maxHeartbeats 4000000
instance fnis19:FnIs CC 38:=⟨rfl,fun _=>rfl⟩
end Go.Abs

/- The reference: on which sources a definition depends. -/
open Go Go.Abs
namespace Go.Abs
set_option maxRecDepth 100000
set_option maxHeartbeats 4000000
mutual
theorem expR_src (srcs defs:List Str) (ahead:Nat):∀ (e:Exp) (depth left:Int),0<=expR srcs defs ahead e depth left->∀ x∈allE e,x.op=1->x.name∈srcs
 | .mk op name n fold calcs kids,depth,left,h,x,hx,ho=>by
  rw [expR] at h
  rw [allE] at hx
  cases hs:shapeR op with
  |none=>rw [hs] at h;simp at h
  |some s=>
   rw [hs] at h
   dsimp only at h
   split at h
   ·omega
   ·split at h
    ·rename_i hh
     split at h
     ·omega
     ·rcases List.mem_cons.1 hx with he|hx
      ·rw [he] at ho ⊢
       have ho:op=1:=ho
       unfold headIs at hh
       simp only [Bool.and_eq_true] at hh
       have hni:=hh.2
       rw [ho] at hni
       have:srcs.contains name=true:=hni
       show name∈srcs
       simpa using this
      ·exact expRs_src srcs defs ahead kids depth left _ h x hx ho
    ·omega
theorem expRs_src (srcs defs:List Str) (ahead:Nat):∀ (l:List Exp) (depth left n:Int),0<=expRs srcs defs ahead l depth left n->∀ x∈allEs l,x.op=1->x.name∈srcs
 |[],_,_,_,_,x,hx,_=>by cases hx
 |k::r,depth,left,n,h,x,hx,ho=>by
  rw [expRs] at h
  rw [allEs] at hx
  split at h
  ·omega
  ·rcases List.mem_append.1 hx with hx|hx
   ·exact expR_src srcs defs ahead k (depth+1) (left-n) (by omega) x hx ho
   ·exact expRs_src srcs defs ahead r depth left _ h x hx ho
end
theorem countL_src (srcs names:List Str):∀ (ds:List Dfn) (i:Nat) (n:Int),0<=countL srcs names ds i n->∀ d∈ds,∀ x∈allE d.exp,x.op=1->x.name∈srcs
 |[],_,_,_,d,hd=>by cases hd
 |k::r,i,n,h,d,hd=>by
  rw [countL] at h
  split at h
  ·omega
  ·rcases List.mem_cons.1 hd with hk|hd
   ·rw [hk];exact expR_src srcs names i k.exp 1 (60-n) (by omega)
   ·exact countL_src srcs names r (i+1) _ h d hd
theorem countR_src {p:Pgm} (h:0<=countR p):∀ d∈p.defs,∀ x∈allE d.exp,x.op=1->x.name∈p.srcs:=by
 unfold countR at h
 split at h
 ·omega
 ·split at h
  ·exact countL_src _ _ _ _ _ h
  ·omega
def srcIs (srcs:List Str) (x:Exp) (s:Nat):Prop:=x.op=1/\idxN srcs x.name=s
def SrcTo (srcs:List Str) (defs:List Dfn) (tos:List (List Nat)) (d i s:Nat):Prop:=∃ i' y,i' < i/\defs[i']? = some y/\(i'=d\/Reach tos d i')/\∃ x∈allE y.exp,srcIs srcs x s
open Classical in
noncomputable def SrcB (srcs:List Str) (defs:List Dfn) (tos:List (List Nat)) (d i s:Nat):Bool:=decide (SrcTo srcs defs tos d i s)
theorem SrcB_iff {srcs:List Str} {defs:List Dfn} {tos:List (List Nat)} {d i s:Nat}:SrcB srcs defs tos d i s=true↔SrcTo srcs defs tos d i s:=by unfold SrcB;simp
noncomputable def srcsR (p:Pgm) (d:Nat):List Nat:=(List.range p.srcs.length).filter (SrcB p.srcs p.defs (tosR p) d p.defs.length)
end Go.Abs

/- TermParts: depths. -/
open Go Go.Abs
namespace Go.Abs
set_option maxRecDepth 100000
set_option maxHeartbeats 4000000
theorem allE_kid {kids:List Exp} {k:Exp} (h:k∈kids):(allE k).length<=(allEs kids).length:=by
 obtain ⟨i,hi⟩:=List.mem_iff_getElem?.1 h
 rw [allEs_split hi];simp;omega
noncomputable def errR (p:Pgm) (d:Int):Int:=if hasR p d then 0 else 2
end Go.Abs

/- What definitions depend on. -/
open Go Go.Abs
namespace Go.Abs
set_option maxRecDepth 100000
set_option maxHeartbeats 4000000
instance fnis15:FnIs CC 64:=⟨rfl,fun _=>rfl⟩
instance fnis17:FnIs CC 21:=⟨rfl,fun _=>rfl⟩
noncomputable def reachN (p:Pgm) (d:Nat):List Nat:=(List.range p.defs.length).filter (reachB (tosR p) d)
noncomputable def srcsA (p:Pgm) (d:Int):List Nat:=if hasR p d then srcsR p d.toNat else []
noncomputable def reachA (p:Pgm) (d:Int):List Nat:=if hasR p d then reachN p d.toNat else []
noncomputable def ringsA (p:Pgm):List (List Nat):=if progR p then ringsOf p else []
/-! ### sets -/
def addN (l:List Nat) (k:Nat):List Nat:=if l.contains k then l else l++[k]
theorem addN_mem {l:List Nat} {k x:Nat}:x∈addN l k↔x∈l\/x=k:=by
 unfold addN
 split
 ·rename_i h
  constructor
  ·exact .inl
  ·rintro (h'|rfl)
   ·exact h'
   ·simpa using h
 ·simp
theorem addN_nodup {l:List Nat} {k:Nat} (h:l.Nodup):(addN l k).Nodup:=by
 unfold addN
 split
 ·exact h
 ·rename_i h'
  rw [List.nodup_append]
  exact ⟨h,by simp,fun a ha b hb=>by rw [List.mem_singleton.1 hb];exact fun e=>h' (by simpa [e] using ha)⟩
theorem O.setPut {id:Nat} {l:Env} {G:Nat->Obj} {nx:Nat} {df:List (AV×List AV)} {pk:Pk} {m x y:Operand} {q k:Nat} {s:List Nat} (hm:lookO l m=some (.map q)) (hx:lookO l x=some (.imm (natIV k))) (hy:lookO l y=some (.imm (.bool true))) (hG:G q=setObj s) :
  OpV CC id l G nx df pk (.mapUpdate 116 m x y) .undef [(q, .set (setObj (addN s k)))]:=by
 unfold addN
 cases hc:s.contains k with
 |false=>
  rw [if_neg (by decide),setObj_add]
  exact O.mapNew (k:=ty74) (kk:=ty3) rfl inferInstance hm hx hy hG rfl (setNew hc)
 |true=>
  rw [if_pos rfl]
  have hsome:=findIdx_contains' k s
  rw [hc] at hsome
  obtain ⟨j,hj⟩:=Option.isSome_iff_exists.1 hsome
  have hlt:=findIdx_lt' hj
  have hkj:s[j]? = some k:=by
   rw [List.findIdx?_eq_some_iff_getElem] at hj
   obtain ⟨h1,h2,_⟩:=hj
   rw [List.getElem?_eq_getElem h1]
   have:k=s[j]:=by simpa using h2
   rw [<-this]
  have h1:(s.map natIV).set j (natIV k)=s.map natIV:=by
   rw [<-List.map_set]
   congr 1
   apply List.ext_getElem?
   intro i
   rw [List.getElem?_set]
   split
   ·rename_i he;subst he;rw [hkj];try simp [hlt]
   ·rfl
  have h2:((s.map fun _=>IV.bool true).map AV.imm).set j (.imm (.bool true))=(s.map fun _=>IV.bool true).map AV.imm:=by
   apply List.ext_getElem?
   intro i
   rw [List.getElem?_set]
   split
   ·rename_i he;subst he;simp [hlt]
   ·rfl
  refine O.of fun t' L hA=>?_
  have hkt:=(inferInstance:TyIs CC 116 ty74).is
  have hkt3:=(inferInstance:TyIs CC 3 ty3).is
  simp only [opA,hA.ev hm,hA.ev hx,hA.ev hy,aMapUpdate,hkt,hG,setObj,show ty74.d = .mp 3 4 from rfl,hkt3]
  rw [if_pos (show keyOk ty3.d (natIV k)=true from rfl),natKey,hj]
  simp only [h1,h2]
theorem orcSet {l:List Nat} {n:Nat} {P:Nat->Bool} (hn:l.Nodup) (hb:∀ x∈l,x < n) (hP:∀ x,x < n->(P x=true↔x∈l)) (hs:l.length<=4294967296):CC.orc 69 [setIV l]=some (.own 3 1 (((List.range n).filter P).map natIV)):=by
 show (if (l.map natIV).all isIntIV=true/\(l.map natIV).length<=4294967296 then some (OrcR.own 3 1 ((isort (ints (l.map natIV))).map (.int .i64))) else none)=_
 rw [if_pos ⟨natKeys_int l,by simpa using hs⟩,sorted_eq hn hb hP]
def SrcIn (srcs:List Str) (defs:List Dfn) (L:List Nat) (s:Nat):Prop:=∃ i∈L,∃ y,defs[i]? = some y/\∃ x∈allE y.exp,srcIs srcs x s
theorem ret15 (p:Pgm) (hp:p.Fits) (d:Int):Ret CC 64 [p.iv, .int .i64 d] (.tup [natsIV (srcsA p d),natsIV (reachA p d), .int .i64 (errR p d)]):=by
 have hr:=ret46 p hp d
 unfold srcsA reachA errR
 have hat:=hasR_at (p:=p) (d:=d)
 cases hb:hasR p d with
 |true=>
  rw [hb] at hr hat
  obtain ⟨hpr,d,y,rfl,hy⟩:=hat rfl
  have hc:=progR_count hpr
  have hg:=countR_good hc
  have htl:(tosR p).length=p.defs.length:=hg.steps.2.1
  have hi:d < p.defs.length:=(List.getElem?_eq_some_iff.1 hy).1
  have hlk:lookedIV p=scopeIV p ((p.defs.length-1:Nat):Int) (countR p):=by unfold lookedIV;rw [hpr];rfl
  rw [hlk] at hr
  obtain ⟨out,ho1,ho2,ho3,hr47⟩:=ret47 hp hg.tos ((p.defs.length-1:Nat):Int) (countR p) (d:=d) (by rw [htl];exact hi)
  have hsrc:=countR_src hc
  have hd6:=hg.defs
  have hs4:=hg.srcs
  have hfit:=hp.exp
  have holen:=nodup_lt ho1 ho2
  have horc:CC.orc 69 [setIV out]=some (.own 3 1 ((reachN p d).map natIV)):=orcSet (n:=p.defs.length) ho1 (fun x hx=>by rw [<-htl];exact ho2 x hx) (fun x hx=>by rw [ho3 x,reachB_iff]) (by omega)
  have hrm:∀ i,i∈reachN p d↔Reach (tosR p) d i:=fun i=>by
   unfold reachN
   rw [List.mem_filter,List.mem_range,reachB_iff]
   exact ⟨fun h=>h.2,fun h=>⟨by rw [<-htl];exact ho2 i ((ho3 i).2 h),h⟩⟩
  have hrl:(reachN p d).length<=6:=by
   have:=List.length_filter_le (reachB (tosR p) d) (List.range p.defs.length)
   rw [List.length_range] at this
   unfold reachN;omega
  have hrlt:∀ i∈reachN p d,i < p.defs.length:=fun i h=>by
   unfold reachN at h
   rw [List.mem_filter,List.mem_range] at h
   exact h.1
  simp only [if_true,Int.toNat_natCast]
  have hsrcs:∀ s,SrcB p.srcs p.defs (tosR p) d p.defs.length s=true↔SrcIn p.srcs p.defs (reachN p d++[d]) s:=fun s=>by
   rw [SrcB_iff]
   constructor
   ·rintro ⟨i,z,h1,h2,h3,h4⟩
    refine ⟨i,?_,z,h2,h4⟩
    rw [List.mem_append,hrm]
    rcases h3 with rfl|h3
    ·exact .inr (by simp)
    ·exact .inl h3
   ·rintro ⟨i,h1,z,h2,h4⟩
    refine ⟨i,z,(List.getElem?_eq_some_iff.1 h2).1,h2,?_,h4⟩
    rw [List.mem_append,hrm] at h1
    rcases h1 with h1|h1
    ·exact .inr h1
    ·exact .inl (by simpa using h1)
  unfold srcsR
  generalize reachN p d=rn at *
  generalize hSB:SrcB p.srcs p.defs (tosR p) d p.defs.length=SB at *
  clear hSB
  generalize ((p.defs.length-1:Nat):Int)=m1 at *
  generalize countR p=m2 at *
  have bf:(!true)=false:=rfl
  obtain ⟨srcs,defs⟩:=p
  simp only at *
  have hdm:(defs.map Dfn.iv).length=defs.length:=List.length_map ..
  refine Ret.of (fn:=Go.Proofs.Tryz.f64) (by kernel_rfl) rfl rfl ?_
  refine AA ?_
  refine R.op1 (O.callOwnI rfl horc rfl rfl) rfl ?_
  refine AA ?_
  refine R.op1 (O.appRow rfl rfl rfl at_upd (List.length_map ..) rfl (elems_row at_upd rfl) (by decide) (by decide) rfl rfl (by simp only [List.length_map,List.length_cons,List.length_nil,most];omega)) rfl ?_
  refine R.op0 (O.lenR rfl rfl at_upd rfl) rfl ?_
  refine AA ?_
  have hLl:(((rn.map natIV).map AV.imm)++[AV.imm (.int .i64 ((d:Nat):Int))]).length=(rn++[d]).length:=by simp
  rw [hLl]
  have hLm:(((rn++[d]).map natIV).map AV.imm).length=(rn++[d]).length:=by simp
  have hLlt:∀ i∈rn++[d],i < defs.length:=fun i h=>by
   rcases List.mem_append.1 h with h|h
   ·exact hrlt i h
   ·rw [List.mem_singleton.1 h];exact hi
  have hLn:(rn++[d]).length<=7:=by rw [List.length_append];simp;omega
  have hrow:((rn.map natIV).map AV.imm)++[AV.imm (.int .i64 ((d:Nat):Int))]=((rn++[d]).map natIV).map AV.imm:=by simp;rfl
  rw [hrow]
  generalize rn++[d]=L at *
  refine W.loop (X:=Nat) (fun j=>[(1, .imm (natIV d)),(2, .ptr 0 0),(7, .ptr 10 0),(9, .imm (setIV out)),(10, .ptr 21 0),(31, .row 24 L.length),(32, .imm (.int .i64 L.length)),(33, .imm (.int .i64 j))])
   (fun j nx G=>27<=nx/\G 0 = .box [.imm (.lst (srcs.map sv)), .imm (.lst (defs.map Dfn.iv))] false/\G 10 = .box [.imm (scopeIV ⟨srcs,defs⟩ m1 m2)] false/\G 21 = .box [.map 20] false/\G 24 = .row 3 1 ((L.map natIV).map AV.imm) false/\j<=L.length /\
    ∃ fm,G 20=setObj fm/\fm.Nodup/\(∀ s∈fm,s < srcs.length)/\∀ s,s∈fm↔SrcIn srcs defs (L.take j) s)
   (fun j=>L.length-j) 0 .auto ⟨by omega,rfl,rfl,rfl,rfl,Nat.zero_le _,[],rfl,by simp,by simp,fun s=>⟨(fun h=>by cases h),(fun ⟨_,h,_⟩=>by cases h)⟩⟩ ?_
  rintro j nx G ⟨hnx,hG0,hG10,hG21,hG24,hj,fm,hG20,hfn,hfb,hfm⟩
  rcases Bool.eq_false_or_eq_true (decide ((j:Int) < (L.length:Int))) with hcc|hcc
  ·have hlt:j < L.length:=by have:=of_decide_eq_true hcc;omega
   obtain ⟨i,hji⟩:=at_lt hlt
   have hjx:((L.map natIV).map AV.imm)[((j:Nat):Int).toNat]? = some (.imm (natIV i)):=by rw [Int.toNat_natCast];simp [hji]
   have hid:=hLlt i (List.mem_of_getElem? hji)
   obtain ⟨z,hx⟩:=at_lt hid
   have hxi:=at_map Dfn.iv hx
   have hdc:=z.cells_len
   have hm:=List.mem_of_getElem? hx
   have hf:=hfit z hm
   have hsz:=hsrc z hm
   have hr49:=ret49 z.exp
   have hmu:L.length-(j+1) < L.length-j:=by omega
   have hstep:∀ s,SrcIn srcs defs (L.take (j+1)) s↔SrcIn srcs defs (L.take j) s\/∃ x∈allE z.exp,srcIs srcs x s:=by
    intro s
    rw [List.take_add_one,hji]
    constructor
    ·rintro ⟨i',h1,y',h2,h3⟩
     rcases List.mem_append.1 h1 with h1|h1
     ·exact .inl ⟨i',h1,y',h2,h3⟩
     ·simp at h1;subst h1
      rw [hx] at h2;cases h2
      exact .inr h3
    ·rintro (⟨i',h1,y',h2,h3⟩|h3)
     ·exact ⟨i',by simp [h1],y',h2,h3⟩
     ·exact ⟨i,by simp,z,hx,h3⟩
   obtain ⟨nm,⟨o',s',n',f',c',k'⟩⟩:=z
   simp only at hf hsz hstep
   refine AA ?_
   refine W.nodes _ hf (fun k G1=>(∀ o,o < nx->o≠20->G1 o=G o)/\∃ fm1,G1 20=setObj fm1/\fm1.Nodup/\(∀ s∈fm1,s < srcs.length)/\∀ s,s∈fm1↔SrcIn srcs defs (L.take j) s\/∃ x∈(allE (.mk o' s' n' f' c' k')).take k,srcIs srcs x s) (fun _=>False) (fun _ _ _=>False)
    rfl rfl rfl rfl rfl ?_ ?_ ?_ ?_ ?_ ?_ ?_
   ·rintro k G1 G2 ⟨h1,fm1,h2,h3⟩ hG
    exact ⟨fun o h4 h5=>(hG o (by omega)).trans (h1 o h4 h5),fm1,(hG 20 (by omega)).trans h2,h3⟩
   ·intro _ _ h;exact h.elim
   ·exact ⟨fun o _ _=>rfl,fm,hG20,hfn,hfb,fun s=>by rw [hfm s];simp⟩
   ·rintro q k x G1 nx1 lp0 lp1 Φr hq hxa hn ⟨h1,fm1,h2,h3,h4,h5⟩ hlp next _ _
    have htake:∀ s,(∃ z∈(allE (.mk o' s' n' f' c' k')).take (k+1),srcIs srcs z s)↔(∃ z∈(allE (.mk o' s' n' f' c' k')).take k,srcIs srcs z s)\/srcIs srcs x s:=by
     intro s
     rw [List.take_add_one,hxa]
     simp only [List.mem_append,Option.mem_toList]
     constructor
     ·rintro ⟨z,h|h,h2⟩
      ·exact .inl ⟨z,h,h2⟩
      ·cases h;exact .inr h2
     ·rintro (⟨z,h,h2⟩|h)
      ·exact ⟨z, .inl h,h2⟩
      ·exact ⟨x, .inr rfl,h⟩
    have hxs:=hsz x (List.mem_of_getElem? hxa)
    obtain ⟨op',name',m',fold',calcs',kids'⟩:=x
    have hL1:=numLook0 srcs name'
    refine W.regionN ?_
    refine AQ ?_
    refine R.doneAstQ at_upd ?_
    refine W.gen' (fun G2=>G2 (nx1+0) = .box [.imm (.int .i64 op'), .imm (sv name'), .imm (.int .i64 m'), .imm (.int .i64 fold'), .imm (.lst (Trm.ivs calcs')), .imm (.lst (Exp.ivs kids'))] false/\G2 q=lp1/\∀ o,o < nx1->o≠q->G2 o=G1 o) ⟨at_upd,at_upd,fun o _ _=>at_upd⟩ ?_
    rintro G2 ⟨hbx,hlp2,hfr2⟩
    have h20:=(hfr2 20 (by omega) (by omega)).trans h2
    have h10:=(hfr2 10 (by omega) (by omega)).trans ((h1 10 (by omega) (by decide)).trans hG10)
    have h21:=(hfr2 21 (by omega) (by omega)).trans ((h1 21 (by omega) (by decide)).trans hG21)
    rcases Bool.eq_false_or_eq_true (op'==1) with hop|hop
    ·have hop1:op'=1:=by simpa using hop
     have hin:=hxs hop1
     refine AN ?_
     refine D.opN1 (O.setPut rfl rfl rfl h20) rfl ?_
     refine D.skip (by kernel_rfl) ?_
     refine AN ?_
     refine next (by omega) (fun o g5 g6=>?_) ⟨fun o g5 g6=>?_,addN fm1 (idxN srcs name'),upd_same _ _ _,addN_nodup h3,fun s hs=>?_,fun s=>?_⟩ at_upd
     ·rw [upd_ne _ _ _ _ (by omega)];exact hfr2 o g6 (by omega)
     ·rw [upd_ne _ _ _ _ g6,hfr2 o (by omega) (by omega),h1 o g5 g6]
     ·rcases addN_mem.1 hs with hs|rfl
      ·exact h4 s hs
      ·exact idxN_lt hin
     ·rw [addN_mem,h5 s,htake s,or_assoc]
      have:srcIs srcs (.mk op' name' m' fold' calcs' kids') s↔s=idxN srcs name':=⟨fun h=>h.2.symm,fun h=>⟨hop1,h.symm⟩⟩
      rw [this]
    ·have hop1:op'≠1:=by simpa using hop
     refine AN ?_
     refine next (by omega) (fun o g5 g6=>hfr2 o g6 (by omega)) ⟨fun o g5 g6=>?_,fm1,h20,h3,h4,fun s=>?_⟩ hlp2
     ·rw [hfr2 o (by omega) (by omega),h1 o g5 g6]
     ·rw [h5 s,htake s]
      have:¬ srcIs srcs (.mk op' name' m' fold' calcs' kids') s:=fun h=>hop1 h.1
      simp only [this,or_false]
   ·rintro G1 nx1 ⟨h1,fm1,h2,h3,h4,h5⟩ hn
    rw [List.take_length] at h5
    refine AN ?_
    exact W.skipLop (j+1) hmu .auto ⟨by omega,(h1 0 (by omega) (by decide)).trans hG0,(h1 10 (by omega) (by decide)).trans hG10,(h1 21 (by omega) (by decide)).trans hG21,(h1 24 (by omega) (by decide)).trans hG24,hlt,fm1,h2,h3,h4,fun s=>by rw [h5 s,hstep s]⟩
   ·intro _ _ h;exact h.elim
   ·intro _ _ _ h;exact h.elim
  ·have hge:L.length<=j:=by have:=of_decide_eq_false hcc;omega
   rw [List.take_of_length_le hge] at hfm
   have horc2:CC.orc 69 [setIV fm]=some (.own 3 1 (((List.range srcs.length).filter SB).map natIV)):=orcSet hfn hfb (fun s _=>by rw [hsrcs s,hfm s]) (by have:=nodup_lt hfn hfb;omega)
   refine AA ?_
   refine R.opU (O.callOwn rfl horc2 rfl (peeks_cons (vs:=[]) (peek_mpx hG20))) rfl ?_
   refine R.gen' (fun G2=>G2 (nx+1+1) = .row 3 1 ((((List.range srcs.length).filter SB).map natIV).map .imm) false) (by rw [updL_frz1,if_pos rfl]) ?_
   intro G2 hrow2
   refine AA ?_
   refine R.op1 (O.callOwnI rfl horc rfl rfl) rfl ?_
   refine AA ?_
   refine W.retFin rfl rfl ?_
   refine Rdx.peek (d:=2) (P:=fun _=>True) (Rdx.tup (d:=1) (.cons (Rdx.row (d:=0) (e:=3) (sz:=1) (fr:=false) ?_ (List.length_map ..) (All2.imms 0 _ _ _) trivial) (.cons (Rdx.row (d:=0) (e:=3) (sz:=1) (fr:=false) ?_ (List.length_map ..) (All2.imms 0 _ _ _) trivial) (.cons (.imm ..) .nil)))) (by decide)
   ·exact at_upd
   ·exact at_upd
 |false=>
  rw [hb] at hr
  unfold lookedIV at hr
  have bt:(!false)=true:=rfl
  generalize progR p=pr at *
  generalize ((p.defs.length-1:Nat):Int)=m1 at *
  generalize countR p=m2 at *
  obtain ⟨srcs,defs⟩:=p
  refine Ret.of (fn:=Go.Proofs.Tryz.f64) (by kernel_rfl) rfl rfl ?_
  cases pr with
  |true=>
   rw [if_pos rfl] at hr
   refine AA ?_
   exact W.retFin rfl rfl ⟨[],rfl⟩
  |false=>
   rw [if_neg (by decide)] at hr
   refine AA ?_
   exact W.retFin rfl rfl ⟨[],rfl⟩
end Go.Abs

/- The rings of a program, as the program finds them. -/
open Go Go.Abs
namespace Go.Abs
set_option maxRecDepth 100000
set_option maxHeartbeats 4000000
theorem ring_eq {tos:List (List Nat)} {i:Nat} (hi:i < tos.length) (hr:Reach tos i i):((List.range tos.length).filter (reachB tos i)).filter (fun k=>reachB tos k i)=ringTo (reachR tos) i tos.length:=by
 unfold ringTo
 rw [List.filter_filter]
 apply List.filter_congr
 intro k hk
 rw [List.mem_range] at hk
 rw [Bool.eq_iff_iff,inRing_iff hi hk,Bool.and_eq_true,reachB_iff,reachB_iff]
 constructor
 ·rintro ⟨a,b⟩;exact .inr ⟨b,a⟩
 ·rintro (rfl|⟨a,b⟩)
  ·exact ⟨hr,hr⟩
  ·exact ⟨b,a⟩
theorem head_ring {tos:List (List Nat)} {i:Nat} (hi:i < tos.length):(ringTo (reachR tos) i tos.length).head? = some i↔∀ k,k < i->¬ (Reach tos i k/\Reach tos k i):=by
 unfold ringTo
 have hn:tos.length=i+(tos.length-i-1+1):=by omega
 have hsplit:List.range tos.length=List.range i++(List.range (tos.length-i-1+1)).map (i + ·):=by
  conv=>lhs;rw [hn]
  rw [List.range_add]
 rw [hsplit,List.filter_append,List.range_succ_eq_map,List.map_cons,List.filter_cons]
 have hii:inRing (reachR tos) i (i+0)=true:=by unfold inRing;simp
 rw [if_pos hii]
 constructor
 ·intro h k hk hm
  have hmem:k∈(List.range i).filter (inRing (reachR tos) i):=List.mem_filter.2 ⟨List.mem_range.2 hk,(inRing_iff hi (by omega)).2 (.inr hm)⟩
  cases hf:(List.range i).filter (inRing (reachR tos) i) with
  |nil=>rw [hf] at hmem;cases hmem
  |cons a r=>
   rw [hf] at h
   simp at h
   subst h
   have:a∈(List.range a).filter (inRing (reachR tos) a):=by rw [hf];simp
   rw [List.mem_filter,List.mem_range] at this
   omega
 ·intro h
  have:(List.range i).filter (inRing (reachR tos) i)=[]:=by
   rw [List.filter_eq_nil_iff]
   intro k hk hr
   rw [List.mem_range] at hk
   rcases (inRing_iff hi (by omega)).1 hr with rfl|hm
   ·omega
   ·exact h k hk hm
  rw [this];simp
def InRing (tos:List (List Nat)) (i s:Nat):Prop:=∃ i',i' < i/\Reach tos i' i'/\Reach tos i' s/\Reach tos s i'
theorem ringIs_iff {tos:List (List Nat)} {i:Nat} (hi:i < tos.length):ringIs (reachR tos) i=true↔Reach tos i i/\¬ InRing tos i i:=by
 unfold ringIs
 rw [reachR_len,Bool.and_eq_true,at2_reach hi hi,reachB_iff,beq_iff_eq,head_ring hi]
 constructor
 ·rintro ⟨h1,h2⟩
  exact ⟨h1,fun ⟨i',h3,h4,h5,h6⟩=>h2 i' h3 ⟨h6,h5⟩⟩
 ·rintro ⟨h1,h2⟩
  exact ⟨h1,fun k hk ⟨h3,h4⟩=>h2 ⟨k,hk,h4.trans h3,h4,h3⟩⟩
theorem InRing.skip {tos:List (List Nat)} {i s:Nat} (h:¬ Reach tos i i\/InRing tos i i):InRing tos (i+1) s↔InRing tos i s:=by
 constructor
 ·rintro ⟨i',h1,h2,h3,h4⟩
  by_cases he:i'=i
  ·subst he
   rcases h with h|⟨j,g1,g2,g3,g4⟩
   ·exact absurd h2 h
   ·exact ⟨j,g1,g2,g3.trans h3,h4.trans g4⟩
  ·exact ⟨i',by omega,h2,h3,h4⟩
 ·rintro ⟨i',h1,h2⟩
  exact ⟨i',by omega,h2⟩
theorem InRing.step {tos:List (List Nat)} {i s:Nat} (h:Reach tos i i):InRing tos (i+1) s↔InRing tos i s\/(Reach tos i s/\Reach tos s i):=by
 constructor
 ·rintro ⟨i',h1,h2,h3,h4⟩
  by_cases he:i'=i
  ·subst he;exact .inr ⟨h3,h4⟩
  ·exact .inl ⟨i',by omega,h2,h3,h4⟩
 ·rintro (⟨i',h1,h2⟩|⟨h1,h2⟩)
  ·exact ⟨i',by omega,h2⟩
  ·exact ⟨i,by omega,h,h1,h2⟩
theorem ret17 (p:Pgm) (hp:p.Fits):Ret CC 21 [p.iv] (.tup [.lst ((ringsA p).map natsIV), .int .i64 (if progR p then 0 else 2)]):=by
 have hr:=ret54 p hp
 unfold lookedIV at hr
 unfold ringsA
 cases hb:progR p with
 |true=>
  rw [hb] at hr
  simp only [if_true] at hr ⊢
  have hc:=progR_count hb
  have hg:=countR_good hc
  have htos:=hg.tos
  have htl:(tosR p).length=p.defs.length:=hg.steps.2.1
  have hd6:=hg.defs
  have hreach:=fun (d:Nat) (h:d < p.defs.length)=>ret47 hp htos ((p.defs.length-1:Nat):Int) (countR p) (d:=d) (by rw [htl];exact h)
  have hrings:ringsOf p=ringsTo (reachR (tosR p)) p.defs.length:=by unfold ringsOf ringsR;rw [reachR_len,htl]
  rw [hrings]
  generalize ((p.defs.length-1:Nat):Int)=m1 at *
  generalize countR p=m2 at *
  generalize tosR p=tos at *
  obtain ⟨srcs,defs⟩:=p
  simp only at *
  have hdm:(defs.map Dfn.iv).length=defs.length:=List.length_map ..
  refine Ret.of (fn:=Go.Proofs.Tryz.f21) (by kernel_rfl) rfl rfl ?_
  refine AA ?_
  refine W.loop (X:=Nat×AV) (fun x=>[(1, .ptr 0 0),(4, .imm (scopeIV ⟨srcs,defs⟩ m1 m2)),(6, .map 9),(18, .imm (.lst (defs.map Dfn.iv))),(19, .imm (.int .i64 (defs.map Dfn.iv).length)),(20, .imm (.int .i64 x.1)),(5,x.2)])
   (fun x nx G=>11<=nx/\G 0 = .box [.imm (.lst (srcs.map sv)), .imm (.lst (defs.map Dfn.iv))] false/\(∃ ins,G 9=setObj ins/\ins.Nodup/\∀ s,s∈ins↔InRing tos x.1 s)/\x.1<=defs.length/\OwnV 1 44 1 11 nx ((ringsTo (reachR tos) x.1).map natsIV) G x.2)
   (fun x=>defs.length-x.1) (0, .nils) .auto ⟨by omega,rfl,⟨[],rfl,by simp,fun s=>⟨(fun h=>by cases h),(fun ⟨_,h,_⟩=>by omega)⟩⟩,Nat.zero_le _, .nil ..⟩ ?_
  rintro ⟨i,v⟩ nx G ⟨hnx,hG0,⟨ins,hG9,hin,him⟩,hi,ho⟩
  dsimp only at him hi ho ⊢
  rcases Bool.eq_false_or_eq_true (decide ((i:Int) < ((defs.map Dfn.iv).length:Int))) with hcc|hcc
  ·have hlt:i < defs.length:=by have:=of_decide_eq_true hcc;omega
   have hmu:defs.length-(i+1) < defs.length-i:=by omega
   obtain ⟨out,ho1,ho2,ho3,hr47⟩:=hreach i hlt
   have hset1:lookIs (some ty3) (some ty4) (mapKV G (.map 9)) (natIV i) false (.imm (.bool (ins.contains i))):=by
    simp only [mapKV,hG9,setObj];exact setLook ins i
   have hset2:=setLook out i
   have hins:ins.contains i=true↔InRing tos i i:=by rw [<-him i];simp
   have hout:out.contains i=true↔Reach tos i i:=by rw [<-ho3 i];simp
   have hsucc:=ringsTo_succ (reachR tos) i
   have skip:(¬ Reach tos i i\/InRing tos i i)->(∀ s,s∈ins↔InRing tos (i+1) s)/\ringsTo (reachR tos) (i+1)=ringsTo (reachR tos) i:=by
    intro h
    refine ⟨fun s=>by rw [him s,InRing.skip h],?_⟩
    rw [hsucc]
    have:ringIs (reachR tos) i=false:=by
     rw [Bool.eq_false_iff]
     intro h'
     have:=(ringIs_iff (by omega)).1 h'
     rcases h with h|h
     ·exact h this.1
     ·exact this.2 h
    rw [this,if_neg (by decide),List.append_nil]
   rcases Bool.eq_false_or_eq_true (ins.contains i) with hA|hA
   ·obtain ⟨s1,s2⟩:=skip (.inr (hins.1 hA))
    refine AA ?_
    refine W.skipLop (i+1,v) hmu .auto ⟨by omega,hG0,⟨ins,hG9,hin,s1⟩,hlt,?_⟩
    dsimp only
    rw [s2]
    exact ho.frame (by omega) fun _ _ _=>rfl
   rcases Bool.eq_false_or_eq_true (!out.contains i) with hB|hB
   ·have hB':out.contains i=false:=by simpa using hB
    obtain ⟨s1,s2⟩:=skip (.inl fun h=>by rw [hout.2 h] at hB';cases hB')
    refine AA ?_
    refine W.skipLop (i+1,v) hmu .auto ⟨by omega,hG0,⟨ins,hG9,hin,s1⟩,hlt,?_⟩
    dsimp only
    rw [s2]
    exact ho.frame (by omega) fun _ _ _=>rfl
   have hB':out.contains i=true:=by simpa using hB
   have hri:=hout.1 hB'
   have hni:¬ InRing tos i i:=fun h=>by rw [hins.2 h] at hA;cases hA
   have hri2:ringIs (reachR tos) i=true:=(ringIs_iff (by omega)).2 ⟨hri,hni⟩
   rw [hri2,if_pos rfl,reachR_len,<-ring_eq (by omega) hri] at hsucc
   have holen:=nodup_lt ho1 ho2
   have horc:CC.orc 69 [setIV out]=some (.own 3 1 (((List.range tos.length).filter (reachB tos i)).map natIV)):=orcSet ho1 ho2 (fun x _=>by rw [ho3 x,reachB_iff]) (by omega)
   have hLlt:∀ k∈(List.range tos.length).filter (reachB tos i),k < defs.length:=fun k h=>by
    rw [List.mem_filter,List.mem_range] at h;omega
   have hLr:∀ k∈(List.range tos.length).filter (reachB tos i),Reach tos i k:=fun k h=>by
    rw [List.mem_filter] at h;exact reachB_iff.1 h.2
   have hLa:∀ k,Reach tos i k->k∈(List.range tos.length).filter (reachB tos i):=fun k h=>by
    rw [List.mem_filter,List.mem_range];exact ⟨ho2 k ((ho3 k).2 h),reachB_iff.2 h⟩
   have hLl:((List.range tos.length).filter (reachB tos i)).length<=6:=by
    have:=List.length_filter_le (reachB tos i) (List.range tos.length)
    rw [List.length_range] at this;omega
   generalize (List.range tos.length).filter (reachB tos i)=L at *
   refine AA ?_
   refine R.op1 (O.callOwnI rfl horc rfl rfl) rfl ?_
   refine R.op0 (O.lenR rfl rfl at_upd (List.length_map ..)) rfl ?_
   refine AA ?_
   have hLm:(L.map natIV).length=L.length:=List.length_map ..
   rw [hLm]
   generalize hRR:nx+1+2+5+9+1+1=bR
   have hLm2:((L.map natIV).map AV.imm).length=L.length:=by simp
   generalize hP:(fun k=>reachB tos k i)=P at *
   have hPk:∀ k,P k=reachB tos k i:=fun k=>by rw [<-hP]
   refine W.loop (X:=Nat×AV) (fun x=>[(1, .ptr 0 0),(4, .imm (scopeIV ⟨srcs,defs⟩ m1 m2)),(6, .map 9),(7, .imm (natIV i)),(18, .imm (.lst (defs.map Dfn.iv))),(19, .imm (.int .i64 (defs.map Dfn.iv).length)),(20, .imm (.int .i64 i)),(5,v),(37, .row bR L.length),(38, .imm (.int .i64 L.length)),(39, .imm (.int .i64 x.1)),(9,x.2)])
    (fun x nx2 G2=>bR+1<=nx2/\G2 0 = .box [.imm (.lst (srcs.map sv)), .imm (.lst (defs.map Dfn.iv))] false/\G2 bR = .row 3 1 ((L.map natIV).map AV.imm) false/\(∃ insj,G2 9=setObj insj/\insj.Nodup/\∀ s,s∈insj↔s∈ins\/s∈(L.take x.1).filter P)/\x.1<=L.length/\OwnV 1 44 1 11 nx ((ringsTo (reachR tos) i).map natsIV) G2 v/\Own 3 1 (bR+1) nx2 (((L.take x.1).filter P).map natIV) G2 x.2)
    (fun x=>L.length-x.1) (0, .nils) .auto ⟨by omega,(upd_ne _ _ _ _ (by omega)).trans hG0,upd_same _ _ _,⟨ins,(upd_ne _ _ _ _ (by omega)).trans hG9,hin,fun s=>by simp⟩,Nat.zero_le _,ho.frame (Nat.le_refl _) (fun o _ h=>upd_ne _ _ _ _ (by omega)), .inl ⟨rfl,rfl⟩⟩ ?_
   rintro ⟨j,w⟩ nx2 G2 ⟨hnx2,hB0,hBR,⟨insj,hB9,hjn,hjm⟩,hj,hov,how⟩
   dsimp only at hjm hj hov how ⊢
   rcases Bool.eq_false_or_eq_true (decide ((j:Int) < (L.length:Int))) with hcj|hcj
   ·have hltj:j < L.length:=by have:=of_decide_eq_true hcj;omega
    obtain ⟨k,hjk⟩:=at_lt hltj
    have hjx:((L.map natIV).map AV.imm)[((j:Nat):Int).toNat]? = some (.imm (natIV k)):=by rw [Int.toNat_natCast];simp [hjk]
    have hkd:=hLlt k (List.mem_of_getElem? hjk)
    obtain ⟨outk,hk1,hk2,hk3,hr47k⟩:=hreach k hkd
    have hset3:=setLook outk i
    have hmu2:L.length-(j+1) < L.length-j:=by omega
    have htk:(L.take (j+1)).filter P=(L.take j).filter P++(if P k then [k] else []):=by
     rw [List.take_add_one,hjk,List.filter_append]
     congr 1
     simp only [Option.toList,List.filter_cons,List.filter_nil]
    have hPc:P k=outk.contains i:=by
     rw [hPk,Bool.eq_iff_iff,reachB_iff,<-hk3 i];simp
    have hll:((L.take j).filter P).length<=6:=by
     have h1:=List.length_filter_le P (L.take j)
     rw [List.length_take] at h1;omega
    rcases Bool.eq_false_or_eq_true (outk.contains i) with hC|hC
    ·rw [hPc,hC,if_pos rfl] at htk
     refine AA ?_
     refine R.app1 how at_upd (by simp only [List.length_map,most];omega) fun v' G' ho' hG'=>?_
     have hfr:∀ o,o < bR+1->G' o=G2 o:=fun o h=>by rw [hG' o h,upd_ne _ _ _ _ (by omega)]
     have h9:G' 9=setObj insj:=(hfr 9 (by omega)).trans hB9
     refine AA ?_
     refine R.opN1 (O.setPut rfl rfl rfl h9) ?_
     refine AA ?_
     refine W.skipLop (j+1,v') hmu2 .auto ⟨by omega,(upd_ne _ _ _ _ (by omega)).trans ((hfr 0 (by omega)).trans hB0),(upd_ne _ _ _ _ (by omega)).trans ((hfr bR (by omega)).trans hBR),⟨addN insj k,upd_same _ _ _,addN_nodup hjn,fun s=>?_⟩,hltj,hov.frame (Nat.le_refl _) (fun o h1 h2=>(upd_ne _ _ _ _ (by omega)).trans (hfr o (by omega))),?_⟩
     ·rw [addN_mem,hjm s,htk,List.mem_append,List.mem_singleton,or_assoc]
     ·show Own 3 1 (bR+1) _ (((L.take (j+1)).filter P).map natIV) _ v'
      rw [htk,List.map_append]
      exact ho'.frame (by omega) fun o h1 _=>upd_ne _ _ _ _ (by omega)
    ·rw [hPc,hC,if_neg (by decide),List.append_nil] at htk
     refine AA ?_
     refine W.skipLop (j+1,w) hmu2 .auto ⟨by omega,hB0,hBR,⟨insj,hB9,hjn,fun s=>by rw [hjm s,htk]⟩,hltj,hov,?_⟩
     show Own 3 1 (bR+1) _ (((L.take (j+1)).filter P).map natIV) _ w
     rw [htk]
     exact how.up (by omega)
   ·have hgej:L.length<=j:=by have:=of_decide_eq_false hcj;omega
    rw [List.take_of_length_le hgej] at hjm how
    refine AA ?_
    have hfit:=how.fits1
    have hrl:=ringsTo_len (reachR tos) i
    refine R.op1 (O.buildS (n:=1) (ke:=ty30) (xs:=[w]) rfl rfl rfl (by decide) rfl (by show ([w].all (AV.fits 1))=true;simp [hfit]) (by decide)) rfl ?_
    refine R.appOwnV (d':=1) (lo:=11) (hi:=nx) (ws:=[w]) (ys:=[natsIV (L.filter P)]) rfl rfl rfl (hov.frame (Nat.le_refl _) fun o _ h=>upd_ne _ _ _ _ (by omega)) rfl (by simp [elems,upd]) (by decide) (by decide) rfl (by show ([w].all (AV.fits 1))=true;simp [hfit]) (by simp only [List.length_map,List.length_cons,List.length_nil,most];omega) ⟨by omega,by omega⟩ (fun G' h1 h2=>⟨?_,trivial⟩) rfl fun v' G' ho' hG1 hG2=>?_
    ·exact how.rdx.frame (fun o ho=>by rw [h2 o (by omega) (by omega),upd_ne _ _ _ _ (by omega)]) fun o ho=>⟨by omega,by omega⟩
    ·refine AA ?_
     refine W.skipLop (i+1,v') hmu .auto ⟨by omega,by rw [hG1 0 (by omega),upd_ne _ _ _ _ (by omega)];exact hB0,⟨insj,by rw [hG1 9 (by omega),upd_ne _ _ _ _ (by omega)];exact hB9,hjn,fun s=>?_⟩,hlt,?_⟩
     ·rw [InRing.step hri,hjm s,him s,List.mem_filter,hPk,reachB_iff]
      constructor
      ·rintro (h|⟨h,h'⟩)
       ·exact .inl h
       ·exact .inr ⟨hLr s h,h'⟩
      ·rintro (h|⟨h,h'⟩)
       ·exact .inl h
       ·exact .inr ⟨hLa s h,h'⟩
     ·show OwnV 1 44 1 11 _ ((ringsTo (reachR tos) (i+1)).map natsIV) G' v'
      rw [hsucc,List.map_append]
      exact ho'.frame (by omega) fun _ _ _=>rfl
  ·have hge:defs.length<=i:=by have:=of_decide_eq_false hcc;omega
   have he:i=defs.length:=by omega
   subst he
   have hp:=ho.rdx
   refine AA ?_
   rcases ho with ⟨h0,rfl⟩|⟨o,vs,_,_,rfl,_⟩
   ·exact W.retFin2 rfl rfl ⟨[],by rw [h0];rfl⟩
   ·exact W.retFin2 rfl rfl (Rdx.peek (d:=3) (Rdx.tup (d:=2) (.cons hp (.cons (.imm ..) .nil))) (by decide))
 |false=>
  rw [hb] at hr
  simp only [Bool.false_eq_true,if_false] at hr ⊢
  obtain ⟨srcs,defs⟩:=p
  refine Ret.of (fn:=Go.Proofs.Tryz.f21) (by kernel_rfl) rfl rfl ?_
  refine AA ?_
  exact W.retFin2 rfl rfl ⟨[],rfl⟩
end Go.Abs

/- The groups of definitions, in their order, as the program finds them: what is ready. -/
open Go Go.Abs
namespace Go.Abs
set_option maxRecDepth 100000
set_option maxHeartbeats 4000000
def ty561:TyI:={ d:=TyD.mp 3 44,sz:=1,bytes:=8,zero:=AV.imm IV.nilmap }
instance tyis561:TyIs CC 261 ty561:=⟨by kernel_rfl⟩
def RowF (lo hi:Nat) (G:Nat->Obj) (v:AV) (g:List Nat):Prop:=v = .imm (natsIV g)\/∃ o fr,lo<=o/\o < hi/\v = .row o g.length/\G o = .row 3 1 ((g.map natIV).map .imm) fr
theorem RowF.frame {G G':Nat->Obj} {lo hi hi':Nat} {v:AV} {g:List Nat} (h:RowF lo hi G v g) (hh:hi<=hi') (hG:∀ o,lo<=o->o < hi->G' o=G o):RowF lo hi' G' v g:=by
 rcases h with h|⟨o,fr,h0,h1,h2,h3⟩
 ·exact .inl h
 ·exact .inr ⟨o,fr,h0,by omega,h2,by rw [hG o h0 h1];exact h3⟩
theorem RowF.peek {G:Nat->Obj} {lo hi:Nat} {v:AV} {g:List Nat} (h:RowF lo hi G v g):∃ ids,Go.Abs.peek G pkDepth v=some (natsIV g,ids)/\∀ o∈ids,lo<=o/\o < hi:=by
 rcases h with rfl|⟨o,fr,h0,h1,rfl,h3⟩
 ·exact ⟨[],rfl,fun _ h=>by cases h⟩
 ·refine ⟨[o],peek_row1 h3 (by simp),fun q hq=>?_⟩
  rw [List.mem_singleton] at hq;subst hq;exact ⟨h0,h1⟩
structure InIs (tos:List (List Nat)) (lo hi:Nat) (G:Nat->Obj) (ks:List Nat) (vs:List AV):Prop where
 len:vs.length=ks.length
 row:∀ (i k:Nat) (w:AV),ks[i]? = some k->vs[i]? = some w->RowF lo hi G w (grpR tos k)
theorem InIs.frame {tos:List (List Nat)} {lo hi hi':Nat} {G G':Nat->Obj} {ks:List Nat} {vs:List AV} (h:InIs tos lo hi G ks vs) (hh:hi<=hi') (hG:∀ o,lo<=o->o < hi->G' o=G o):InIs tos lo hi' G' ks vs:=
 ⟨h.len,fun i k w h1 h2=>(h.row i k w h1 h2).frame hh hG⟩
theorem findIdx_at' {s j:Nat}:∀ {l:List Nat},(l.findIdx? fun x=>s==x)=some j->l[j]? = some s
 |l,h=>by
  obtain ⟨h1,h2,_⟩:=List.findIdx?_eq_some_iff_getElem.1 h
  rw [List.getElem?_eq_getElem h1]
  simp only [beq_iff_eq] at h2
  rw [<-h2]
theorem InIs.look {tos:List (List Nat)} {lo hi:Nat} {G:Nat->Obj} {ks:List Nat} {vs:List AV} (h:InIs tos lo hi G ks vs) {d:Nat} (hd:d∈ks):∃ w,lookIs (some ty3) (some ty30) (some (ks.map natIV,vs)) (natIV d) false w/\RowF lo hi G w (grpR tos d):=by
 have hc:ks.contains d=true:=List.contains_iff_mem.2 hd
 rw [<-findIdx_contains'] at hc
 obtain ⟨j,hj⟩:=Option.isSome_iff_exists.1 hc
 have hlt:=findIdx_lt' hj
 obtain ⟨w,hw⟩:∃ w,vs[j]? = some w:=at_lt (by rw [h.len];exact hlt)
 refine ⟨w,⟨rfl, .inl ⟨j,w,?_,hw,rfl⟩⟩,h.row j d w (findIdx_at' hj) hw⟩
 rw [natKey,hj]
theorem InIs.miss {ks:List Nat} {vs:List AV} {d:Nat} (hd:d∉ks):lookIs (some ty3) (some ty30) (some (ks.map natIV,vs)) (natIV d) false .nils:=by
 refine ⟨rfl, .inr ⟨?_,rfl⟩⟩
 exact setNew (by rw [List.contains_eq_mem];exact decide_eq_false hd)
structure RdyK (tos:List (List Nat)) (done ks:List Nat) (vs:List AV) (dp md ip mi db d lo hi:Nat) (G:Nat->Obj) (nx:Nat):Prop where
 ub:dp < nx/\md < nx/\ip < nx/\mi < nx/\db < nx/\hi<=nx
 dp:G dp = .box [.map md] false
 md:G md=setObj done
 ip:G ip = .box [.map mi] false
 mi:G mi = .mp (ks.map natIV) vs false
 db:G db = .box [.imm (natIV d)] false
 ins:InIs tos lo hi G ks vs
theorem cal504 {tos:List (List Nat)} {done ks:List Nat} {vs:List AV} {dp md ip mi db d lo hi:Nat} (hdk:d∈ks) (hl:(grpR tos d).length<=1000) (x:Nat) {G:Nat->Obj} {nx:Nat} (h:RdyK tos done ks vs dp md ip mi db d lo hi G nx) :
  Cal CC 204 [.imm (natIV x), .ptr dp 0, .ptr ip 0, .ptr db 0] G nx fun v G' nx'=>v = .imm (.bool (!done.contains x && !(grpR tos d).contains x))/\nx<=nx'/\∀ o,o < nx->G' o=G o:=by
 obtain ⟨w,hlk,hrow⟩:=h.ins.look hdk
 have hset:=setLook done x
 have h438:=ret438 hl x
 have e1:=h.dp
 have e2:=h.md
 have e3:=h.ip
 have e4:=h.mi
 have e5:=h.db
 have hset':lookIs (some ty3) (some ty4) (mapKV G (.map md)) (natIV x) false (.imm (.bool (done.contains x))):=by
  simp only [mapKV,e2,setObj];exact hset
 have hlk':lookIs (some ty3) (some ty30) (mapKV G (.map mi)) (natIV d) false w:=by
  simp only [mapKV,e4];exact hlk
 refine Cal.of (fn:=Go.Proofs.Tryz.f204) (by kernel_rfl) rfl rfl ?_
 generalize done.contains x=z at *
 generalize (grpR tos d).contains x=y at *
 cases z with
 |true=>
  refine BN ?_
  exact W.retFin1 rfl ⟨rfl,by omega,fun _ _=>rfl⟩
 |false=>
  obtain ⟨ids,hp,_⟩:=hrow.peek
  refine BN ?_
  refine R.op0 (O.callG rfl (peeks_one hp (peeks_im peeks_nil)) h438 rfl) rfl ?_
  refine BN ?_
  exact W.retFin1 rfl ⟨rfl,by omega,fun _ _=>rfl⟩
theorem progR_good {p:Pgm} (h:progR p=true):p.Good:=by
 refine countR_good ?_
 unfold progR at h
 split at h
 ·cases h
 ·omega
theorem cal503 {p:Pgm} (hp:p.Fits) {done ks:List Nat} {vs:List AV} {pb dp md ip mi lo hi d:Nat} (hpr:progR p=true) (hd:d < p.defs.length) (hdk:d∈ks) {G:Nat->Obj} {nx:Nat} (hpb:pb < nx) (hP:G pb = .box [.imm (.lst (p.srcs.map sv)), .imm (.lst (p.defs.map Dfn.iv))] false)
  (hub:dp < nx/\md < nx/\ip < nx/\mi < nx/\hi<=nx) (e1:G dp = .box [.map md] false) (e2:G md=setObj done) (e3:G ip = .box [.map mi] false) (e4:G mi = .mp (ks.map natIV) vs false) (hin:InIs (tosR p) lo hi G ks vs) :
  Cal CC 203 [.imm (natIV d), .ptr pb 0, .ptr dp 0, .ptr ip 0] G nx fun v G' nx'=>v = .imm (.bool (readyR (tosR p) done d))/\nx<=nx'/\∀ o,o < nx->G' o=G o:=by
 have hg:=progR_good hpr
 have hn:(tosR p).length=p.defs.length:=hg.steps.2.1
 have hd6:=hg.defs
 have hh:hasR p (d:Int)=true:=by
  unfold hasR
  rw [hpr,decide_eq_true (by omega),decide_eq_true (by omega)];rfl
 have h15:=ret15 p hp (d:Int)
 have hra:reachA p (d:Int)=reachN p d:=by unfold reachA;rw [if_pos hh,Int.toNat_natCast]
 rw [hra] at h15
 have hrl:(reachN p d).length<=1000:=by
  unfold reachN
  have:=List.length_filter_le (reachB (tosR p) d) (List.range p.defs.length)
  rw [List.length_range] at this
  omega
 have hgl:(grpR (tosR p) d).length<=1000:=by
  have:=nodup_lt (grp_nodup (tos:=tosR p) d) (fun k hk=>grp_lt hk)
  omega
 have hset:lookIs (some ty3) (some ty4) (mapKV (upd G (nx+0) (.box [.imm (natIV d)] false)) (.map md)) (natIV d) false (.imm (.bool (done.contains d))):=by
  have:upd G (nx+0) (.box [.imm (natIV d)] false) md=setObj done:=by rw [upd_ne _ _ _ _ (by omega)];exact e2
  simp only [mapKV,this,setObj];exact setLook done d
 have hrdy:readyR (tosR p) done d=(!done.contains d && !(reachN p d).any fun k => !done.contains k && !(grpR (tosR p) d).contains k):=by
  unfold readyR reachN
  rw [hn,List.any_filter]
  congr 1
  rw [Bool.eq_iff_iff,List.all_eq_true,Bool.not_eq_true',List.any_eq_false]
  refine forall_congr' fun k=>forall_congr' fun _=>?_
  cases reachB (tosR p) d k<;>cases done.contains k<;>cases (grpR (tosR p) d).contains k<;>simp
 rw [hrdy]
 generalize srcsA p (d:Int)=sr at *
 generalize errR p (d:Int)=er at *
 generalize reachN p d=rl at *
 generalize tosR p=tos at *
 clear hrdy hra hh hn hg
 obtain ⟨srcs,defs⟩:=p
 simp only at hP
 refine Cal.of (fn:=Go.Proofs.Tryz.f203) (by kernel_rfl) rfl rfl ?_
 generalize done.contains d=z at *
 cases z with
 |true=>
  refine BN ?_
  exact W.retFin1 rfl ⟨rfl,by omega,fun o ho=>upd_ne _ _ _ _ (by omega)⟩
 |false=>
  have hc:=fun (G1:Nat->Obj) (nx1:Nat) (h1:nx+1<=nx1) (h2:∀ o,o < nx->G1 o=G o) (h3:G1 (nx+0) = .box [.imm (natIV d)] false)=>
   cal386 (f:=204) (cap:=[.ptr dp 0, .ptr ip 0, .ptr (nx+0) 0]) (P:=fun k => !done.contains k && !(grpR tos d).contains k) (K:=fun G2 nx2=>nx1<=nx2/\∀ o,o < nx+1->G2 o=G1 o) rfl (fun _ _ _ h hh=>⟨by omega,h.2⟩) (l:=rl) hrl
    (fun x _ G2 nx2 hK=>(cal504 (tos:=tos) (done:=done) (ks:=ks) (vs:=vs) (md:=md) (mi:=mi) (d:=d) (lo:=lo) (hi:=hi) hdk hgl x
     ⟨by omega,by rw [hK.2 _ (by omega),h2 _ (by omega)];exact e1,by rw [hK.2 _ (by omega),h2 _ (by omega)];exact e2,by rw [hK.2 _ (by omega),h2 _ (by omega)];exact e3,by rw [hK.2 _ (by omega),h2 _ (by omega)];exact e4,by rw [hK.2 _ (by omega)];exact h3,hin.frame (Nat.le_refl _) fun o _ ho=>by rw [hK.2 _ (by omega),h2 _ (by omega)]⟩).mono fun v G3 nx3 h=>⟨h.1,Nat.le_trans hK.1 h.2.1,fun o ho=>by rw [h.2.2 o (Nat.lt_of_lt_of_le ho (Nat.le_trans h1 hK.1))];exact hK.2 o ho⟩)
    (G:=G1) (nx:=nx1) ⟨Nat.le_refl _,fun _ _=>rfl⟩
  refine BN ?_
  refine R.callB rfl rfl rfl rfl rfl ((hc _ _ (by omega) (fun o ho=>upd_ne _ _ _ _ (by omega)) (upd_same ..)).mono fun v G' nx' hv=>?_)
  obtain ⟨rfl,h1,h2⟩:=hv
  refine BN ?_
  refine W.retFin1 rfl ⟨rfl,by omega,fun o ho=>?_⟩
  rw [h2 o (by omega)]
  exact upd_ne _ _ _ _ (by omega)
end Go.Abs

/- Names: there is one that is none of some. -/
open Go Go.Abs
namespace Go.Abs
theorem wordN_zero:wordN 0=[]:=by rw [wordN]
theorem wordN_inj:∀ n m,wordN n=wordN m->n=m:=by
 intro n
 induction n using Nat.strongRecOn with
 |_ n ih=>
  intro m h
  cases n with
  |zero=>
   cases m with
   |zero=>rfl
   |succ m=>rw [wordN_zero,wordN_succ] at h;simp at h
  |succ n=>
   cases m with
   |zero=>rw [wordN_zero,wordN_succ] at h;simp at h
   |succ m=>
    rw [wordN_succ,wordN_succ] at h
    have h1:=List.append_inj_left' h rfl
    have h2:=List.append_inj_right' h rfl
    have h3:=ih (n / 26) (by omega) _ h1
    have h4:n % 26=m % 26:=by
     have:=congrArg UInt8.toNat (List.cons.inj h2).1
     simp only [UInt8.toNat_ofNat'] at this
     omega
    omega
theorem wordN_short:∀ k n,n < 26 ^ k->(wordN n).length<=k
 |0,n,h=>by
  have:n=0:=by simpa using h
  rw [this,wordN_zero];simp
 |k+1,n,h=>by
  cases n with
  |zero=>rw [wordN_zero];simp
  |succ n=>
   rw [wordN_succ]
   have:=wordN_short k (n / 26) (by rw [Nat.pow_succ] at h;omega)
   simp;omega
theorem wordN_low:∀ n,lows (wordN n)=true:=by
 intro n
 induction n using Nat.strongRecOn with
 |_ n ih=>
  cases n with
  |zero=>rw [wordN_zero];rfl
  |succ n=>
   have h:=ih (n / 26) (by omega)
   have hc:∀ r,r < 26->okc (UInt8.ofNat (97+r))=true:=by decide
   rw [wordN_succ]
   unfold lows at h ⊢
   rw [List.all_append,h,List.all_cons,hc _ (Nat.mod_lt _ (by omega))]
   rfl
theorem name_word {n:Nat} (h1:1<=n) (h:n < 26 ^ 8):nameOk (wordN n) = !kws.contains (wordN n):=by
 have h2:=wordN_short 8 n h
 have h3:0 < (wordN n).length:=by
  cases n with
  |zero=>omega
  |succ n=>rw [wordN_succ];simp
 rw [nameOk,wordN_low,decide_eq_true h3,decide_eq_true h2]
 simp
theorem nodup_len:∀ (a b:List Str),a.Nodup->(∀ x∈a,x∈b)->a.length<=b.length
 |[],_,_,_=>Nat.zero_le _
 |x::r,b,hn,hs=>by
  rw [List.nodup_cons] at hn
  have hx:=hs x (by simp)
  have h1:=nodup_len r (b.erase x) hn.2 (fun y hy=>by
   have hne:y≠x:=fun e=>hn.1 (e▸hy)
   exact (List.mem_erase_of_ne hne).2 (hs y (by simp [hy])))
  rw [List.length_erase_of_mem hx] at h1
  have:=List.length_pos_of_mem hx
  simp
  omega
theorem least_of {p:Nat->Bool}:∀ n,p n=true->1<=n->∃ m,1<=m/\m<=n/\p m=true/\∀ k,1<=k->k < m->p k=false:=by
 intro n
 induction n using Nat.strongRecOn with
 |_ n ih=>
  intro h hn
  by_cases hk:∃ k,1<=k/\k < n/\p k=true
  ·obtain ⟨k,h1,h2,h3⟩:=hk
   obtain ⟨m,a,b,c⟩:=ih k h2 h3 h1
   exact ⟨m,a,by omega,c⟩
  ·exact ⟨n,hn,Nat.le_refl _,h,fun k h1 h2=>by
    cases e:p k with
    |false=>rfl
    |true=>exact absurd ⟨k,h1,h2,e⟩ hk⟩
theorem exists_first (l:List Str) (hl:l.length<=1048576):∃ N,First l N:=by
 have key:∃ n,1<=n/\n<=l.length+35/\good l n=true:=by
  refine Classical.byContradiction fun hno=>?_
  have h:∀ n,1<=n->n<=l.length+35->wordN n∈kws++l:=by
   intro n h1 h2
   have hg:good l n=false:=by
    cases e:good l n with
    |false=>rfl
    |true=>exact absurd ⟨n,h1,h2,e⟩ hno
   rw [good,name_word h1 (by omega)] at hg
   rw [List.mem_append]
   cases hk:kws.contains (wordN n) with
   |true=>exact .inl (by simpa using hk)
   |false=>
    rw [hk] at hg
    exact .inr (by simpa using hg)
  have h2:=nodup_len ((List.range (l.length+35)).map fun i=>wordN (i+1)) (kws++l) (by
   rw [List.nodup_iff_pairwise_ne,List.pairwise_map]
   refine List.Pairwise.imp ?_ (List.nodup_iff_pairwise_ne.1 List.nodup_range)
   intro a b hab e
   have:=wordN_inj _ _ e
   omega) (by
   intro x hx
   simp only [List.mem_map,List.mem_range] at hx
   obtain ⟨i,hi,rfl⟩:=hx
   exact h (i+1) (by omega) (by omega))
  have hk:kws.length=34:=rfl
  simp only [List.length_map,List.length_range,List.length_append,hk] at h2
  omega
 obtain ⟨n,h1,h2,h3⟩:=key
 obtain ⟨m,a,b,c,d⟩:=least_of (p:=good l) n h3 h1
 exact ⟨m,a,c,d,by omega⟩
end Go.Abs

/- Programs with other names: the names, and expressions. -/
open Go Go.Abs
namespace Go.Abs
set_option maxRecDepth 100000
set_option maxHeartbeats 4000000
open Classical in
/-- The first name that is none of some. -/
noncomputable def freshOf (l:List Str):Str:=if h:l.length<=1048576 then wordN (Classical.choose (exists_first l h)) else []
theorem allEs_mem {kids:List Exp} {c x:Exp} (h:c∈kids) (hx:x∈allE c):x∈allEs kids:=by
 induction kids with
 |nil=>cases h
 |cons k r ih=>
  rw [allEs,List.mem_append]
  rcases List.mem_cons.1 h with rfl|h
  ·exact .inl hx
  ·exact .inr (ih h)
end Go.Abs

/- Programs with other names, as the reference makes them. -/
open Go Go.Abs
namespace Go.Abs
set_option maxRecDepth 100000
set_option maxHeartbeats 4000000
def oldN (p:Pgm):List Str:=p.srcs++p.defs.map Dfn.name
theorem progR_parts {p:Pgm} (h:progR p=true):(oldN p).Nodup/\(1<=p.srcs.length/\p.srcs.length<=4)/\p.defs.length<=6/\(∀ d∈p.defs,d.exp.Sm)/\(∀ s∈oldN p,nameOk s=true)/\∀ i d,p.defs[i]? = some d->∀ x∈allE d.exp,NodeIs p.srcs (p.defs.map Dfn.name) i x:=by
 have hc:=progR_count h
 obtain ⟨h1,h2,h3,h4⟩:=countR_parts hc
 rw [h3] at h2 h4
 exact ⟨diff_nodup h2,⟨h1.1,h1.2.1⟩,h1.2.2,countR_sm hc,fun s hs=>diff_mem h2 hs,h4⟩
end Go.Abs

/- The lags of a formed program: its groups, one after the other; when a round changes nothing, all are done. -/
open Go Go.Abs
namespace Go.Abs
set_option maxRecDepth 100000
theorem NodeIs.nodeB {srcs defs:List Str} {ahead:Nat} {x:Exp} (h:NodeIs srcs defs ahead x):NodeB x/\(x.op=2\/x.op=3->0<=x.n/\x.name∈defs)/\(x.op=1->x.name∈srcs):=by
 obtain ⟨s,h1,h2⟩:=h
 unfold headIs at h2
 simp only [Bool.and_eq_true,beq_iff_eq,inR,decide_eq_true_eq] at h2
 obtain ⟨⟨⟨⟨⟨_,h4⟩,_⟩,h6⟩,_⟩,h8⟩:=h2
 rcases ops15 x.op with h|h|h|h|h|h|h|h|h|h|h|h|h|h|h|h
 case inr.inr.inr.inr.inr.inr.inr.inr.inr.inr.inr.inr.inr.inr.inr=>
  obtain ⟨n1,n2,n3,n4,n5,n6,n7,n8,n9,n10,n11,n12,n13,n14,n15⟩:=h
  simp [shapeR,n1,n2,n3,n4,n5,n6,n7,n8,n9,n10,n11,n12,n13,n14,n15] at h1
 all_goals
  simp [shapeR,h] at h1
  subst h1
  simp only at h4 h6
  refine ⟨⟨by omega,by omega,by omega⟩,fun hop=>⟨by omega,?_⟩,fun hop=>?_⟩
  all_goals first|(exfalso;omega)|skip
  all_goals
   unfold nameIs at h8
   rw [h] at h8
   simp at h8
   first|exact h8|exact List.mem_of_mem_take h8
theorem expAt_at {p:Pgm} {d:Nat} {x:Dfn} (h:p.defs[d]? = some x):expAt p d=x.exp:=by unfold expAt;rw [h]
theorem progR_node {p:Pgm} (h:progR p=true) {d:Nat} (hd:d < p.defs.length):∀ x∈allE (expAt p d),NodeIs p.srcs (p.defs.map Dfn.name) d x:=by
 obtain ⟨x,hx⟩:=at_lt hd
 rw [expAt_at hx]
 exact (progR_parts h).2.2.2.2.2 d x hx
theorem progR_small {p:Pgm} (h:progR p=true):Small p where
 len:=(progR_parts h).2.2.1
 srcs:=(progR_parts h).2.1.2
 cnt:=fun d=>by
  cases hd:p.defs[d]? with
  |none=>unfold expAt;rw [hd];simp [allE,allEs]
  |some x=>
   rw [expAt_at hd]
   have:=(progR_good h).size x (List.mem_of_getElem? hd);omega
 node:=fun d hd x hx=>(progR_node h hd x hx).nodeB.1
section
variable {tos:List (List Nat)}
theorem order_apart:∀ (f:Nat) {done:List Nat},DoneIs tos done->(done++(orderTo tos f done).flatten).Nodup
 |0,done,h=>by rw [orderTo,List.flatten_nil,List.append_nil];exact h.nodup
 |f+1,done,h=>by
  rw [orderTo]
  cases hn:nextR tos done with
  |none=>simp only [List.flatten_nil,List.append_nil];exact h.nodup
  |some d=>
   have h1:=next_inv hn
   have:=order_apart f (h.step h1.1 ((ready_iff.1 h1.2.1).1))
   simp only [List.flatten_cons]
   rwa [<-List.append_assoc]
theorem order_is:∀ (f:Nat) {done:List Nat},∀ g∈orderTo tos f done,∃ d,d < tos.length/\g=grpR tos d
 |0,_,g,h=>by cases h
 |f+1,done,g,h=>by
  rw [orderTo] at h
  cases hn:nextR tos done with
  |none=>rw [hn] at h;cases h
  |some d=>
   rw [hn] at h
   rcases List.mem_cons.1 h with rfl|h
   ·exact ⟨d,(next_inv hn).1,rfl⟩
   ·exact order_is f g h
theorem order_len:∀ (f:Nat) {done:List Nat},(orderTo tos f done).length<=f
 |0,_=>by rw [orderTo];exact Nat.le_refl _
 |f+1,done=>by
  rw [orderTo]
  cases nextR tos done with
  |none=>exact Nat.zero_le _
  |some d=>exact Nat.succ_le_succ (order_len f)
structure GrpIs (tos:List (List Nat)) (g:List Nat):Prop where
 lt:∀ d∈g,d < tos.length
 ne:∃ f r,g=f::r
 nodup:g.Nodup
 ring:∀ d∈g,reachB tos d d=ringB tos g
 alone:ringB tos g=false->∃ d,g=[d]
theorem order_grp {g:List Nat} (h:g∈orderR tos):GrpIs tos g:=by
 obtain ⟨d,hd,rfl⟩:=order_is _ g h
 obtain ⟨f,r,hfr⟩:∃ f r,grpR tos d=f::r:=by
  cases hg:grpR tos d with
  |nil=>have:=grp_self hd;rw [hg] at this;cases this
  |cons f r=>exact ⟨f,r,rfl⟩
 have hring:∀ k∈grpR tos d,reachB tos k k=reachB tos d d:=fun k hk=>by
  obtain ⟨_,h⟩:=(mem_grp hd).1 hk
  rcases h with rfl|⟨h1,h2⟩
  ·rfl
  ·rw [reachB_iff.2 (h1.trans h2),reachB_iff.2 (h2.trans h1)]
 have hr:ringB tos (grpR tos d)=reachB tos d d:=by
  rw [<-hring f (hfr▸List.mem_cons_self ..),hfr];rfl
 refine ⟨fun k hk=>grp_lt hk,⟨f,r,hfr⟩,grp_nodup d,fun k hk=>by rw [hr];exact hring k hk,fun h=>?_⟩
 rw [hr] at h
 exact ⟨d,grp_alone hd fun hc=>by rw [reachB_iff.2 hc] at h;cases h⟩
end
theorem grp_end {p:Pgm} (hp:progR p=true) {g:List Nat} (hg:GrpIs (tosR p) g) {D:List (List Lg)} (hD:Wide p D) (h0:∀ d∈g,∀ s,colD D s d=Lg.z) {m n:Nat} (hm:g.length<=m) (hn:g.length<=n) :
  rndsL p (ringB (tosR p) g) g m D=rndsL p (ringB (tosR p) g) g n D:=by
 have hgd:=progR_good hp
 have htl:(tosR p).length=p.defs.length:=hgd.steps.2.1
 cases hr:ringB (tosR p) g with
 |true=>
  refine ring_end (fun d hd=>by rw [<-htl];exact hg.lt d hd) (fun d hd x hx=>⟨?_,fun hop=>?_⟩) hD h0 hm hn
  ·have hdl:d < p.defs.length:=by rw [<-htl];exact hg.lt d hd
   have h1:=(progR_eq (progR_count hp)).1 hp d hdl (reachB_iff.1 (by rw [hg.ring d hd,hr]))
   obtain ⟨y,hy⟩:=at_lt hdl
   rw [expAt_at hy] at hx
   unfold foreAt at h1
   rw [hy] at h1
   simp only at h1
   unfold aheadE at h1
   rw [List.any_eq_false] at h1
   simpa using h1 x hx
  ·exact ((progR_node hp (by rw [<-htl];exact hg.lt d hd) x hx).nodeB.2.1 hop).1
 |false=>
  obtain ⟨d,rfl⟩:=hg.alone hr
  have hdl:d < p.defs.length:=by rw [<-htl];exact hg.lt d (List.mem_cons_self ..)
  have hx:∀ x∈allE (expAt p d),x.op=2\/x.op=3->idxN (p.defs.map Dfn.name) x.name≠d:=fun x hx hop he=>by
   have hnr:reachB (tosR p) d d=false:=by rw [hg.ring d (List.mem_cons_self ..),hr]
   refine Bool.false_ne_true (hnr.symm.trans (reachB_iff.2 (.one ?_)))
   obtain ⟨y,hy⟩:=at_lt hdl
   rw [hgd.tos.at' d y hy]
   unfold stepsN
   rw [List.mem_map]
   refine ⟨x,List.mem_filter.2 ⟨by rwa [expAt_at hy] at hx,?_⟩,?_⟩
   ·unfold namesDef
    rcases hop with h|h<;>rw [h]<;>rfl
   ·rw [(countR_parts (progR_count hp)).2.2.1];exact he
  simp only [List.length_cons,List.length_nil] at hm hn
  rw [one_end hdl hx hD hm,one_end hdl hx hD hn]
theorem grp_still {p:Pgm} (hp:progR p=true) {g:List Nat} (hg:GrpIs (tosR p) g) {D:List (List Lg)} (hD:Wide p D) (h0:∀ d∈g,∀ s,colD D s d=Lg.z) {r n:Nat} (hn:g.length<=n)
  (h:rndL p (ringB (tosR p) g) g (rndsL p (ringB (tosR p) g) g r D)=rndsL p (ringB (tosR p) g) g r D):rndsL p (ringB (tosR p) g) g r D=rndsL p (ringB (tosR p) g) g n D:=by
 have h1:=rnds_still h (m:=max r n) (by omega)
 rw [<-h1]
 exact grp_end hp hg hD h0 (by omega) hn
theorem grp_must {p:Pgm} (hp:progR p=true) {g:List Nat} (hg:GrpIs (tosR p) g) {D:List (List Lg)} (hD:Wide p D) (h0:∀ d∈g,∀ s,colD D s d=Lg.z) {r:Nat} (hr:g.length<=r) :
  rndL p (ringB (tosR p) g) g (rndsL p (ringB (tosR p) g) g r D)=rndsL p (ringB (tosR p) g) g r D:=by
 rw [show rndL p (ringB (tosR p) g) g (rndsL p (ringB (tosR p) g) g r D)=rndsL p (ringB (tosR p) g) g (r+1) D from rfl]
 exact grp_end hp hg hD h0 (by omega) hr
end Go.Abs

/- The reference: how an expression depends on each source. -/
open Go Go.Abs
namespace Go.Abs
set_option maxRecDepth 100000
set_option maxHeartbeats 4000000
structure NodeP (p:Pgm) (x:Exp):Prop where
 b:NodeB x
 ref:x.op=2\/x.op=3->0<=x.n/\x.name∈p.defs.map Dfn.name
 src:x.op=1->x.name∈p.srcs
theorem progR_nodeP {p:Pgm} (h:progR p=true) {d:Nat} (hd:d < p.defs.length):∀ x∈allE (expAt p d),NodeP p x:=fun x hx=>
 have:=(progR_node h hd x hx).nodeB
 ⟨this.1,this.2.1,this.2.2⟩
theorem kidsG_snoc (srcs names:List Str) (v:Nat->Lg) (s:Nat) (op n:Int) (x:Exp):∀ (l:List Exp) (i:Nat) (out:Lg),kidsG srcs names v s op n (l++[x]) i out=(kidsG srcs names v s op n l i out).both (kidL op n (i+l.length) (expG srcs names v s x))
 |[],i,out=>by rw [List.nil_append,kidsG,kidsG,kidsG];rfl
 |y::l,i,out=>by
  rw [List.cons_append,kidsG,kidsG,kidsG_snoc srcs names v s op n x l (i+1) _,List.length_cons,Nat.add_right_comm,Nat.add_assoc]
theorem kidsG_take {srcs names:List Str} {v:Nat->Lg} {s:Nat} {op n:Int} {l:List Exp} {i:Nat} {x:Exp} (h:l[i]? = some x):kidsG srcs names v s op n (l.take (i+1)) 0 Lg.z=(kidsG srcs names v s op n (l.take i) 0 Lg.z).both (kidL op n i (expG srcs names v s x)):=by
 have hlt:=(List.getElem?_eq_some_iff.1 h).1
 rw [List.take_add_one,h]
 simp only [Option.toList]
 rw [kidsG_snoc,List.length_take,Nat.zero_add,Nat.min_eq_left (by omega)]
theorem colD_at {D:List (List Lg)} {d:Nat} {r:List Lg} (h:D[d]? = some r) (s:Nat):r.getD s Lg.z=colD D s d:=by
 unfold colD;rw [List.getD_eq_getElem?_getD (l:=D),h];rfl
end Go.Abs

/- The reference: the lags of all definitions. -/
open Go Go.Abs
namespace Go.Abs
set_option maxRecDepth 100000
set_option maxHeartbeats 4000000
theorem rep_at {α:Type} {A:List α} {x:α} {n:Nat} (h:A.length < n):(A++List.replicate (n-A.length) x)[A.length]? = some x:=by
 rw [List.getElem?_append_right (Nat.le_refl _),Nat.sub_self,List.getElem?_replicate,if_pos (by omega)]
theorem rep_set {α:Type} {A:List α} {x v:α} {n:Nat} (h:A.length < n):(A++List.replicate (n-A.length) x).set A.length v=(A++[v])++List.replicate (n-(A++[v]).length) x:=by
 rw [List.set_append_right _ _ (Nat.le_refl _),Nat.sub_self,List.length_append,List.append_assoc]
 congr 1
 rw [show n-A.length=(n-(A.length+[v].length))+1 by simp only [List.length_cons,List.length_nil];omega]
 rfl
theorem rndL_take {p:Pgm} {ring:Bool} {g:List Nat} {k d:Nat} (h:g[k]? = some d) (E:List (List Lg)):rndL p ring (g.take (k+1)) E=setL p ring (rndL p ring (g.take k) E) d:=by
 unfold rndL
 rw [List.take_add_one,h,List.foldl_append];rfl
noncomputable def lags3 (p:Pgm) (gs:List (List Nat)) (g i k:Nat):List (List Lg):=rndL p (ringB (tosR p) (gs.getD g [])) ((gs.getD g []).take k) (rndsL p (ringB (tosR p) (gs.getD g [])) (gs.getD g []) i (lagsTo p (gs.take g)))
theorem order_small {p:Pgm} (hp:progR p=true):(orderR (tosR p)).length<=6/\∀ g∈orderR (tosR p),g.length<=6/\(∀ d∈g,d < p.defs.length)/\GrpIs (tosR p) g:=by
 have hg:=progR_good hp
 have htl:(tosR p).length=p.defs.length:=hg.steps.2.1
 refine ⟨?_,fun g hg2=>?_⟩
 ·have:=order_len (tos:=tosR p) (tosR p).length (done:=[])
  have h6:=hg.defs
  unfold orderR;omega
 ·have h1:=order_grp hg2
  have h2:=nodup_lt h1.nodup h1.lt
  have h6:=hg.defs
  exact ⟨by omega,fun d hd=>by rw [<-htl];exact h1.lt d hd,h1⟩
theorem lags_so {p:Pgm} (hp:progR p=true) (g:Nat):SoFar p ((orderR (tosR p)).take g) (lagsTo p ((orderR (tosR p)).take g)):=by
 have h:=lagsTo_far (progR_small hp) ((orderR (tosR p)).take g) [] (fun x hx=>by
  have:=(order_small hp).2 x (List.mem_of_mem_take hx)
  exact ⟨this.1,this.2.1⟩) (SoFar.zero p)
 rw [List.nil_append] at h
 exact h
theorem lags3_wide {p:Pgm} (hp:progR p=true) (g i k:Nat):Wide p (lags3 p (orderR (tosR p)) g i k):=((lags_so hp g).wide.rnds _ _ i).rnd _
theorem lags3_in {p:Pgm} (hp:progR p=true) {g i k:Nat} (hg:g < (orderR (tosR p)).length) (hi:i<=7):InL 40000000 (lags3 p (orderR (tosR p)) g i k):=by
 obtain ⟨h1,h2⟩:=order_small hp
 have hgm:(orderR (tosR p)).getD g []∈orderR (tosR p):=by rw [List.getD_eq_getElem?_getD,List.getElem?_eq_getElem hg];exact List.getElem_mem hg
 have h3:=h2 _ hgm
 have h4:=(lags_so hp g).low
 have h5:=h4.rnds (progR_small hp) (ring:=ringB (tosR p) ((orderR (tosR p)).getD g [])) h3.1 (by omega) h3.2.1 i
 have h6:=h5.rnd (progR_small hp) (ring:=ringB (tosR p) ((orderR (tosR p)).getD g [])) (((orderR (tosR p)).getD g []).take k) (by omega) fun d hd=>h3.2.1 d (List.mem_of_mem_take hd)
 refine h6.mono ?_
 have h7:((orderR (tosR p)).take g).length<=6:=by rw [List.length_take];omega
 have h8:(((orderR (tosR p)).getD g []).take k).length<=6:=by rw [List.length_take];have:=h3.1;omega
 omega
theorem lags3_next {p:Pgm} {gs:List (List Nat)} {g i k d:Nat} (h:(gs.getD g [])[k]? = some d):lags3 p gs g i (k+1)=setL p (ringB (tosR p) (gs.getD g [])) (lags3 p gs g i k) d:=by
 unfold lags3;exact rndL_take h _
theorem lags3_round {p:Pgm} {gs:List (List Nat)} {g i:Nat}:lags3 p gs g i (gs.getD g []).length=lags3 p gs g (i+1) 0:=by
 unfold lags3;rw [List.take_length,List.take_zero];rfl
theorem lags3_group {p:Pgm} {gs:List (List Nat)} {g:Nat} (h:g < gs.length):lags3 p gs g (p.defs.length+1) 0=lagsTo p (gs.take (g+1)):=by
 unfold lags3
 have e:gs.getD g []=gs[g]:=by rw [List.getD_eq_getElem?_getD,List.getElem?_eq_getElem h];rfl
 rw [List.take_zero,List.take_add_one,List.getElem?_eq_getElem h,e]
 simp only [Option.toList]
 rw [lagsTo_append];rfl
theorem lags3_zero {p:Pgm} {gs:List (List Nat)} {g:Nat}:lags3 p gs g 0 0=lagsTo p (gs.take g):=by
 unfold lags3;rw [List.take_zero];rfl
end Go.Abs
