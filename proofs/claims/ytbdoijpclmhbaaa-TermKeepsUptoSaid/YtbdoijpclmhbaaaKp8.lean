/- The reference: how many nodes a program has, if its parts are formed. -/
import Derived.Test.YtbdoijpclmhbaaaKp7
open Go Go.Abs
namespace Go.Abs
set_option maxRecDepth 100000
set_option maxHeartbeats 4000000
instance fnis65:FnIs CC 42:=⟨rfl,fun _=>rfl⟩
def countL (srcs names:List Str):List Dfn->Nat->Int->Int
 |[],_,n=>n
 |d::r,i,n=>if expR srcs names i d.exp 1 (60-n) < 0 then -1 else countL srcs names r (i+1) (n+expR srcs names i d.exp 1 (60-n))
def countR (p:Pgm):Int:=
 if p.srcs.length < 1\/4 < p.srcs.length\/6 < p.defs.length then -1 else
 if diff (p.srcs++defNames p) then countL p.srcs (defNames p) p.defs 0 0 else -1
theorem countL_drop (srcs names:List Str) {ds:List Dfn} {d:Dfn} {i:Nat} (h:ds[i]? = some d) (n:Int) :
  countL srcs names (ds.drop i) i n=if expR srcs names i d.exp 1 (60-n) < 0 then -1 else countL srcs names (ds.drop (i+1)) (i+1) (n+expR srcs names i d.exp 1 (60-n)):=by
 have:ds.drop i=d::ds.drop (i+1):=by
  rw [List.getElem?_eq_some_iff] at h
  obtain ⟨hi,rfl⟩:=h
  exact List.drop_eq_getElem_cons hi
 rw [this,countL]
theorem peeks_row {G:Nat->Obj} {o n e sz:Nat} {xs:List IV} (h:G o = .row e sz (xs.map .imm) false) (hn:xs.length=n):∃ ids,peeks G [.row o n]=some ([.lst xs],ids):=by
 have ho:Own e sz o (o+1) xs G (.row o n) := .inr ⟨o,Nat.le_refl _,by omega,by rw [hn],h⟩
 obtain ⟨ids,hp⟩:=ho.peek (k:=99)
 have hp':peek G pkDepth (.row o n)=some (.lst xs,ids):=hp
 exact ⟨ids++[],by simp only [peeks,peekL,hp']⟩
theorem O.callRow {C:Cfg} {id:Nat} {l:Env} {G:Nat->Obj} {nx:Nat} {df:List (AV×List AV)} {pk:Pk} {f:FuncId} {ar:List Operand} {ats:Array TypeId} {o n e sz:Nat} {xs:List IV} {ys:List AV} {x:IV} [hf:FnIs C f] (ha:looks l ar=some [.row o n]) (hG:G o = .row e sz ys false) (hn:ys.length=n) (hy:ys=xs.map .imm) (hr:Ret C f [.lst xs] x) (hx:x.scalar=true) :
  OpV C id l G nx df pk (.call { callee := .value (.func f),args:=⟨ar⟩,argTypes:=ats }) (.imm x) []:=by
 subst hy
 obtain ⟨ids,hp⟩:=peeks_row hG (by simpa using hn)
 exact O.callG ha hp hr hx
theorem sv_fits (l:List Str):((l.map sv).map AV.imm).all (AV.fits 1)=true:=by
 rw [List.all_eq_true]
 intro x hx
 simp only [List.mem_map] at hx
 obtain ⟨y,⟨z,_,rfl⟩,rfl⟩:=hx
 rfl
theorem ret65 (p:Pgm) (hp:p.Fits):Ret CC 42 [p.iv] (.int .i64 (countR p)):=by
 have hr96:=ret96 p hp.defs
 obtain ⟨srcs,defs⟩:=p
 have hs:=hp.srcs
 have hd:=hp.defs
 have hnl:(defNames ⟨srcs,defs⟩).length<=7:=by simp [defNames];omega
 have hnl2:defs.length<=6->(defNames ⟨srcs,defs⟩).length=defs.length:=fun h=>by simp [defNames];omega
 have hns:∀ s∈defNames ⟨srcs,defs⟩,s.length<=9223372036854775807:=by
  intro s hs
  simp only [defNames,List.mem_map] at hs
  obtain ⟨d,hd,rfl⟩:=hs
  exact hp.name d (List.mem_of_mem_take hd)
 simp only at hs hd
 unfold maxI at hs hd
 refine Ret.of (fn:=Go.Proofs.Try.f42) (by kernel_rfl) rfl rfl ?_
 refine W.seq (W.region ?_)
 refine R.op1 (O.boxS (cs:=[.imm (.lst (srcs.map sv)), .imm (.lst (defs.map Dfn.iv))]) rfl rfl rfl) rfl ?_
 have early:(srcs.length < 1\/4 < srcs.length\/6 < defs.length)->countR ⟨srcs,defs⟩ = -1:=fun h=>by unfold countR;rw [if_pos h]
 refine SB ?_
 refine W.seq ?_
 refine SB ?_
 rcases Bool.eq_false_or_eq_true (decide (((srcs.map sv).length:Int) < 1)) with hA|hA
 ·refine SS ?_
  exact W.retFin1 rfl ⟨[],by rw [early (.inl (by have:=of_decide_eq_true hA;rw [List.length_map] at this;omega))];rfl⟩
 rcases Bool.eq_false_or_eq_true (decide (((srcs.map sv).length:Int) > 4)) with hB|hB
 ·refine SS ?_
  exact W.retFin1 rfl ⟨[],by rw [early (.inr (.inl (by have:=of_decide_eq_true hB;rw [List.length_map] at this;omega)))];rfl⟩
 rcases Bool.eq_false_or_eq_true (decide (((defs.map Dfn.iv).length:Int) > 6)) with hC|hC
 ·refine SS ?_
  exact W.retFin1 rfl ⟨[],by rw [early (.inr (.inr (by have:=of_decide_eq_true hC;rw [List.length_map] at this;omega)))];rfl⟩
 have hsm:(srcs.map sv).length=srcs.length:=List.length_map ..
 have hdm:(defs.map Dfn.iv).length=defs.length:=List.length_map ..
 have hA':=of_decide_eq_false hA
 have hB':=of_decide_eq_false hB
 have hC':=of_decide_eq_false hC
 have hmk:countR ⟨srcs,defs⟩=if diff (srcs++defNames ⟨srcs,defs⟩) then countL srcs (defNames ⟨srcs,defs⟩) defs 0 0 else -1:=by
  unfold countR;rw [if_neg (by simp only;omega)]
 have hnl2:=hnl2 (by omega)
 have hr97:=ret97 (srcs++defNames ⟨srcs,defs⟩) (by rw [List.length_append];omega) (fun s h=>by
  rcases List.mem_append.1 h with h|h
  ·exact hp.src s h
  ·exact hns s h)
 generalize hN:defNames ⟨srcs,defs⟩=names at hr96 hmk hnl hns hnl2 hr97
 rw [hmk]
 refine SB ?_
 refine D.op1 (O.alloc (cs:=[.nils, .nils, .imm (.int .i64 0)]) rfl rfl) rfl rfl ?_
 refine D.opN1 (O.storeP (cs':=[.imm (.lst (srcs.map sv)), .imm (.lst (names.map sv)), .imm (.int .i64 0)]) rfl rfl rfl rfl rfl rfl) rfl ?_
 refine SB ?_
 refine W.seq ?_
 refine SB ?_
 refine D.op1 (O.appNil (ke:=ty9) (ys:=(srcs.map sv).map .imm) rfl rfl rfl rfl rfl (by decide) (by decide) rfl (sv_fits srcs) (by simp [most];omega)) rfl rfl ?_
 refine SD ?_
 refine D.op1 (O.appRow (ke:=ty9) (xs:=(srcs.map sv).map .imm) (ys:=(names.map sv).map .imm) rfl rfl rfl rfl rfl rfl rfl (by decide) (by decide) rfl (sv_fits names) (by simp [most];omega)) rfl rfl ?_
 refine D.op0 (O.callRow (xs:=(srcs++names).map sv) rfl rfl rfl (by simp) hr97 rfl) rfl rfl ?_
 generalize hdf:diff (srcs++names)=df
 cases df with
 |false=>
  refine SS ?_
  exact W.retFin1 rfl ⟨[],rfl⟩
 |true=>
 refine SB ?_
 refine W.seq ?_
 refine SS ?_
 refine W.loop (X:=Nat×Int×Int) (fun x=>[(1, .ptr 0 0),(3, .ptr 23 0),(5, .imm (.int .i64 x.1)),(4, .imm (.int .i64 x.2.1))])
  (fun x _ G=>G 0 = .box [.imm (.lst (srcs.map sv)), .imm (.lst (defs.map Dfn.iv))] false/\G 23 = .box [.imm (.lst (srcs.map sv)), .imm (.lst (names.map sv)), .imm (.int .i64 x.2.2)] false /\
   x.1<=defs.length/\(0<=x.2.1/\x.2.1<=60)/\countL srcs names defs 0 0=countL srcs names (defs.drop x.1) x.1 x.2.1)
  (fun x=>defs.length-x.1) (0,0,0) .auto ⟨rfl,rfl,Nat.zero_le _,(by show (0:Int)<=0/\(0:Int)<=60;decide),rfl⟩ ?_
 rintro ⟨i,n,a⟩ nx G ⟨hG0,hG23,hi,hn,he⟩
 dsimp only at hi hn he hG23 ⊢
 rw [he]
 clear he
 refine SS ?_
 refine W.cond rfl (fun hc=>?_) (fun hc=>?_)
 ·have hlt:i < defs.length:=by have:=of_decide_eq_true hc;omega
  obtain ⟨d,hx⟩:=at_lt hlt
  have hxi:=at_map Dfn.iv hx
  have hdc:=d.cells_len
  have hr:=ret98 srcs names i hs (by omega) (by omega) (hp.exp d (List.mem_of_getElem? hx)) 1 (60-n) (by decide) (by omega)
  have hle:=expR_le srcs names i d.exp 1 (60-n)
  rw [countL_drop srcs names hx]
  have hmu:defs.length-(i+1) < defs.length-i:=by omega
  generalize hk:expR srcs names i d.exp 1 (60-n)=r at hr hle ⊢
  obtain ⟨nm,⟨o',s',n',f',c',k'⟩⟩:=d
  refine SS ?_
  refine R.opN1 (O.storeP (cs':=[.imm (.lst (srcs.map sv)), .imm (.lst (names.map sv)), .imm (.int .i64 i)]) rfl rfl rfl hG23 rfl rfl) ?_
  refine R.gen (P:=fun G _ _=>G 0 = .box [.imm (.lst (srcs.map sv)), .imm (.lst (defs.map Dfn.iv))] false/\G 23 = .box [.imm (.lst (srcs.map sv)), .imm (.lst (names.map sv)), .imm (.int .i64 i)] false) ⟨by rw [upd_ne _ _ _ _ (by omega)];exact hG0,upd_same ..⟩ ?_
  clear hG0 hG23
  rintro G nx base ⟨hG0,hG23⟩
  refine SS ?_
  rcases Bool.eq_false_or_eq_true (decide (r < 0)) with hr0|hr0
  ·rw [if_pos (of_decide_eq_true hr0)]
   refine SS ?_
   exact W.retFin1 rfl ⟨[],rfl⟩
  ·have hr0':=of_decide_eq_false hr0
   rw [if_neg hr0']
   refine SS ?_
   exact W.skipLop (i+1,n+r,(i:Int)) hmu .auto ⟨hG0,hG23,hlt,(by show 0<=n+r/\n+r<=60;omega),rfl⟩
 ·have hge:defs.length<=i:=by have:=of_decide_eq_false hc;omega
  rw [List.drop_eq_nil_of_le hge,countL]
  refine SS ?_
  exact W.retFin1 rfl ⟨[],rfl⟩
end Go.Abs

/- The reference: the definitions that each definition names. -/
open Go Go.Abs
namespace Go.Abs
set_option maxRecDepth 100000
set_option maxHeartbeats 4000000
instance fnis84:FnIs CC 69:=⟨rfl,fun _=>rfl⟩
def ty34:TyI:={ d:=TyD.sl 26,sz:=1,bytes:=24,zero:=AV.nils }
instance tyis34:TyIs CC 60 ty34:=⟨by kernel_rfl⟩
def ty87:TyI:={ d:=TyD.sl 4,sz:=1,bytes:=24,zero:=AV.nils }
instance tyis87:TyIs CC 95 ty87:=⟨by kernel_rfl⟩
def ty88:TyI:={ d:=TyD.sl 95,sz:=1,bytes:=24,zero:=AV.nils }
instance tyis88:TyIs CC 93 ty88:=⟨by kernel_rfl⟩
theorem Own.fits1 {e sz lo hi:Nat} {xs:List IV} {G:Nat->Obj} {v:AV} (h:Own e sz lo hi xs G v):AV.fits 1 v=true:=by
 rcases h with ⟨_,rfl⟩|⟨o,_,_,rfl,_⟩<;>rfl
def namesDef (x:Exp):Bool:=x.op==2||x.op==3
def stepsL (names:List Str) (l:List Exp):List Int:=(l.filter namesDef).map fun x=>idxFrom names x.name 0
def intIV (n:Int):IV := .int .i64 n
def intsIV (l:List Int):IV := .lst (l.map intIV)
def stepsR (p:Pgm):List (List Int):=p.defs.map fun d=>stepsL (defNames p) (allE d.exp)
theorem stepsL_take {names:List Str} {l:List Exp} {x:Exp} {i:Nat} (h:l[i]? = some x):stepsL names (l.take (i+1))=stepsL names (l.take i)++(if namesDef x then [idxFrom names x.name 0] else []):=by
 unfold stepsL
 rw [List.take_add_one,h,List.filter_append,List.map_append]
 congr 1
 simp only [Option.toList,List.filter_cons,List.filter_nil]
 split<;>rfl
theorem stepsL_len (names:List Str) (l:List Exp):(stepsL names l).length<=l.length:=by
 unfold stepsL;rw [List.length_map];exact List.length_filter_le ..
theorem ret84 (p:Pgm) (hp:p.Fits) (hd6:p.defs.length<=6) (hsz:∀ d∈p.defs,(allE d.exp).length<=1000):Ret CC 69 [p.iv] (.lst ((stepsR p).map intsIV)):=by
 have hr96:=ret96 p hp.defs
 have hnl:(defNames p).length<=7:=by simp [defNames];omega
 unfold stepsR
 generalize defNames p=names at hr96 hnl ⊢
 obtain ⟨srcs,defs⟩:=p
 simp only at hd6 hsz ⊢
 have hdm:(defs.map Dfn.iv).length=defs.length:=List.length_map ..
 refine Ret.of (fn:=Go.Proofs.Try.f69) (by kernel_rfl) rfl rfl ?_
 refine W.seq (W.region ?_)
 refine R.op1 (O.boxS (cs:=[.imm (.lst (srcs.map sv)), .imm (.lst (defs.map Dfn.iv))]) rfl rfl rfl) rfl ?_
 refine SS ?_
 refine W.loop (X:=Nat×AV) (fun x=>[(1, .ptr 0 0),(4, .imm (.lst (names.map sv))),(5, .imm (.int .i64 x.1)),(3,x.2)])
  (fun x nx G=>G 0 = .box [.imm (.lst (srcs.map sv)), .imm (.lst (defs.map Dfn.iv))] false/\x.1<=defs.length/\1<=nx/\OwnV 1 26 1 1 nx (((defs.take x.1).map fun d=>stepsL names (allE d.exp)).map intsIV) G x.2) (fun x=>defs.length-x.1) (0, .nils)
  .auto ⟨rfl,Nat.zero_le _,by simp, .inl ⟨rfl,rfl⟩⟩ ?_
 rintro ⟨i,v⟩ hi0 G ⟨hB,hi,hnx,ho⟩
 dsimp only at hi ho ⊢
 refine SS ?_
 refine W.cond rfl (fun h1=>?_) (fun h1=>?_)
 ·have h1':i < defs.length:=by have:=of_decide_eq_true h1;omega
  obtain ⟨d,hx⟩:=at_lt h1'
  have hxi:=at_map Dfn.iv hx
  have hdc:=d.cells_len
  have hdm:=List.mem_of_getElem? hx
  have hr58:=ret58 (hp.exp d hdm) (by have:=hsz d hdm;omega)
  have hle:=hsz d hdm
  have htake:((defs.take (i+1)).map fun d=>stepsL names (allE d.exp))=((defs.take i).map fun d=>stepsL names (allE d.exp))++[stepsL names (allE d.exp)]:=by
   rw [List.take_add_one,hx];simp
  generalize allE d.exp=nodes at hr58 hle htake
  have hnm:(Exp.ivs nodes).length=nodes.length:=ivs_len nodes
  obtain ⟨nm,⟨o',s',n',f',c',k'⟩⟩:=d
  have hmu:defs.length-(i+1) < defs.length-i:=by omega
  refine SS ?_
  refine W.loop (X:=Nat×AV) (fun x=>[(1, .ptr 0 0),(4, .imm (.lst (names.map sv))),(5, .imm (.int .i64 i)),(3,v),(7, .imm (.lst (Exp.ivs nodes))),(8, .imm (.int .i64 x.1)),(6,x.2)])
   (fun x nx G=>G 0 = .box [.imm (.lst (srcs.map sv)), .imm (.lst (defs.map Dfn.iv))] false/\OwnV 1 26 1 1 hi0 (((defs.take i).map fun d=>stepsL names (allE d.exp)).map intsIV) G v/\x.1<=nodes.length/\hi0<=nx/\Own 3 1 hi0 nx ((stepsL names (nodes.take x.1)).map intIV) G x.2) (fun x=>nodes.length-x.1) (0, .nils)
   .auto ⟨hB,ho,Nat.zero_le _,by omega, .inl ⟨rfl,rfl⟩⟩ ?_
  clear hB ho
  rintro ⟨k,t⟩ nx G ⟨hB,ho,hk,hnx2,ht⟩
  dsimp only at hk ht ⊢
  refine SS ?_
  refine W.cond rfl (fun h2=>?_) (fun h2=>?_)
  ·have h2':k < nodes.length:=by have:=of_decide_eq_true h2;omega
   obtain ⟨x,hx2⟩:=at_lt h2'
   have hxi2:=ivs_at hx2
   have hr69:=ret69 names x.name (by omega)
   have hst:=stepsL_take (names:=names) hx2
   have hmu2:nodes.length-(k+1) < nodes.length-k:=by omega
   have hlen:=stepsL_len names (nodes.take k)
   rw [List.length_take] at hlen
   obtain ⟨op,s',n',f',c',k'⟩:=x
   have hcase:((op==2)=true\/((op==2)=false/\(op==3)=true))\/((op==2)=false/\(op==3)=false):=by
    cases op==2<;>cases op==3<;>simp
   rcases hcase with hyes|⟨hA,hB3⟩
   ·have hy:namesDef (.mk op s' n' f' c' k')=true:=by show (op==2||op==3)=true;rcases hyes with h|⟨h,h'⟩<;>rw [h]<;>first|rfl|(rw [h'];rfl)
    rw [hy,if_pos rfl] at hst
    rcases hyes with hA|⟨hA,hB3⟩
    iterate 2
     ·refine SS ?_
      refine R.op1 (O.buildS (n:=1) (ke:=ty3) (xs:=[.imm (.int .i64 (idxFrom names s' 0))]) rfl rfl rfl (by decide) rfl rfl (by decide)) rfl ?_
      refine R.appOwn (lo:=hi0) (ys:=[intIV (idxFrom names s' 0)]) rfl rfl rfl (ht.upd (by omega) (by omega)) rfl (by simp [elems,upd];rfl) (by decide) (by decide) rfl (by simp [intIV];rfl) (by simp only [List.length_map,List.length_cons,List.length_nil,most];omega) ⟨by omega,by simp only [List.length_cons,List.length_nil];omega⟩ rfl fun v' G' ho' hG'=>?_
      have hfr:∀ o,o < hi0->G' o=G o:=fun o h=>by rw [hG' o h,upd_ne _ _ _ _ (by omega)]
      refine SS ?_
      refine W.skipLop (k+1,v') hmu2 .auto ⟨by rw [hfr 0 (by omega)];exact hB,ho.frame (Nat.le_refl _) fun o _ h=>hfr o h,h2',by omega,?_⟩
      show Own 3 1 hi0 _ ((stepsL names (nodes.take (k+1))).map intIV) G' v'
      rw [hst,List.map_append]
      exact ho'.up (by omega)
   ·have hy:namesDef (.mk op s' n' f' c' k')=false:=by show (op==2||op==3)=false;rw [hA,hB3];rfl
    rw [hy,if_neg (by decide),List.append_nil] at hst
    refine SS ?_
    refine W.skipLop (k+1,t) hmu2 .auto ⟨hB,ho,h2',by omega,?_⟩
    show Own 3 1 hi0 _ ((stepsL names (nodes.take (k+1))).map intIV) _ t
    rw [hst]
    exact ht.up (by omega)
  ·have h2':nodes.length<=k:=by have:=of_decide_eq_false h2;omega
   rw [List.take_of_length_le h2'] at ht
   have hfit:=ht.fits1
   refine SS ?_
   refine R.op1 (O.buildS (n:=1) (ke:=ty30) (xs:=[t]) rfl rfl rfl (by decide) rfl (by show ([t].all (AV.fits 1))=true;simp [hfit]) (by decide)) rfl ?_
   refine R.appOwnV (d':=1) (lo:=1) (hi:=hi0) (ws:=[t]) (ys:=[intsIV (stepsL names nodes)]) rfl rfl rfl (ho.frame (Nat.le_refl _) fun o _ h=>upd_ne _ _ _ _ (by omega)) rfl (by simp [elems,upd]) (by decide) (by decide) rfl (by show ([t].all (AV.fits 1))=true;simp [hfit]) (by simp only [List.length_map,List.length_take,List.length_cons,List.length_nil,most];omega) ⟨by omega,by omega⟩ (fun G' h1 h2=>⟨?_,trivial⟩) rfl fun v' G' ho' hG1 hG2=>?_
   ·exact ht.rdx.frame (fun o ho=>by rw [h2 o ho.1 (by omega),upd_ne _ _ _ _ (by omega)]) fun o ho=>⟨ho.1,by omega⟩
   ·have hB':G' 0 = .box [.imm (.lst (srcs.map sv)), .imm (.lst (defs.map Dfn.iv))] false:=by rw [hG1 0 (by omega),upd_ne _ _ _ _ (by omega)];exact hB
    refine SS ?_
    refine W.skipLop (i+1,v') hmu .auto ⟨hB',h1',by omega,?_⟩
    show OwnV 1 26 1 1 _ (((defs.take (i+1)).map fun d=>stepsL names (allE d.exp)).map intsIV) G' v'
    rw [htake,List.map_append]
    exact ho'.frame (by simp only [List.length_cons,List.length_nil];omega) fun _ _ _=>rfl
 ·have h1':defs.length<=i:=by have:=of_decide_eq_false h1;omega
  refine SS ?_
  refine W.retFin1 rfl ?_
  rw [List.take_of_length_le h1'] at ho
  exact ho.rdx.peek (by decide)
end Go.Abs

/- What a graph's nodes reach; how it is found. (No program in sight.) -/
namespace Go.Abs
inductive Reach (tos:List (List Nat)) (i:Nat):Nat->Prop where
 |one {j:Nat} (h:j∈tos.getD i []):Reach tos i j
 |more {k j:Nat} (h:Reach tos i k) (hj:j∈tos.getD k []):Reach tos i j
open Classical in
noncomputable def reachB (tos:List (List Nat)) (i j:Nat):Bool:=decide (Reach tos i j)
theorem reachB_iff {tos:List (List Nat)} {i j:Nat}:reachB tos i j=true↔Reach tos i j:=by unfold reachB;simp
noncomputable def reachRow (tos:List (List Nat)) (n i:Nat):List Bool:=(List.range n).map (reachB tos i)
structure Bfs (tos:List (List Nat)) (n i k:Nat) (b:List Bool) (T:List Nat):Prop where
 len:b.length=n
 bnd:∀ x∈T,x < n
 sndT:∀ x∈T,Reach tos i x
 sndB:∀ j,b[j]? = some true->Reach tos i j
 start:∀ j∈tos.getD i [],j∈T
 clos:∀ j,b[j]? = some true->∀ m∈tos.getD j [],m∈T
 seen:∀ m x,m < k->T[m]? = some x->b[x]? = some true
 kle:k<=T.length
 size:T.length+1000*b.count false<=1000*(n+1)
theorem Bfs.init {tos:List (List Nat)} {n i:Nat} (hl:(tos.getD i []).length<=1000) (hb:∀ x∈tos.getD i [],x < n):Bfs tos n i 0 (List.replicate n false) (tos.getD i []) where
 len:=by simp
 bnd:=hb
 sndT x h := .one h
 sndB j h:=by simp [List.getElem?_replicate] at h
 start j h:=h
 clos j h:=by simp [List.getElem?_replicate] at h
 seen m x h:=by omega
 kle:=Nat.zero_le _
 size:=by rw [List.count_replicate];simp only [beq_self_eq_true,if_true];omega
theorem Bfs.skip {tos:List (List Nat)} {n i k x:Nat} {b:List Bool} {T:List Nat} (h:Bfs tos n i k b T) (hx:T[k]? = some x) (hb:b[x]? = some true):Bfs tos n i (k+1) b T:=
 { h with
  kle:=by
   have:=(List.getElem?_eq_some_iff.1 hx).1
   omega
  seen:=fun m y hm hy=>by
   rcases Nat.lt_or_ge m k with hlt|hge
   ·exact h.seen m y hlt hy
   ·obtain rfl:m=k:=by omega
    rw [hx] at hy;cases hy;exact hb }
theorem Bfs.step {tos:List (List Nat)} {n i k x:Nat} {b:List Bool} {T:List Nat} (h:Bfs tos n i k b T) (hx:T[k]? = some x) (hb:b[x]? = some false) (hl:(tos.getD x []).length<=1000) (hbd:∀ y∈tos.getD x [],y < n) :
  Bfs tos n i (k+1) (b.set x true) (T++tos.getD x []):=by
 have hxT:=List.mem_of_getElem? hx
 have hxb:x < b.length:=(List.getElem?_eq_some_iff.1 hb).1
 have hkT:=(List.getElem?_eq_some_iff.1 hx).1
 have hset:∀ j,(b.set x true)[j]? = some true->j=x\/b[j]? = some true:=by
  intro j hj
  rw [List.getElem?_set] at hj
  split at hj
  ·rename_i e;exact .inl e.symm
  ·exact .inr hj
 have hcnt:(b.set x true).count false+1=b.count false:=by
  rw [List.count_set hxb]
  have e:b[x]=false:=by
   rw [List.getElem?_eq_getElem hxb] at hb
   exact Option.some.inj hb
  have hpos:0 < b.count false:=List.count_pos_iff.2 (e▸List.getElem_mem hxb)
  rw [e]
  simp
  omega
 exact {
  len:=by simp [h.len]
  bnd:=fun y hy=>(List.mem_append.1 hy).elim (h.bnd y) (hbd y)
  sndT:=fun y hy=>(List.mem_append.1 hy).elim (h.sndT y) fun hy => .more (h.sndT x hxT) hy
  sndB:=fun j hj=>(hset j hj).elim (fun e=>e▸h.sndT x hxT) (h.sndB j)
  start:=fun j hj=>List.mem_append.2 (.inl (h.start j hj))
  clos:=fun j hj m hm=>by
   rcases hset j hj with rfl|hj
   ·exact List.mem_append.2 (.inr hm)
   ·exact List.mem_append.2 (.inl (h.clos j hj m hm))
  seen:=fun m y hm hy=>by
   rw [List.getElem?_set]
   have hmT:m < T.length:=by omega
   rw [List.getElem?_append_left hmT] at hy
   rcases Nat.lt_or_ge m k with hlt|hge
   ·have:=h.seen m y hlt hy
    split
    ·simp
    ·exact this
   ·obtain rfl:m=k:=by omega
    rw [hx] at hy;cases hy
    simp [hxb]
  kle:=by simp;omega
  size:=by
   have:=h.size
   simp only [List.length_append]
   omega }
theorem Bfs.mu {tos:List (List Nat)} {x:Nat} {b:List Bool} {T:List Nat} {k:Nat} (hx:T[k]? = some x) (hb:b[x]? = some false) (hl:(tos.getD x []).length<=1000) :
  1000*(b.set x true).count false+(T++tos.getD x []).length-(k+1) < 1000*b.count false+T.length-k:=by
 have hxb:x < b.length:=(List.getElem?_eq_some_iff.1 hb).1
 have hkT:=(List.getElem?_eq_some_iff.1 hx).1
 have hcnt:(b.set x true).count false+1=b.count false:=by
  rw [List.count_set hxb]
  have e:b[x]=false:=by
   rw [List.getElem?_eq_getElem hxb] at hb
   exact Option.some.inj hb
  have hpos:0 < b.count false:=List.count_pos_iff.2 (e▸List.getElem_mem hxb)
  rw [e]
  simp
  omega
 simp only [List.length_append]
 omega
theorem Bfs.fin {tos:List (List Nat)} {n i k:Nat} {b:List Bool} {T:List Nat} (h:Bfs tos n i k b T) (hk:T.length<=k):b=reachRow tos n i:=by
 have hall:∀ x∈T,b[x]? = some true:=fun x hx=>by
  obtain ⟨m,hm,rfl⟩:=List.mem_iff_getElem.1 hx
  exact h.seen m _ (by omega) (List.getElem?_eq_getElem hm)
 have hr:∀ j,Reach tos i j->j∈T:=by
  intro j hj
  induction hj with
  |one hj=>exact h.start _ hj
  |more hk hj ih=>exact h.clos _ (hall _ ih) _ hj
 apply List.ext_getElem?
 intro j
 unfold reachRow
 rw [List.getElem?_map]
 rcases Nat.lt_or_ge j n with hj|hj
 ·rw [List.getElem?_range hj]
  have hjb:j < b.length:=by rw [h.len];exact hj
  rw [List.getElem?_eq_getElem hjb]
  simp only [Option.map_some,Option.some.injEq]
  cases hv:b[j] with
  |true=>exact (reachB_iff.2 (h.sndB j (by rw [List.getElem?_eq_getElem hjb,hv]))).symm
  |false=>
   cases hq:reachB tos i j with
   |false=>rfl
   |true=>
    have:=hall j (hr j (reachB_iff.1 hq))
    rw [List.getElem?_eq_getElem hjb,hv] at this
    cases this
 ·rw [List.getElem?_eq_none (by rw [h.len];exact hj),List.getElem?_eq_none (by simpa using hj)]
  rfl
end Go.Abs

/- The reference: which definitions each one reaches. -/
open Go Go.Abs
namespace Go.Abs
set_option maxRecDepth 100000
set_option maxHeartbeats 4000000
instance fnis53:FnIs CC 45:=⟨rfl,fun _=>rfl⟩
def natIV (n:Nat):IV := .int .i64 n
def natsIV (l:List Nat):IV := .lst (l.map natIV)
def boolsIV (l:List Bool):IV := .lst (l.map .bool)
noncomputable def reachR (tos:List (List Nat)):List (List Bool):=(List.range tos.length).map (reachRow tos tos.length)
theorem R.gen' {C:Cfg} {nt:Nat} {ol r:List Oper} {base i:Nat} {l:Env} {G:Nat->Obj} {nx:Nat} {df:List (AV×List AV)} {pk:Pk} {Φ:Out->Prop} (P:(Nat->Obj)->Prop) (h0:P G) (h:∀ G,P G->R C nt ol base i r l G nx df pk Φ):R C nt ol base i r l G nx df pk Φ:=h _ h0
theorem W.gen' {C:Cfg} {fid nt:Nat} {b:Code} {l:Env} {G:Nat->Obj} {nx:Nat} {df:List (AV×List AV)} {pk:Pk} {Φ:Out->Prop} (P:(Nat->Obj)->Prop) (h0:P G) (h:∀ G,P G->W C fid nt b l G nx df pk Φ):W C fid nt b l G nx df pk Φ:=h _ h0
theorem mid_at {α:Type} {d:List α} {x:α} {r:List α} {i:Nat} (h:d.length=i):(d++x::r)[i]? = some x:=by
 subst h;simp
theorem mid_set {α:Type} {d:List α} {x y:α} {r:List α} {i:Nat} (h:d.length=i):(d++x::r).set i y=d++y::r:=by
 subst h;simp
theorem ret53 (p:Pgm) (hp:p.Fits) (hd6:p.defs.length<=6) (hsz:∀ d∈p.defs,(allE d.exp).length<=1000) (tos:List (List Nat)) (hto:stepsR p=tos.map fun t=>t.map Int.ofNat) (hlen:∀ t∈tos,t.length<=1000) (hbd:∀ t∈tos,∀ x∈t,x < tos.length) :
  Ret CC 45 [p.iv] (.lst ((reachR tos).map boolsIV)):=by
 have hr84:=ret84 p hp hd6 hsz
 have hn:p.defs.length=tos.length:=by
  have:=congrArg List.length hto
  simpa [stepsR] using this
 rw [hto] at hr84
 have hiv:(tos.map fun t=>t.map Int.ofNat).map intsIV=tos.map natsIV:=by
  rw [List.map_map]
  apply List.map_congr_left
  intro t _
  simp only [Function.comp,intsIV,natsIV,List.map_map]
  rfl
 rw [hiv] at hr84
 clear hto hiv hsz
 have hgetl:∀ i,(tos.getD i []).length<=1000:=fun i=>by
  rw [List.getD_eq_getElem?_getD]
  cases h:tos[i]? with
  |none=>simp
  |some t=>exact hlen t (List.mem_of_getElem? h)
 have hgetb:∀ i,∀ x∈tos.getD i [],x < tos.length:=fun i=>by
  rw [List.getD_eq_getElem?_getD]
  cases h:tos[i]? with
  |none=>simp
  |some t=>exact hbd t (List.mem_of_getElem? h)
 obtain ⟨srcs,defs⟩:=p
 simp only at hn hd6
 have hdm:(defs.map Dfn.iv).length=tos.length:=by rw [List.length_map,hn]
 unfold reachR
 generalize htn:tos.length=n at *
 refine Ret.of (fn:=Go.Proofs.Try.f45) (by kernel_rfl) rfl rfl ?_
 refine W.seq (W.region ?_)
 refine R.op1 (O.boxS (cs:=[.imm (.lst (srcs.map sv)), .imm (.lst (defs.map Dfn.iv))]) rfl rfl rfl) rfl ?_
 refine SS ?_
 rw [hdm]
 refine R.op1 (O.makeSlice (ke:=ty87) rfl inferInstance rfl rfl ⟨by omega,Int.le_refl _,by unfold most;omega⟩ (by decide) rfl (by decide)) rfl ?_
 refine SS ?_
 refine W.loop (X:=Nat) (fun i=>[(3, .imm (.int .i64 n)),(4, .imm (.lst (tos.map natsIV))),(5, .row 10 n),(6, .imm (.int .i64 i))])
  (fun i nx G=>11<=nx/\i<=n/\∃ done,G 10 = .row 95 1 (done++List.replicate (n-i) .nils) false/\All2 (Rdx 1 G (fun o=>11<=o/\o < nx)) done (((List.range i).map (reachRow tos n)).map boolsIV)) (fun i=>n-i) 0
  .auto ⟨by decide,Nat.zero_le _,[],?_,trivial⟩ ?_
 ·rfl
 rintro i nx G ⟨hnx,hi,done,hG,hdone⟩
 have hdl:done.length=i:=by rw [hdone.length];simp
 refine SS ?_
 refine W.cond rfl (fun h1=>?_) (fun h1=>?_)
 ·have h1':i < n:=by have:=of_decide_eq_true h1;omega
  have hrep:List.replicate (n-i) AV.nils = .nils::List.replicate (n-(i+1)) .nils:=by
   rw [show n-i=n-(i+1)+1 by omega,List.replicate_succ]
  rw [hrep] at hG
  refine SS ?_
  refine R.op1 (O.makeSlice (ke:=ty4) rfl inferInstance rfl rfl ⟨by omega,Int.le_refl _,by unfold most;omega⟩ (by decide) rfl (by decide)) rfl ?_
  refine R.gen' (fun G'=>G' (nx+6) = .row 4 1 ((List.replicate n false).map fun b => .imm (.bool b)) false/\G' 10 = .row 95 1 (done ++ .nils::List.replicate (n-(i+1)) .nils) false/\∀ o,o < nx->G' o=G o) ⟨?_,?_,?_⟩ ?_
  ·show upd G (nx+6) _ (nx+6)=_
   rw [upd_same,List.map_replicate];rfl
  ·show upd G (nx+6) _ 10=_
   rw [upd_ne _ _ _ _ (by omega)];exact hG
  ·intro o ho
   show upd G (nx+6) _ o=_
   rw [upd_ne _ _ _ _ (by omega)]
  rintro G' ⟨hGi,hG10,hfr⟩
  have hml:(done++AV.nils::List.replicate (n-(i+1)) .nils).length=n:=by simp;omega
  refine SS ?_
  refine R.opN1 (O.storeR (v := .row (nx+6) n) rfl rfl rfl rfl hG10 hml (mid_at hdl) rfl rfl) ?_
  refine R.gen' (fun G'=>G' (nx+6) = .row 4 1 ((List.replicate n false).map fun b => .imm (.bool b)) false/\G' 10 = .row 95 1 (done ++ .row (nx+6) n::List.replicate (n-(i+1)) .nils) false/\∀ o,o < nx->o≠10->G' o=G o) ⟨?_,?_,?_⟩ ?_
  ·rw [upd_ne _ _ _ _ (by omega)];exact hGi
  ·rw [upd_same,Int.toNat_natCast,mid_set hdl]
  ·intro o ho h10
   rw [upd_ne _ _ _ _ h10];exact hfr o ho
  clear hGi hG10 hfr hG G'
  rintro G' ⟨hGi,hG10,hfr⟩
  have hdone':All2 (Rdx 1 G' (fun o=>11<=o/\o < nx)) done (((List.range i).map (reachRow tos n)).map boolsIV):=hdone.imp fun _ _ h=>h.frame (fun o ho=>hfr o ho.2 (by omega)) fun _ h=>h
  clear hdone hfr
  obtain ⟨t,hx⟩:∃ t,tos[i]? = some t:=at_lt (by omega)
  have hxi:=at_map natsIV hx
  have hti:tos.getD i []=t:=by rw [List.getD_eq_getElem?_getD,hx];rfl
  have htl:=hgetl i
  have hinit:=Bfs.init (n:=n) (hgetl i) (hgetb i)
  rw [hti] at hinit htl
  have hmu:n-(i+1) < n-i:=by omega
  refine SS ?_
  refine R.appOwn (lo:=nx+7) (xs:=[]) (ys:=t.map natIV) rfl rfl rfl (.inl ⟨rfl,rfl⟩) rfl rfl (by decide) (by decide) rfl ?_ (by simp only [List.length_map,List.length_nil,most];omega) ⟨?_,?_⟩ rfl fun v' G'' ho' hfr'=>?_
  ·intro y hy
   obtain ⟨z,_,rfl⟩:=List.mem_map.1 hy
   rfl
  ·simp only [List.length_cons,List.length_nil];omega
  ·simp only [List.length_cons,List.length_nil];omega
  rw [List.nil_append] at ho'
  have hdone'':All2 (Rdx 1 G'' (fun o=>11<=o/\o < nx)) done (((List.range i).map (reachRow tos n)).map boolsIV):=hdone'.imp fun _ _ h=>h.frame (fun o ho=>hfr' o (by omega)) fun _ h=>h
  have hGi'':=hfr' (nx+6) (by omega)
  rw [hGi] at hGi''
  have hG10'':=hfr' 10 (by omega)
  rw [hG10] at hG10''
  clear hdone' hGi hG10 hfr' G'
  refine SS ?_
  have hdl:done.length=i:=hdl
  refine W.loop (X:=Nat×AV×List Bool×List Nat) (fun x=>[(3, .imm (.int .i64 n)),(4, .imm (.lst (tos.map natsIV))),(5, .row 10 n),(6, .imm (.int .i64 i)),(7,x.2.1),(8, .imm (.int .i64 x.1))])
   (fun x nx2 G=>nx+7<=nx2/\G 10 = .row 95 1 (done ++ .row (nx+6) n::List.replicate (n-(i+1)) .nils) false/\All2 (Rdx 1 G (fun o=>11<=o/\o < nx)) done (((List.range i).map (reachRow tos n)).map boolsIV) /\
    G (nx+6) = .row 4 1 (x.2.2.1.map fun b => .imm (.bool b)) false/\Own 3 1 (nx+7) nx2 (x.2.2.2.map natIV) G x.2.1/\Bfs tos n i x.1 x.2.2.1 x.2.2.2) (fun x=>1000*x.2.2.1.count false+x.2.2.2.length-x.1) (0,v',List.replicate n false,t)
   .auto ⟨?_,hG10'',hdone'',hGi'',ho'.up ?_,hinit⟩ ?_
  ·simp only [List.length_cons,List.length_nil];omega
  ·simp only [List.length_cons,List.length_nil];omega
  clear ho' hG10'' hdone'' hGi'' hinit hxi
  rintro ⟨k,tv,b,T⟩ nx2 G ⟨hnx2,hG10,hdone,hGi,hT,hb⟩
  dsimp only at hGi hT hb ⊢
  have hTl:(T.map natIV).length=T.length:=List.length_map ..
  refine SS ?_
  refine W.cond rfl (fun h2=>?_) (fun h2=>?_)
  ·have h2':k < T.length:=by have:=of_decide_eq_true h2;omega
   obtain ⟨x,hxk⟩:=at_lt h2'
   have hxn:=hb.bnd x (List.mem_of_getElem? hxk)
   obtain ⟨bx,hbx⟩:∃ bx,b[x]? = some bx:=at_lt (by rw [hb.len];exact hxn)
   rcases hT with ⟨hTn,_⟩|⟨ot,ho1,ho2,rfl,hGt⟩
   ·rw [hTn] at hTl;simp at hTl;omega
   have f1:(done++AV.row (nx+6) n::List.replicate (n-(i+1)) .nils)[(i:Int).toNat]? = some (.row (nx+6) n):=by rw [Int.toNat_natCast];exact mid_at hdl
   have f2:(done++AV.row (nx+6) n::List.replicate (n-(i+1)) .nils).length=n:=by simp;omega
   have f3:((T.map natIV).map AV.imm)[(k:Int).toNat]? = some (.imm (natIV x)):=by rw [Int.toNat_natCast,List.getElem?_map,List.getElem?_map,hxk];rfl
   have f4:((T.map natIV).map AV.imm).length=(T.map natIV).length:=List.length_map ..
   have f5:(b.map fun b=>AV.imm (.bool b))[(x:Int).toNat]? = some (.imm (.bool bx)):=by rw [Int.toNat_natCast,List.getElem?_map,hbx];rfl
   have f6:(b.map fun b=>AV.imm (.bool b)).length=n:=by rw [List.length_map];exact hb.len
   have hTb:T.length<=7000:=by have:=hb.size;omega
   cases bx with
   |true=>
    refine SS ?_
    refine W.skipLop (k+1, .row ot (T.map natIV).length,b,T) ?_ .auto ⟨by omega,hG10,hdone,hGi, .inr ⟨ot,ho1,by omega,rfl,hGt⟩,hb.skip hxk hbx⟩
    show 1000*b.count false+T.length-(k+1) < 1000*b.count false+T.length-k
    omega
   |false=>
    obtain ⟨t2,hx2⟩:∃ t2,tos[x]? = some t2:=at_lt (by omega)
    have hti2:tos.getD x []=t2:=by rw [List.getD_eq_getElem?_getD,hx2];rfl
    have f7:=at_map natsIV hx2
    have hstep:=hb.step hxk hbx (hgetl x) (hgetb x)
    have hmu2:=Bfs.mu hxk hbx (hgetl x)
    have hl2:=hgetl x
    rw [hti2] at hstep hmu2 hl2
    have hsz:=hb.size
    refine SS ?_
    refine D.opN1 (O.storeR (v := .imm (.bool true)) rfl rfl rfl rfl hGi f6 f5 rfl rfl) rfl ?_
    refine D.done (by kernel_rfl) ?_
    refine W.gen' (fun G'=>G' (nx+6) = .row 4 1 ((b.set x true).map fun b => .imm (.bool b)) false/\∀ o,o≠nx+6->G' o=G o) ⟨?_,?_⟩ ?_
    ·rw [upd_same,Int.toNat_natCast,List.map_set]
    ·intro o ho
     rw [upd_ne _ _ _ _ ho]
    rintro G' ⟨hGi',hfr⟩
    have hG10':=hfr 10 (by omega)
    rw [hG10] at hG10'
    have hGt':=hfr ot (by omega)
    rw [hGt] at hGt'
    have hdone':All2 (Rdx 1 G' (fun o=>11<=o/\o < nx)) done (((List.range i).map (reachRow tos n)).map boolsIV):=hdone.imp fun _ _ h=>h.frame (fun o ho=>hfr o (by omega)) fun _ h=>h
    clear hGi hG10 hGt hdone hfr
    refine SS ?_
    refine R.appOwn (lo:=nx+7) (xs:=T.map natIV) (ys:=t2.map natIV) rfl rfl rfl (.inr ⟨ot,ho1,by omega,rfl,hGt'⟩) rfl rfl (by decide) (by decide) rfl ?_ (by simp only [List.length_map,most];omega) ⟨?_,?_⟩ rfl fun v' G'' ho' hfr'=>?_
    ·intro y hy
     obtain ⟨z,_,rfl⟩:=List.mem_map.1 hy
     rfl
    ·simp only [List.length_cons,List.length_nil];omega
    ·simp only [List.length_cons,List.length_nil];omega
    have g1:=hfr' (nx+6) (by omega)
    rw [hGi'] at g1
    have g2:=hfr' 10 (by omega)
    rw [hG10'] at g2
    have g3:All2 (Rdx 1 G'' (fun o=>11<=o/\o < nx)) done (((List.range i).map (reachRow tos n)).map boolsIV):=hdone'.imp fun _ _ h=>h.frame (fun o ho=>hfr' o (by omega)) fun _ h=>h
    refine SS ?_
    refine W.skipLop (k+1,v',b.set x true,T++t2) hmu2 .auto ⟨?_,g2,g3,g1,?_,hstep⟩
    ·simp only [List.length_cons,List.length_nil];omega
    ·show Own 3 1 (nx+7) _ ((T++t2).map natIV) _ v'
     rw [List.map_append]
     exact ho'.up (by omega)
  ·have h2':T.length<=k:=by have:=of_decide_eq_false h2;omega
   have hfin:=hb.fin h2'
   refine SS ?_
   refine W.skipLop (i+1) hmu .auto ⟨by omega,h1',done++[.row (nx+6) n],?_,?_⟩
   ·rw [List.append_assoc];exact hG10
   ·rw [List.range_succ,List.map_append,List.map_append]
    refine (hdone.imp fun _ _ h=>h.frame (fun _ _=>rfl) fun o ho=>⟨ho.1,by omega⟩).append ⟨?_,trivial⟩
    rw [hfin] at hGi
    refine .row hGi (by simp [reachRow]) ?_ ⟨by omega,by omega⟩
    have:=All2.imms 0 G (fun _=>False) ((reachRow tos n i).map .bool)
    rw [List.map_map] at this
    exact this.imp fun _ _ h=>h.frame (fun _ _=>rfl) fun o ho=>ho.elim
 ·have h1':n<=i:=by have:=of_decide_eq_false h1;omega
  obtain rfl:i=n:=by omega
  rw [Nat.sub_self,List.replicate_zero,List.append_nil] at hG
  refine SS ?_
  refine W.retFin1 rfl ?_
  exact (Rdx.row (P:=fun _=>True) hG hdl (hdone.imp fun _ _ h=>h.frame (fun _ _=>rfl) fun _ _=>trivial) trivial).peek (by decide)
end Go.Abs

/- The reference: the rings of a program. -/
open Go Go.Abs
namespace Go.Abs
set_option maxRecDepth 100000
set_option maxHeartbeats 4000000
instance fnis55:FnIs CC 43:=⟨rfl,fun _=>rfl⟩
def at2 (m:List (List Bool)) (i j:Nat):Bool:=(m.getD i []).getD j false
def inRing (m:List (List Bool)) (i k:Nat):Bool:=k==i||(at2 m i k&&at2 m k i)
def ringTo (m:List (List Bool)) (i k:Nat):List Nat:=(List.range k).filter (inRing m i)
def ringIs (m:List (List Bool)) (i:Nat):Bool:=at2 m i i&&(ringTo m i m.length).head? == some i
def ringsTo (m:List (List Bool)) (i:Nat):List (List Nat):=((List.range i).filter (ringIs m)).map fun i=>ringTo m i m.length
def ringsR (m:List (List Bool)):List (List Nat):=ringsTo m m.length
theorem ringTo_succ (m:List (List Bool)) (i k:Nat):ringTo m i (k+1)=ringTo m i k++(if inRing m i k then [k] else []):=by
 unfold ringTo
 rw [List.range_succ,List.filter_append]
 congr 1
 simp only [List.filter_cons,List.filter_nil]
theorem ringsTo_succ (m:List (List Bool)) (i:Nat):ringsTo m (i+1)=ringsTo m i++(if ringIs m i then [ringTo m i m.length] else []):=by
 unfold ringsTo
 rw [List.range_succ,List.filter_append,List.map_append]
 congr 1
 simp only [List.filter_cons,List.filter_nil]
 split<;>rfl
theorem beq_cast (k i:Nat):((k:Int)==(i:Int))=(k==i):=by
 rw [Bool.eq_iff_iff];simp only [beq_iff_eq];omega
theorem ringTo_len (m:List (List Bool)) (i k:Nat):(ringTo m i k).length<=k:=by
 unfold ringTo
 have:=List.length_filter_le (inRing m i) (List.range k)
 simpa using this
theorem ringsTo_len (m:List (List Bool)) (i:Nat):(ringsTo m i).length<=i:=by
 unfold ringsTo
 have:=List.length_filter_le (ringIs m) (List.range i)
 simpa using this
theorem ringTo_ne (m:List (List Bool)) (i k:Nat) (h:i < k):ringTo m i k≠[]:=by
 intro he
 have:i∈ringTo m i k:=by unfold ringTo;rw [List.mem_filter];exact ⟨List.mem_range.2 h,by unfold inRing;simp⟩
 rw [he] at this;cases this
theorem ret55 (p:Pgm) (m:List (List Bool)) (hr53:Ret CC 45 [p.iv] (.lst (m.map boolsIV))) (hm:∀ row∈m,row.length=m.length) (h6:m.length<=6):Ret CC 43 [p.iv] (.lst ((ringsR m).map natsIV)):=by
 obtain ⟨srcs,defs⟩:=p
 have hml:(m.map boolsIV).length=m.length:=List.length_map ..
 have cell:∀ i j,i < m.length->j < m.length->∃ row,(m.map boolsIV)[(i:Int).toNat]? = some (boolsIV row)/\(row.map IV.bool)[(j:Int).toNat]? = some (.bool (at2 m i j)):=by
  intro i j hi hj
  obtain ⟨row,hr⟩:=at_lt hi
  refine ⟨row,at_map boolsIV hr,?_⟩
  have hl:=hm row (List.mem_of_getElem? hr)
  obtain ⟨b,hb⟩:∃ b,row[j]? = some b:=at_lt (by omega)
  have:at2 m i j=b:=by unfold at2;rw [List.getD_eq_getElem?_getD,List.getD_eq_getElem?_getD,hr];simp [hb]
  rw [this]
  exact at_map IV.bool hb
 refine Ret.of (fn:=Go.Proofs.Try.f43) (by kernel_rfl) rfl rfl ?_
 refine W.seq (W.region ?_)
 refine R.op1 (O.boxS (cs:=[.imm (.lst (srcs.map sv)), .imm (.lst (defs.map Dfn.iv))]) rfl rfl rfl) rfl ?_
 refine SS ?_
 refine W.loop (X:=Nat×AV) (fun x=>[(3, .imm (.lst (m.map boolsIV))),(5, .imm (.int .i64 x.1)),(4,x.2)])
  (fun x nx G=>x.1<=m.length/\1<=nx/\OwnV 1 26 1 1 nx ((ringsTo m x.1).map natsIV) G x.2) (fun x=>m.length-x.1) (0, .nils)
  .auto ⟨Nat.zero_le _,by simp, .inl ⟨rfl,rfl⟩⟩ ?_
 rintro ⟨i,v⟩ hi0 G ⟨hi,hnx,ho⟩
 dsimp only at hi ho ⊢
 refine SS ?_
 refine W.cond rfl (fun h1=>?_) (fun h1=>?_)
 ·have h1':i < m.length:=by have:=of_decide_eq_true h1;omega
  have hmu:m.length-(i+1) < m.length-i:=by omega
  obtain ⟨rowi,ci1,ci2⟩:=cell i i h1' h1'
  have hsucc:=ringsTo_succ m i
  cases hii:at2 m i i with
  |false=>
   rw [hii] at ci2
   rw [show ringIs m i=false by unfold ringIs;rw [hii];rfl,if_neg (by decide),List.append_nil] at hsucc
   refine SS ?_
   refine W.skipLop (i+1,v) hmu .auto ⟨h1',by omega,?_⟩
   show OwnV 1 26 1 1 _ ((ringsTo m (i+1)).map natsIV) _ v
   rw [hsucc]
   exact ho.frame (by omega) fun _ _ _=>rfl
  |true=>
   rw [hii] at ci2
   refine SS ?_
   refine W.loop (X:=Nat×AV) (fun x=>[(3, .imm (.lst (m.map boolsIV))),(5, .imm (.int .i64 i)),(4,v),(7, .imm (.int .i64 x.1)),(6,x.2)])
    (fun x nx G=>OwnV 1 26 1 1 hi0 ((ringsTo m i).map natsIV) G v/\x.1<=m.length/\hi0<=nx/\Own 3 1 hi0 nx ((ringTo m i x.1).map natIV) G x.2) (fun x=>m.length-x.1) (0, .nils)
    .auto ⟨ho,Nat.zero_le _,by omega, .inl ⟨rfl,rfl⟩⟩ ?_
   clear ho
   rintro ⟨k,t⟩ nx G ⟨ho,hk,hnx2,ht⟩
   dsimp only at hk ht ⊢
   refine SS ?_
   refine W.cond rfl (fun h2=>?_) (fun h2=>?_)
   ·have h2':k < m.length:=by have:=of_decide_eq_true h2;omega
    obtain ⟨rowik,a1,a2⟩:=cell i k h1' h2'
    obtain ⟨rowk,b1,b2⟩:=cell k i h2' h1'
    have hst:=ringTo_succ m i k
    have hmu2:m.length-(k+1) < m.length-k:=by omega
    have hlen:=ringTo_len m i k
    have hin:inRing m i k=((k:Int)==(i:Int)||(at2 m i k&&at2 m k i)):=by unfold inRing;rw [beq_cast]
    generalize at2 m i k=x at a2 hin
    generalize at2 m k i=y at b2 hin
    have hcase:(((k:Int)==(i:Int))=true\/(((k:Int)==(i:Int))=false/\x=true/\y=true))\/((((k:Int)==(i:Int))=false/\x=false)\/(((k:Int)==(i:Int))=false/\x=true/\y=false)):=by
     cases ((k:Int)==(i:Int))<;>cases x<;>cases y<;>simp
    rcases hcase with hyes|hno
    ·have hy:inRing m i k=true:=by rw [hin];rcases hyes with h|⟨h,rfl,rfl⟩<;>rw [h]<;>rfl
     rw [hy,if_pos rfl] at hst
     rcases hyes with hA|⟨hA,rfl,rfl⟩
     iterate 2
      ·refine SS ?_
       refine R.op1 (O.buildS (n:=1) (ke:=ty3) (xs:=[.imm (.int .i64 k)]) rfl rfl rfl (by decide) rfl rfl (by decide)) rfl ?_
       refine R.appOwn (lo:=hi0) (ys:=[natIV k]) rfl rfl rfl (ht.upd (by omega) (by omega)) rfl (by simp [elems,upd];rfl) (by decide) (by decide) rfl (by simp [natIV];rfl) (by simp only [List.length_map,List.length_cons,List.length_nil,most];omega) ⟨by omega,by simp only [List.length_cons,List.length_nil];omega⟩ rfl fun v' G' ho' hG'=>?_
       have hfr:∀ o,o < hi0->G' o=G o:=fun o h=>by rw [hG' o h,upd_ne _ _ _ _ (by omega)]
       refine SS ?_
       refine W.skipLop (k+1,v') hmu2 .auto ⟨ho.frame (Nat.le_refl _) fun o _ h=>hfr o h,h2',by omega,?_⟩
       show Own 3 1 hi0 _ ((ringTo m i (k+1)).map natIV) G' v'
       rw [hst,List.map_append]
       exact ho'.up (by omega)
    ·have hy:inRing m i k=false:=by rw [hin];rcases hno with ⟨h,rfl⟩|⟨h,rfl,rfl⟩<;>rw [h]<;>rfl
     rw [hy,if_neg (by decide),List.append_nil] at hst
     rcases hno with ⟨hA,rfl⟩|⟨hA,rfl,rfl⟩
     iterate 2
      ·refine SS ?_
       refine W.skipLop (k+1,t) hmu2 .auto ⟨ho,h2',by omega,?_⟩
       show Own 3 1 hi0 _ ((ringTo m i (k+1)).map natIV) _ t
       rw [hst]
       exact ht.up (by omega)
   ·have h2':k=m.length:=by have:=of_decide_eq_false h2;omega
    subst h2'
    have hne:=ringTo_ne m i m.length h1'
    have hlen:=ringTo_len m i m.length
    have hlen2:=ringsTo_len m i
    have hfit:=ht.fits1
    have hrdx:=ht.rdx
    generalize hring:ringTo m i m.length=ring at *
    obtain ⟨x,rest,rfl⟩:∃ x rest,ring=x::rest:=by cases ring with
     |nil=>exact (hne rfl).elim
     |cons x rest=>exact ⟨x,rest,rfl⟩
    rcases ht with ⟨hTn,_⟩|⟨ot,ho1,ho2,rfl,hGt⟩
    ·cases hTn
    have f3:(((x::rest).map natIV).map AV.imm)[(0:Int).toNat]? = some (.imm (natIV x)):=rfl
    have f4:(((x::rest).map natIV).map AV.imm).length=((x::rest).map natIV).length:=List.length_map ..
    have f5:((x::rest).map natIV).length=rest.length+1:=by simp
    have his:ringIs m i=((x:Int)==(i:Int)):=by
     unfold ringIs
     rw [hii,hring,beq_cast]
     simp
    rw [his] at hsucc
    rcases Bool.eq_false_or_eq_true ((x:Int)==(i:Int)) with hA|hA
    ·rw [hA,if_pos rfl] at hsucc
     refine SS ?_
     refine R.op1 (O.buildS (n:=1) (ke:=ty30) (xs:=[.row ot ((x::rest).map natIV).length]) rfl rfl rfl (by decide) rfl rfl (by decide)) rfl ?_
     refine R.appOwnV (d':=1) (lo:=1) (hi:=hi0) (ws:=[.row ot ((x::rest).map natIV).length]) (ys:=[natsIV (x::rest)]) rfl rfl rfl (ho.frame (Nat.le_refl _) fun o _ h=>upd_ne _ _ _ _ (by omega)) rfl (by simp [elems,upd]) (by decide) (by decide) rfl rfl (by simp only [List.length_map,List.length_cons,List.length_nil,most];omega) ⟨by omega,by omega⟩ (fun G' h1 h2=>⟨?_,trivial⟩) rfl fun v' G' ho' hG1 hG2=>?_
     ·exact hrdx.frame (fun o ho=>by rw [h2 o ho.1 (by omega),upd_ne _ _ _ _ (by omega)]) fun o ho=>⟨ho.1,by omega⟩
     ·refine SS ?_
      refine W.skipLop (i+1,v') hmu .auto ⟨h1',by omega,?_⟩
      show OwnV 1 26 1 1 _ ((ringsTo m (i+1)).map natsIV) G' v'
      rw [hsucc,List.map_append]
      exact ho'.frame (by simp only [List.length_cons,List.length_nil];omega) fun _ _ _=>rfl
    ·rw [hA,if_neg (by decide),List.append_nil] at hsucc
     refine SS ?_
     refine W.skipLop (i+1,v) hmu .auto ⟨h1',by omega,?_⟩
     show OwnV 1 26 1 1 _ ((ringsTo m (i+1)).map natsIV) _ v
     rw [hsucc]
     exact ho.frame (by omega) fun _ _ _=>rfl
 ·have h1':i=m.length:=by have:=of_decide_eq_false h1;omega
  subst h1'
  refine SS ?_
  refine W.retFin1 rfl ?_
  exact ho.rdx.peek (by decide)
end Go.Abs

/- What is known of programs that have a number of nodes. (No program in sight.) -/
open Go Go.Abs
namespace Go.Abs
set_option maxRecDepth 100000
mutual
theorem expR_ok (srcs defs:List Str) (ahead:Nat):∀ (e:Exp) (depth left:Int),0<=expR srcs defs ahead e depth left->((allE e).length:Int)<=expR srcs defs ahead e depth left/\∀ x∈allE e,namesDef x=true->x.name∈defs
 | .mk op name n fold calcs kids,depth,left,h=>by
  rw [expR] at h ⊢
  rw [allE]
  cases hs:shapeR op with
  |none=>rw [hs] at h;simp at h
  |some s=>
   rw [hs] at h
   dsimp only at h ⊢
   split at h
   ·omega
   ·rename_i hdl
    rw [if_neg hdl]
    split at h
    ·rename_i hh
     rw [if_pos hh]
     split at h
     ·omega
     ·rename_i hc
      rw [if_neg hc]
      have h1:=calcRs_le calcs (Go.Abs.other op) 0 left 1 (by omega) (by omega)
      obtain ⟨a,b⟩:=expRs_ok srcs defs ahead kids depth left _ (by omega) h
      refine ⟨by simp only [List.length_cons];omega,fun x hx hn=>?_⟩
      rcases List.mem_cons.1 hx with rfl|hx
      ·have hni:nameIs srcs defs ahead op name=true:=by
        unfold headIs at hh
        simp only [Bool.and_eq_true] at hh
        exact hh.2
       unfold nameIs at hni
       unfold namesDef at hn
       simp only [Exp.op,Bool.or_eq_true,beq_iff_eq] at hn
       rcases hn with rfl|rfl
       ·simp at hni
        exact List.mem_of_mem_take hni
       ·simp at hni
        exact hni
      ·exact b x hx hn
    ·omega
theorem expRs_ok (srcs defs:List Str) (ahead:Nat):∀ (l:List Exp) (depth left n:Int),0<=n->0<=expRs srcs defs ahead l depth left n->((allEs l).length:Int)+n<=expRs srcs defs ahead l depth left n/\∀ x∈allEs l,namesDef x=true->x.name∈defs
 |[],_,_,n,h0,h=>by rw [expRs,allEs];exact ⟨by simp,fun x hx=>by cases hx⟩
 |k::r,depth,left,n,h0,h=>by
  rw [expRs] at h ⊢
  rw [allEs]
  split at h
  ·omega
  ·rename_i hk
   rw [if_neg hk]
   obtain ⟨a,b⟩:=expR_ok srcs defs ahead k (depth+1) (left-n) (by omega)
   obtain ⟨c,d⟩:=expRs_ok srcs defs ahead r depth left _ (by omega) h
   refine ⟨by simp only [List.length_append];omega,fun x hx hn=>?_⟩
   rcases List.mem_append.1 hx with hx|hx
   ·exact b x hx hn
   ·exact d x hx hn
end
theorem countL_ok (srcs names:List Str):∀ (ds:List Dfn) (i:Nat) (n:Int),0<=n/\n<=60->0<=countL srcs names ds i n->(countL srcs names ds i n<=60)/\∀ d∈ds,(allE d.exp).length<=60/\∀ x∈allE d.exp,namesDef x=true->x.name∈names
 |[],_,n,hn,h=>by rw [countL];exact ⟨hn.2,fun d hd=>by cases hd⟩
 |d::r,i,n,hn,h=>by
  rw [countL] at h ⊢
  split at h
  ·omega
  ·rename_i hk
   rw [if_neg hk]
   have hle:=expR_le srcs names i d.exp 1 (60-n)
   obtain ⟨a,b⟩:=expR_ok srcs names i d.exp 1 (60-n) (by omega)
   obtain ⟨c,e⟩:=countL_ok srcs names r (i+1) _ (by omega) h
   refine ⟨c,fun x hx=>?_⟩
   rcases List.mem_cons.1 hx with rfl|hx
   ·exact ⟨by omega,b⟩
   ·exact e x hx
structure Pgm.Good (p:Pgm):Prop where
 defs:p.defs.length<=6
 srcs:p.srcs.length<=4
 size:∀ d∈p.defs,(allE d.exp).length<=60
 names:∀ d∈p.defs,∀ x∈allE d.exp,namesDef x=true->x.name∈defNames p
theorem countR_good {p:Pgm} (h:0<=countR p):p.Good:=by
 unfold countR at h
 split at h
 ·omega
 ·rename_i h0
  split at h
  ·obtain ⟨_,b⟩:=countL_ok p.srcs (defNames p) p.defs 0 0 (by omega) h
   exact ⟨by omega,by omega,fun d hd=>(b d hd).1,fun d hd=>(b d hd).2⟩
  ·omega
theorem idxFrom_mem {s:Str}:∀ {l:List Str} {k:Nat},s∈l->∃ n:Nat,idxFrom l s k=(n:Int)/\k<=n/\n < k+l.length
 |x::r,k,h=>by
  unfold idxFrom
  by_cases hx:(x==s)=true
  ·rw [if_pos hx];exact ⟨k,rfl,Nat.le_refl _,by simp⟩
  ·rw [if_neg hx]
   have hne:s≠x:=fun e=>hx (by rw [e];simp)
   obtain ⟨n,a,b,c⟩:=idxFrom_mem (l:=r) (k:=k+1) (by rcases List.mem_cons.1 h with h|h;exact absurd h hne;exact h)
   exact ⟨n,a,by omega,by simp only [List.length_cons];omega⟩
def tosR (p:Pgm):List (List Nat):=(stepsR p).map fun t=>t.map Int.toNat
theorem Pgm.Good.steps {p:Pgm} (h:p.Good):stepsR p=(tosR p).map (fun t=>t.map Int.ofNat)/\(tosR p).length=p.defs.length/\(∀ t∈tosR p,t.length<=60)/\∀ t∈tosR p,∀ x∈t,x < (tosR p).length:=by
 have hl:(tosR p).length=p.defs.length:=by simp [tosR,stepsR]
 have hnl:(defNames p).length=p.defs.length:=by have:=h.defs;simp [defNames];omega
 refine ⟨?_,hl,?_,?_⟩
 ·unfold tosR
  rw [List.map_map]
  conv=>lhs;rw [<-List.map_id (stepsR p)]
  apply List.map_congr_left
  intro t ht
  simp only [id,Function.comp,List.map_map]
  conv=>lhs;rw [<-List.map_id t]
  apply List.map_congr_left
  intro x hx
  simp only [stepsR,List.mem_map] at ht
  obtain ⟨d,hd,rfl⟩:=ht
  simp only [stepsL,List.mem_map,List.mem_filter] at hx
  obtain ⟨y,⟨hy,hn⟩,rfl⟩:=hx
  obtain ⟨n,hn',_⟩:=idxFrom_mem (k:=0) (h.names d hd y hy hn)
  have hn':idxFrom (defNames p) y.name 0=(n:Int):=hn'
  rw [hn'];rfl
 ·intro t ht
  simp only [tosR,stepsR,List.map_map,List.mem_map] at ht
  obtain ⟨d,hd,rfl⟩:=ht
  have:=stepsL_len (defNames p) (allE d.exp)
  have:=h.size d hd
  simp only [Function.comp,List.length_map]
  omega
 ·intro t ht x hx
  simp only [tosR,stepsR,List.map_map,List.mem_map] at ht
  obtain ⟨d,hd,rfl⟩:=ht
  simp only [Function.comp,stepsL,List.mem_map,List.mem_filter] at hx
  obtain ⟨z,⟨y,⟨hy,hn⟩,rfl⟩,rfl⟩:=hx
  obtain ⟨n,hn',_,hlt⟩:=idxFrom_mem (k:=0) (h.names d hd y hy hn)
  have hn':idxFrom (defNames p) y.name 0=(n:Int):=hn'
  rw [hn',hl]
  show n < _
  omega
end Go.Abs

/- The reference: which programs are formed, and how many nodes they have. -/
open Go Go.Abs
namespace Go.Abs
set_option maxRecDepth 100000
set_option maxHeartbeats 4000000
instance fnis36:FnIs CC 16:=⟨rfl,fun _=>rfl⟩
def foreAt (defs:List Dfn) (k:Nat):Bool:=match defs[k]? with
 |some d=>aheadE d.exp
 |none=>false
noncomputable def ringsOf (p:Pgm):List (List Nat):=ringsR (reachR (tosR p))
noncomputable def progR (p:Pgm):Bool:=if countR p < 0 then false else (ringsOf p).all fun ring=>ring.all fun k => !foreAt p.defs k
theorem reachR_len (tos:List (List Nat)):(reachR tos).length=tos.length:=by simp [reachR]
theorem reachR_row {tos:List (List Nat)}:∀ row∈reachR tos,row.length=(reachR tos).length:=by
 intro row hr
 simp only [reachR,List.mem_map] at hr
 obtain ⟨i,_,rfl⟩:=hr
 simp [reachRow,reachR]
theorem ringsTo_lt {m:List (List Bool)} {i:Nat}:∀ r∈ringsTo m i,∀ k∈r,k < m.length:=by
 intro r hr k hk
 simp only [ringsTo,List.mem_map] at hr
 obtain ⟨i,_,rfl⟩:=hr
 simp only [ringTo,List.mem_filter,List.mem_range] at hk
 exact hk.1
theorem Pgm.Good.ret53 {p:Pgm} (h:p.Good) (hp:p.Fits):Ret CC 45 [p.iv] (.lst ((reachR (tosR p)).map boolsIV)):=by
 obtain ⟨h1,h2,h3,h4⟩:=h.steps
 exact Go.Abs.ret53 p hp h.defs (fun d hd=>by have:=h.size d hd;omega) (tosR p) h1 (fun t ht=>by have:=h3 t ht;omega) h4
theorem Pgm.Good.ret55 {p:Pgm} (h:p.Good) (hp:p.Fits):Ret CC 43 [p.iv] (.lst ((ringsOf p).map natsIV)):=
 Go.Abs.ret55 p _ (h.ret53 hp) reachR_row (by rw [reachR_len,h.steps.2.1];exact h.defs)
theorem Pgm.Good.rings_lt {p:Pgm} (h:p.Good):∀ r∈ringsOf p,∀ k∈r,k < p.defs.length:=by
 intro r hr k hk
 have:=ringsTo_lt r hr k hk
 rwa [reachR_len,h.steps.2.1] at this
theorem ringsOf_len {p:Pgm} (h:p.Good):(ringsOf p).length<=6:=by
 have:=ringsTo_len (reachR (tosR p)) (reachR (tosR p)).length
 unfold ringsOf ringsR
 rw [reachR_len,h.steps.2.1] at this ⊢
 have:=h.defs
 omega
theorem ringsOf_le {p:Pgm} (h:p.Good):∀ r∈ringsOf p,r.length<=6:=by
 intro r hr
 simp only [ringsOf,ringsR,ringsTo,List.mem_map] at hr
 obtain ⟨i,_,rfl⟩:=hr
 have:=ringTo_len (reachR (tosR p)) i (reachR (tosR p)).length
 rw [reachR_len,h.steps.2.1] at this ⊢
 have:=h.defs
 omega
theorem all_take {α:Type} {p:α->Bool} {l:List α} {i:Nat} {x:α} (h:l[i]? = some x) (hi:(l.take i).all p=true) (hx:p x=true):(l.take (i+1)).all p=true:=by
 rw [List.take_add_one,h,List.all_append,hi];simp [hx]
theorem all_of_take {α:Type} {p:α->Bool} {l:List α} {i:Nat} (h:l.length<=i) (hi:(l.take i).all p=true):l.all p=true:=by
 rw [List.take_of_length_le h] at hi;exact hi
theorem all_not {α:Type} {p:α->Bool} {l:List α} {i:Nat} {x:α} (h:l[i]? = some x) (hx:p x=false):l.all p=false:=
 List.all_eq_false.2 ⟨x,List.mem_of_getElem? h,by rw [hx];decide⟩
theorem ret36 (p:Pgm) (hp:p.Fits):Ret CC 16 [p.iv] (.bool (progR p)):=by
 have hr65:=ret65 p hp
 by_cases hc:0<=countR p
 ·have hg:=countR_good hc
  have hr55:=hg.ret55 hp
  have hlt:=hg.rings_lt
  have hrl:=ringsOf_len hg
  have hre:=ringsOf_le hg
  have hsz:=hg.size
  have hpr:progR p=(ringsOf p).all fun ring=>ring.all fun k => !foreAt p.defs k:=by unfold progR;rw [if_neg (by omega)]
  rw [hpr]
  clear hpr
  generalize ringsOf p=rings at *
  have hd6:=hg.defs
  obtain ⟨srcs,defs⟩:=p
  simp only at hlt hsz hd6 ⊢
  have hdm:(defs.map Dfn.iv).length=defs.length:=List.length_map ..
  have hrm:(rings.map natsIV).length=rings.length:=List.length_map ..
  have hneg:decide (countR ⟨srcs,defs⟩ < 0)=false:=by simp;omega
  refine Ret.of (fn:=Go.Proofs.Try.f16) (by kernel_rfl) rfl rfl ?_
  refine W.seq (W.region ?_)
  refine R.op1 (O.boxS (cs:=[.imm (.lst (srcs.map sv)), .imm (.lst (defs.map Dfn.iv))]) rfl rfl rfl) rfl ?_
  refine SS ?_
  refine W.loop (X:=Nat) (fun i=>[(1, .ptr 0 0),(3, .imm (.lst (rings.map natsIV))),(4, .imm (.int .i64 i))])
   (fun i nx G=>G 0 = .box [.imm (.lst (srcs.map sv)), .imm (.lst (defs.map Dfn.iv))] false/\i<=rings.length/\(rings.take i).all (fun ring=>ring.all fun k => !foreAt defs k)=true) (fun i=>rings.length-i) 0
   .auto ⟨rfl,Nat.zero_le _,rfl⟩ ?_
  rintro i nx G ⟨hG,hi,ha⟩
  refine SS ?_
  refine W.cond rfl (fun h1=>?_) (fun h1=>?_)
  ·have h1':i < rings.length:=by have:=of_decide_eq_true h1;omega
   have hmu:rings.length-(i+1) < rings.length-i:=by omega
   obtain ⟨ring,hx⟩:=at_lt h1'
   have hxi:=at_map natsIV hx
   have hmem:=List.mem_of_getElem? hx
   have hrg:(ring.map natIV).length=ring.length:=List.length_map ..
   have hr6:=hre ring hmem
   refine SS ?_
   refine W.loop (X:=Nat) (fun j=>[(1, .ptr 0 0),(3, .imm (.lst (rings.map natsIV))),(4, .imm (.int .i64 i)),(5, .imm (.int .i64 j))])
    (fun j nx G=>G 0 = .box [.imm (.lst (srcs.map sv)), .imm (.lst (defs.map Dfn.iv))] false/\j<=ring.length/\(ring.take j).all (fun k => !foreAt defs k)=true) (fun j=>ring.length-j) 0
    .auto ⟨hG,Nat.zero_le _,rfl⟩ ?_
   clear hG
   rintro j nx G ⟨hG,hj,hb⟩
   refine SS ?_
   refine W.cond rfl (fun h2=>?_) (fun h2=>?_)
   ·have h2':j < ring.length:=by have:=of_decide_eq_true h2;omega
    have hmu2:ring.length-(j+1) < ring.length-j:=by omega
    obtain ⟨k,hk⟩:=at_lt h2'
    have hki:=at_map natIV hk
    have hkn:=hlt ring hmem k (List.mem_of_getElem? hk)
    obtain ⟨d,hd⟩:=at_lt hkn
    have hdi:=at_map Dfn.iv hd
    have hdc:=d.cells_len
    have hdm:=List.mem_of_getElem? hd
    have hr68:=ret68 (hp.exp d hdm) (by have:=hsz d hdm;omega)
    have hfa:foreAt defs k=aheadE d.exp:=by unfold foreAt;rw [hd]
    have yes:=fun h=>all_not (p:=fun k => !foreAt defs k) hk h
    have no:=fun h=>all_take (p:=fun k => !foreAt defs k) hk hb h
    have yes2:=fun h=>all_not (p:=fun ring=>ring.all fun k => !foreAt defs k) hx h
    rw [hfa] at yes no
    obtain ⟨nm,⟨o',s',n',f',c',k'⟩⟩:=d
    simp only at hr68 yes no
    generalize aheadE (.mk o' s' n' f' c' k')=b at hr68 yes no
    cases b with
    |true=>
     refine SS ?_
     exact W.retFin1 rfl ⟨[],by rw [yes2 (yes rfl)];rfl⟩
    |false=>
     refine SS ?_
     exact W.skipLop (j+1) hmu2 .auto ⟨hG,h2',no rfl⟩
   ·have h2':ring.length<=j:=by have:=of_decide_eq_false h2;omega
    have hall:=all_of_take h2' hb
    refine SS ?_
    exact W.skipLop (i+1) hmu .auto ⟨hG,h1',all_take hx ha hall⟩
  ·have h1':rings.length<=i:=by have:=of_decide_eq_false h1;omega
   have hall:=all_of_take h1' ha
   refine SS ?_
   exact W.retFin1 rfl ⟨[],by rw [hall];rfl⟩
 ·have hpr:progR p=false:=by unfold progR;rw [if_pos (by omega)]
  rw [hpr]
  have hneg:decide (countR p < 0)=true:=by simp;omega
  obtain ⟨srcs,defs⟩:=p
  refine Ret.of (fn:=Go.Proofs.Try.f16) (by kernel_rfl) rfl rfl ?_
  refine W.seq (W.region ?_)
  refine R.op1 (O.boxS (cs:=[.imm (.lst (srcs.map sv)), .imm (.lst (defs.map Dfn.iv))]) rfl rfl rfl) rfl ?_
  refine SS ?_
  exact W.retFin1 rfl ⟨[],rfl⟩
end Go.Abs

/- One step of the logic after the other, as far as it goes, with memory. -/
open Go Go.Abs
namespace Go.Abs
set_option maxRecDepth 100000
theorem AB {P Q:Prop} (k:Q) (h:Hold Q->P:=by
 intro k
 (repeat (first|(apply R.op0;(first|exact O.move rfl|exact O.assign rfl|exact O.fieldP rfl rfl rfl rfl|exact O.loadP rfl rfl rfl (by first|exact rfl|with_reducible assumption|assumption|exact at_upd) rfl|exact O.cmp rfl rfl rfl|exact O.int rfl rfl (add64 (by omega))|exact O.int rfl rfl (sub64 (by omega))|exact O.int rfl rfl (add8 (by omega))|exact O.pickT rfl (by first|with_reducible rfl|with_reducible assumption|decide) rfl|exact O.pickF rfl (by first|with_reducible rfl|with_reducible assumption|decide) rfl|exact O.lenL rfl rfl|exact O.lenSv rfl rfl|exact O.lenS rfl rfl|exact O.not rfl|exact O.svEq rfl rfl|exact O.svNe rfl rfl|exact O.str rfl rfl rfl|exact O.boolEq rfl rfl rfl|exact O.boolNe rfl rfl rfl|exact O.fieldE rfl rfl rfl rfl|exact O.fieldR rfl rfl rfl rfl|exact O.loadPA rfl rfl (by first|exact rfl|with_reducible assumption|assumption|exact at_upd) rfl rfl|exact O.extr rfl rfl|exact O.nilP rfl|exact O.nilF rfl|exact O.extrT rfl rfl|exact O.makeFunc rfl rfl rfl|exact O.fieldF rfl rfl rfl rfl|exact O.loadF rfl rfl rfl rfl|exact O.loadFA rfl rfl rfl|exact O.ptrEq rfl rfl rfl rfl|exact O.ptrNe rfl rfl rfl rfl|exact O.max rfl rfl|(apply O.addrX;exact rfl;infer_instance;exact rfl;exact rfl;omega;(first|with_reducible assumption|assumption);(first|exact rfl|assumption))|(apply O.load1;exact rfl;(first|with_reducible assumption|assumption);exact rfl;exact rfl;exact rfl)|(apply O.loadE;exact rfl;exact rfl;exact rfl;(first|with_reducible assumption|assumption);exact rfl)|(apply O.loadEA;exact rfl;exact rfl;(first|with_reducible assumption|assumption);exact rfl)|(apply O.call;exact rfl;exact rfl;(first|with_reducible assumption|assumption))|(apply O.addrRX;exact rfl;infer_instance;exact rfl;exact rfl;(first|with_reducible assumption|assumption);(first|exact rfl|assumption);omega;exact rfl)|(apply O.loadRX;exact rfl;(first|with_reducible assumption|assumption);(first|exact rfl|assumption);(first|with_reducible assumption|assumption);exact rfl;exact rfl;exact rfl)|(apply O.lenO;exact rfl;exact rfl;(first|with_reducible assumption|assumption))|(apply O.build;exact rfl;exact rfl;exact rfl;exact rfl)|(apply O.callV;exact rfl;infer_instance;exact rfl;exact rfl;(first|with_reducible assumption|assumption))|(apply O.lookA;exact rfl;infer_instance;infer_instance;exact rfl;exact rfl;exact rfl;(first|with_reducible assumption|assumption)));exact rfl)|(apply R.op1;(first|exact O.boxS rfl rfl rfl|exact O.alloc rfl rfl|exact O.makeMap|(apply O.buildX;exact rfl;infer_instance;exact rfl;exact rfl;decide;exact rfl;exact rfl;decide));exact rfl)|(apply R.opN1;(first|(apply O.storeP;exact rfl;exact rfl;exact rfl;(first|exact rfl|with_reducible assumption|assumption|exact at_upd);exact rfl;exact rfl)|(apply O.storeP1;exact rfl;exact rfl;exact rfl;assumption;assumption;(first|exact rfl|with_reducible assumption|assumption|exact at_upd);exact rfl;exact rfl)))|(apply R.guardT1;exact rfl;exact rfl;(first|with_reducible rfl|with_reducible assumption|decide))|(apply R.guardT0;exact rfl;exact rfl;(first|with_reducible rfl|with_reducible assumption|decide))|(apply R.guardF1;exact rfl;exact rfl;(first|with_reducible rfl|with_reducible assumption|decide);exact rfl)|(apply R.guardF0;exact rfl;exact rfl;(first|with_reducible rfl|with_reducible assumption|decide);exact rfl)|(apply R.guardN;exact rfl;exact rfl;exact rfl)|apply R.done|(first|apply W.seqR|apply W.seqC)|apply W.regionN|apply W.drawN|(apply W.condT;exact rfl;(first|with_reducible rfl|with_reducible assumption|decide))|(apply W.condF;exact rfl;(first|with_reducible rfl|with_reducible assumption|decide))|apply W.retAft|apply W.retBlk|apply W.retLop|apply W.exitAft|apply W.exitLop|apply W.exitBlk|(apply W.exitBlkNe;exact rfl)|apply W.skipAft|apply W.skipBlk|apply W.retCut|apply W.exitCut|apply R.skip|(apply D.op0;(first|exact O.move rfl|exact O.assign rfl|exact O.fieldP rfl rfl rfl rfl|exact O.loadP rfl rfl rfl (by first|exact rfl|with_reducible assumption|assumption|exact at_upd) rfl|exact O.cmp rfl rfl rfl|exact O.int rfl rfl (add64 (by omega))|exact O.int rfl rfl (sub64 (by omega))|exact O.int rfl rfl (add8 (by omega))|exact O.pickT rfl (by first|with_reducible rfl|with_reducible assumption|decide) rfl|exact O.pickF rfl (by first|with_reducible rfl|with_reducible assumption|decide) rfl|exact O.lenL rfl rfl|exact O.lenSv rfl rfl|exact O.lenS rfl rfl|exact O.not rfl|exact O.svEq rfl rfl|exact O.svNe rfl rfl|exact O.str rfl rfl rfl|exact O.boolEq rfl rfl rfl|exact O.boolNe rfl rfl rfl|exact O.fieldE rfl rfl rfl rfl|exact O.fieldR rfl rfl rfl rfl|exact O.loadPA rfl rfl (by first|exact rfl|with_reducible assumption|assumption|exact at_upd) rfl rfl|exact O.extr rfl rfl|exact O.nilP rfl|exact O.nilF rfl|exact O.extrT rfl rfl|exact O.makeFunc rfl rfl rfl|exact O.fieldF rfl rfl rfl rfl|exact O.loadF rfl rfl rfl rfl|exact O.loadFA rfl rfl rfl|exact O.ptrEq rfl rfl rfl rfl|exact O.ptrNe rfl rfl rfl rfl|exact O.max rfl rfl|(apply O.addrX;exact rfl;infer_instance;exact rfl;exact rfl;omega;(first|with_reducible assumption|assumption);(first|exact rfl|assumption))|(apply O.load1;exact rfl;(first|with_reducible assumption|assumption);exact rfl;exact rfl;exact rfl)|(apply O.loadE;exact rfl;exact rfl;exact rfl;(first|with_reducible assumption|assumption);exact rfl)|(apply O.loadEA;exact rfl;exact rfl;(first|with_reducible assumption|assumption);exact rfl)|(apply O.call;exact rfl;exact rfl;(first|with_reducible assumption|assumption))|(apply O.addrRX;exact rfl;infer_instance;exact rfl;exact rfl;(first|with_reducible assumption|assumption);(first|exact rfl|assumption);omega;exact rfl)|(apply O.loadRX;exact rfl;(first|with_reducible assumption|assumption);(first|exact rfl|assumption);(first|with_reducible assumption|assumption);exact rfl;exact rfl;exact rfl)|(apply O.lenO;exact rfl;exact rfl;(first|with_reducible assumption|assumption))|(apply O.build;exact rfl;exact rfl;exact rfl;exact rfl)|(apply O.callV;exact rfl;infer_instance;exact rfl;exact rfl;(first|with_reducible assumption|assumption))|(apply O.lookA;exact rfl;infer_instance;infer_instance;exact rfl;exact rfl;exact rfl;(first|with_reducible assumption|assumption)));exact rfl;exact rfl)|(apply D.op1;(first|exact O.boxS rfl rfl rfl|exact O.alloc rfl rfl|exact O.makeMap|(apply O.buildX;exact rfl;infer_instance;exact rfl;exact rfl;decide;exact rfl;exact rfl;decide));exact rfl;exact rfl)|(apply D.opN1;(first|(apply O.storeP;exact rfl;exact rfl;exact rfl;(first|exact rfl|with_reducible assumption|assumption|exact at_upd);exact rfl;exact rfl)|(apply O.storeP1;exact rfl;exact rfl;exact rfl;assumption;assumption;(first|exact rfl|with_reducible assumption|assumption|exact at_upd);exact rfl;exact rfl));exact rfl)|(apply D.guardT1;exact rfl;exact rfl;(first|with_reducible rfl|with_reducible assumption|decide))|(apply D.guardT0;exact rfl;exact rfl;(first|with_reducible rfl|with_reducible assumption|decide))|(apply D.guardF1;exact rfl;exact rfl;(first|with_reducible rfl|with_reducible assumption|decide);exact rfl)|(apply D.guardF0;exact rfl;exact rfl;(first|with_reducible rfl|with_reducible assumption|decide);exact rfl)|(apply D.guardN;exact rfl;exact rfl;exact rfl)|(apply D.done;kernel_rfl)|(apply D.skip;kernel_rfl)))
 exact Hold.out k):P:=h ⟨k⟩
theorem AA {P Q:Prop} (k:Q) (h:Hold Q->P:=by
 intro k
 (repeat (first|(apply R.op0;(first|exact O.move rfl|exact O.assign rfl|exact O.fieldP rfl rfl rfl rfl|exact O.loadP rfl rfl rfl (by first|exact rfl|with_reducible assumption|assumption|exact at_upd) rfl|exact O.cmp rfl rfl rfl|exact O.int rfl rfl (add64 (by omega))|exact O.int rfl rfl (sub64 (by omega))|exact O.int rfl rfl (add8 (by omega))|exact O.pickT rfl (by first|with_reducible rfl|with_reducible assumption|decide) rfl|exact O.pickF rfl (by first|with_reducible rfl|with_reducible assumption|decide) rfl|exact O.lenL rfl rfl|exact O.lenSv rfl rfl|exact O.lenS rfl rfl|exact O.not rfl|exact O.svEq rfl rfl|exact O.svNe rfl rfl|exact O.str rfl rfl rfl|exact O.boolEq rfl rfl rfl|exact O.boolNe rfl rfl rfl|exact O.fieldE rfl rfl rfl rfl|exact O.fieldR rfl rfl rfl rfl|exact O.loadPA rfl rfl (by first|exact rfl|with_reducible assumption|assumption|exact at_upd) rfl rfl|exact O.extr rfl rfl|exact O.nilP rfl|exact O.nilF rfl|exact O.extrT rfl rfl|exact O.makeFunc rfl rfl rfl|exact O.fieldF rfl rfl rfl rfl|exact O.loadF rfl rfl rfl rfl|exact O.loadFA rfl rfl rfl|exact O.ptrEq rfl rfl rfl rfl|exact O.ptrNe rfl rfl rfl rfl|exact O.max rfl rfl|(apply O.addrX;exact rfl;infer_instance;exact rfl;exact rfl;omega;(first|with_reducible assumption|assumption);(first|exact rfl|assumption))|(apply O.load1;exact rfl;(first|with_reducible assumption|assumption);exact rfl;exact rfl;exact rfl)|(apply O.loadE;exact rfl;exact rfl;exact rfl;(first|with_reducible assumption|assumption);exact rfl)|(apply O.loadEA;exact rfl;exact rfl;(first|with_reducible assumption|assumption);exact rfl)|(apply O.call;exact rfl;exact rfl;(first|with_reducible assumption|assumption))|(apply O.addrRX;exact rfl;infer_instance;exact rfl;exact rfl;(first|with_reducible assumption|assumption);(first|exact rfl|assumption);omega;exact rfl)|(apply O.loadRX;exact rfl;(first|with_reducible assumption|assumption);(first|exact rfl|assumption);(first|with_reducible assumption|assumption);exact rfl;exact rfl;exact rfl)|(apply O.lenO;exact rfl;exact rfl;(first|with_reducible assumption|assumption))|(apply O.build;exact rfl;exact rfl;exact rfl;exact rfl)|(apply O.callV;exact rfl;infer_instance;exact rfl;exact rfl;(first|with_reducible assumption|assumption))|(apply O.lookA;exact rfl;infer_instance;infer_instance;exact rfl;exact rfl;exact rfl;(first|with_reducible assumption|assumption)));exact rfl)|(apply R.op1;(first|exact O.boxS rfl rfl rfl|exact O.alloc rfl rfl|exact O.makeMap|(apply O.buildX;exact rfl;infer_instance;exact rfl;exact rfl;decide;exact rfl;exact rfl;decide));exact rfl)|(apply R.opN1;(first|(apply O.storeP;exact rfl;exact rfl;exact rfl;(first|exact rfl|with_reducible assumption|assumption|exact at_upd);exact rfl;exact rfl)|(apply O.storeP1;exact rfl;exact rfl;exact rfl;assumption;assumption;(first|exact rfl|with_reducible assumption|assumption|exact at_upd);exact rfl;exact rfl)))|(apply R.guardT1;exact rfl;exact rfl;(first|with_reducible rfl|with_reducible assumption|decide))|(apply R.guardT0;exact rfl;exact rfl;(first|with_reducible rfl|with_reducible assumption|decide))|(apply R.guardF1;exact rfl;exact rfl;(first|with_reducible rfl|with_reducible assumption|decide);exact rfl)|(apply R.guardF0;exact rfl;exact rfl;(first|with_reducible rfl|with_reducible assumption|decide);exact rfl)|(apply R.guardN;exact rfl;exact rfl;exact rfl)|apply R.done|apply W.seq|apply W.regionN|apply W.drawN|apply W.block|(apply W.condT;exact rfl;(first|with_reducible rfl|with_reducible assumption|decide))|(apply W.condF;exact rfl;(first|with_reducible rfl|with_reducible assumption|decide))|apply W.retAft|apply W.retBlk|apply W.retLop|apply W.exitAft|apply W.exitLop|apply W.exitBlk|(apply W.exitBlkNe;exact rfl)|apply W.skipAft|apply W.skipBlk|apply W.retCut|apply W.exitCut|apply R.skip|(apply D.op0;(first|exact O.move rfl|exact O.assign rfl|exact O.fieldP rfl rfl rfl rfl|exact O.loadP rfl rfl rfl (by first|exact rfl|with_reducible assumption|assumption|exact at_upd) rfl|exact O.cmp rfl rfl rfl|exact O.int rfl rfl (add64 (by omega))|exact O.int rfl rfl (sub64 (by omega))|exact O.int rfl rfl (add8 (by omega))|exact O.pickT rfl (by first|with_reducible rfl|with_reducible assumption|decide) rfl|exact O.pickF rfl (by first|with_reducible rfl|with_reducible assumption|decide) rfl|exact O.lenL rfl rfl|exact O.lenSv rfl rfl|exact O.lenS rfl rfl|exact O.not rfl|exact O.svEq rfl rfl|exact O.svNe rfl rfl|exact O.str rfl rfl rfl|exact O.boolEq rfl rfl rfl|exact O.boolNe rfl rfl rfl|exact O.fieldE rfl rfl rfl rfl|exact O.fieldR rfl rfl rfl rfl|exact O.loadPA rfl rfl (by first|exact rfl|with_reducible assumption|assumption|exact at_upd) rfl rfl|exact O.extr rfl rfl|exact O.nilP rfl|exact O.nilF rfl|exact O.extrT rfl rfl|exact O.makeFunc rfl rfl rfl|exact O.fieldF rfl rfl rfl rfl|exact O.loadF rfl rfl rfl rfl|exact O.loadFA rfl rfl rfl|exact O.ptrEq rfl rfl rfl rfl|exact O.ptrNe rfl rfl rfl rfl|exact O.max rfl rfl|(apply O.addrX;exact rfl;infer_instance;exact rfl;exact rfl;omega;(first|with_reducible assumption|assumption);(first|exact rfl|assumption))|(apply O.load1;exact rfl;(first|with_reducible assumption|assumption);exact rfl;exact rfl;exact rfl)|(apply O.loadE;exact rfl;exact rfl;exact rfl;(first|with_reducible assumption|assumption);exact rfl)|(apply O.loadEA;exact rfl;exact rfl;(first|with_reducible assumption|assumption);exact rfl)|(apply O.call;exact rfl;exact rfl;(first|with_reducible assumption|assumption))|(apply O.addrRX;exact rfl;infer_instance;exact rfl;exact rfl;(first|with_reducible assumption|assumption);(first|exact rfl|assumption);omega;exact rfl)|(apply O.loadRX;exact rfl;(first|with_reducible assumption|assumption);(first|exact rfl|assumption);(first|with_reducible assumption|assumption);exact rfl;exact rfl;exact rfl)|(apply O.lenO;exact rfl;exact rfl;(first|with_reducible assumption|assumption))|(apply O.build;exact rfl;exact rfl;exact rfl;exact rfl)|(apply O.callV;exact rfl;infer_instance;exact rfl;exact rfl;(first|with_reducible assumption|assumption))|(apply O.lookA;exact rfl;infer_instance;infer_instance;exact rfl;exact rfl;exact rfl;(first|with_reducible assumption|assumption)));exact rfl;exact rfl)|(apply D.op1;(first|exact O.boxS rfl rfl rfl|exact O.alloc rfl rfl|exact O.makeMap|(apply O.buildX;exact rfl;infer_instance;exact rfl;exact rfl;decide;exact rfl;exact rfl;decide));exact rfl;exact rfl)|(apply D.opN1;(first|(apply O.storeP;exact rfl;exact rfl;exact rfl;(first|exact rfl|with_reducible assumption|assumption|exact at_upd);exact rfl;exact rfl)|(apply O.storeP1;exact rfl;exact rfl;exact rfl;assumption;assumption;(first|exact rfl|with_reducible assumption|assumption|exact at_upd);exact rfl;exact rfl));exact rfl)|(apply D.guardT1;exact rfl;exact rfl;(first|with_reducible rfl|with_reducible assumption|decide))|(apply D.guardT0;exact rfl;exact rfl;(first|with_reducible rfl|with_reducible assumption|decide))|(apply D.guardF1;exact rfl;exact rfl;(first|with_reducible rfl|with_reducible assumption|decide);exact rfl)|(apply D.guardF0;exact rfl;exact rfl;(first|with_reducible rfl|with_reducible assumption|decide);exact rfl)|(apply D.guardN;exact rfl;exact rfl;exact rfl)|(apply D.done;kernel_rfl)|(apply D.skip;kernel_rfl)))
 exact Hold.out k):P:=h ⟨k⟩
theorem AN {P Q:Prop} (k:Q) (h:Hold Q->P:=by
 intro k
 (repeat (first|(apply R.op0;(first|exact O.move rfl|exact O.assign rfl|exact O.fieldP rfl rfl rfl rfl|exact O.loadP rfl rfl rfl (by first|exact rfl|with_reducible assumption|assumption|exact at_upd) rfl|exact O.cmp rfl rfl rfl|exact O.int rfl rfl (add64 (by omega))|exact O.int rfl rfl (sub64 (by omega))|exact O.int rfl rfl (add8 (by omega))|exact O.pickT rfl (by first|with_reducible rfl|with_reducible assumption|decide) rfl|exact O.pickF rfl (by first|with_reducible rfl|with_reducible assumption|decide) rfl|exact O.lenL rfl rfl|exact O.lenSv rfl rfl|exact O.lenS rfl rfl|exact O.not rfl|exact O.svEq rfl rfl|exact O.svNe rfl rfl|exact O.str rfl rfl rfl|exact O.boolEq rfl rfl rfl|exact O.boolNe rfl rfl rfl|exact O.fieldE rfl rfl rfl rfl|exact O.fieldR rfl rfl rfl rfl|exact O.loadPA rfl rfl (by first|exact rfl|with_reducible assumption|assumption|exact at_upd) rfl rfl|exact O.extr rfl rfl|exact O.nilP rfl|exact O.nilF rfl|exact O.extrT rfl rfl|exact O.makeFunc rfl rfl rfl|exact O.fieldF rfl rfl rfl rfl|exact O.loadF rfl rfl rfl rfl|exact O.loadFA rfl rfl rfl|exact O.ptrEq rfl rfl rfl rfl|exact O.ptrNe rfl rfl rfl rfl|exact O.max rfl rfl|(apply O.addrX;exact rfl;infer_instance;exact rfl;exact rfl;omega;(first|with_reducible assumption|assumption);(first|exact rfl|assumption))|(apply O.load1;exact rfl;(first|with_reducible assumption|assumption);exact rfl;exact rfl;exact rfl)|(apply O.loadE;exact rfl;exact rfl;exact rfl;(first|with_reducible assumption|assumption);exact rfl)|(apply O.loadEA;exact rfl;exact rfl;(first|with_reducible assumption|assumption);exact rfl)|(apply O.call;exact rfl;exact rfl;(first|with_reducible assumption|assumption))|(apply O.addrRX;exact rfl;infer_instance;exact rfl;exact rfl;(first|with_reducible assumption|assumption);(first|exact rfl|assumption);omega;exact rfl)|(apply O.loadRX;exact rfl;(first|with_reducible assumption|assumption);(first|exact rfl|assumption);(first|with_reducible assumption|assumption);exact rfl;exact rfl;exact rfl)|(apply O.lenO;exact rfl;exact rfl;(first|with_reducible assumption|assumption))|(apply O.build;exact rfl;exact rfl;exact rfl;exact rfl)|(apply O.callV;exact rfl;infer_instance;exact rfl;exact rfl;(first|with_reducible assumption|assumption))|(apply O.lookA;exact rfl;infer_instance;infer_instance;exact rfl;exact rfl;exact rfl;(first|with_reducible assumption|assumption)));exact rfl)|(apply R.op1;(first|exact O.boxS rfl rfl rfl|exact O.alloc rfl rfl|exact O.makeMap|(apply O.buildX;exact rfl;infer_instance;exact rfl;exact rfl;decide;exact rfl;exact rfl;decide));exact rfl)|(apply R.opN1;(first|(apply O.storeP;exact rfl;exact rfl;exact rfl;(first|exact rfl|with_reducible assumption|assumption|exact at_upd);exact rfl;exact rfl)|(apply O.storeP1;exact rfl;exact rfl;exact rfl;assumption;assumption;(first|exact rfl|with_reducible assumption|assumption|exact at_upd);exact rfl;exact rfl)))|(apply R.guardT1;exact rfl;exact rfl;(first|with_reducible rfl|with_reducible assumption|decide))|(apply R.guardT0;exact rfl;exact rfl;(first|with_reducible rfl|with_reducible assumption|decide))|(apply R.guardF1;exact rfl;exact rfl;(first|with_reducible rfl|with_reducible assumption|decide);exact rfl)|(apply R.guardF0;exact rfl;exact rfl;(first|with_reducible rfl|with_reducible assumption|decide);exact rfl)|(apply R.guardN;exact rfl;exact rfl;exact rfl)|apply R.done|apply W.seq|apply W.regionN|apply W.drawN|apply W.block|(apply W.condT;exact rfl;(first|with_reducible rfl|with_reducible assumption|decide))|(apply W.condF;exact rfl;(first|with_reducible rfl|with_reducible assumption|decide))|apply W.retAft|apply W.retBlk|apply W.retLop|apply W.exitAft|apply W.exitLop|apply W.exitBlk|(apply W.exitBlkNe;exact rfl)|apply W.skipAft|apply W.skipBlk|apply W.retCut|apply W.exitCut|apply R.skip|(apply D.op0;(first|exact O.move rfl|exact O.assign rfl|exact O.fieldP rfl rfl rfl rfl|exact O.loadP rfl rfl rfl (by first|exact rfl|with_reducible assumption|assumption|exact at_upd) rfl|exact O.cmp rfl rfl rfl|exact O.int rfl rfl (add64 (by omega))|exact O.int rfl rfl (sub64 (by omega))|exact O.int rfl rfl (add8 (by omega))|exact O.pickT rfl (by first|with_reducible rfl|with_reducible assumption|decide) rfl|exact O.pickF rfl (by first|with_reducible rfl|with_reducible assumption|decide) rfl|exact O.lenL rfl rfl|exact O.lenSv rfl rfl|exact O.lenS rfl rfl|exact O.not rfl|exact O.svEq rfl rfl|exact O.svNe rfl rfl|exact O.str rfl rfl rfl|exact O.boolEq rfl rfl rfl|exact O.boolNe rfl rfl rfl|exact O.fieldE rfl rfl rfl rfl|exact O.fieldR rfl rfl rfl rfl|exact O.loadPA rfl rfl (by first|exact rfl|with_reducible assumption|assumption|exact at_upd) rfl rfl|exact O.extr rfl rfl|exact O.nilP rfl|exact O.nilF rfl|exact O.extrT rfl rfl|exact O.makeFunc rfl rfl rfl|exact O.fieldF rfl rfl rfl rfl|exact O.loadF rfl rfl rfl rfl|exact O.loadFA rfl rfl rfl|exact O.ptrEq rfl rfl rfl rfl|exact O.ptrNe rfl rfl rfl rfl|exact O.max rfl rfl|(apply O.addrX;exact rfl;infer_instance;exact rfl;exact rfl;omega;(first|with_reducible assumption|assumption);(first|exact rfl|assumption))|(apply O.load1;exact rfl;(first|with_reducible assumption|assumption);exact rfl;exact rfl;exact rfl)|(apply O.loadE;exact rfl;exact rfl;exact rfl;(first|with_reducible assumption|assumption);exact rfl)|(apply O.loadEA;exact rfl;exact rfl;(first|with_reducible assumption|assumption);exact rfl)|(apply O.call;exact rfl;exact rfl;(first|with_reducible assumption|assumption))|(apply O.addrRX;exact rfl;infer_instance;exact rfl;exact rfl;(first|with_reducible assumption|assumption);(first|exact rfl|assumption);omega;exact rfl)|(apply O.loadRX;exact rfl;(first|with_reducible assumption|assumption);(first|exact rfl|assumption);(first|with_reducible assumption|assumption);exact rfl;exact rfl;exact rfl)|(apply O.lenO;exact rfl;exact rfl;(first|with_reducible assumption|assumption))|(apply O.build;exact rfl;exact rfl;exact rfl;exact rfl)|(apply O.callV;exact rfl;infer_instance;exact rfl;exact rfl;(first|with_reducible assumption|assumption))|(apply O.lookA;exact rfl;infer_instance;infer_instance;exact rfl;exact rfl;exact rfl;(first|with_reducible assumption|assumption)));exact rfl;exact rfl)|(apply D.op1;(first|exact O.boxS rfl rfl rfl|exact O.alloc rfl rfl|exact O.makeMap|(apply O.buildX;exact rfl;infer_instance;exact rfl;exact rfl;decide;exact rfl;exact rfl;decide));exact rfl;exact rfl)|(apply D.opN1;(first|(apply O.storeP;exact rfl;exact rfl;exact rfl;(first|exact rfl|with_reducible assumption|assumption|exact at_upd);exact rfl;exact rfl)|(apply O.storeP1;exact rfl;exact rfl;exact rfl;assumption;assumption;(first|exact rfl|with_reducible assumption|assumption|exact at_upd);exact rfl;exact rfl));exact rfl)|(apply D.guardT1;exact rfl;exact rfl;(first|with_reducible rfl|with_reducible assumption|decide))|(apply D.guardT0;exact rfl;exact rfl;(first|with_reducible rfl|with_reducible assumption|decide))|(apply D.guardF1;exact rfl;exact rfl;(first|with_reducible rfl|with_reducible assumption|decide);exact rfl)|(apply D.guardF0;exact rfl;exact rfl;(first|with_reducible rfl|with_reducible assumption|decide);exact rfl)|(apply D.guardN;exact rfl;exact rfl;exact rfl)|refine D.auto ?_))
 exact Hold.out k):P:=h ⟨k⟩
theorem AX {P Q:Prop} (k:Q) (h:Hold Q->P:=by
 intro k
 (repeat (first|(apply DX.op0;(first|exact O.move rfl|exact O.assign rfl|exact O.fieldP rfl rfl rfl rfl|exact O.loadP rfl rfl rfl (by first|exact rfl|with_reducible assumption|assumption|exact at_upd) rfl|exact O.cmp rfl rfl rfl|exact O.int rfl rfl (add64 (by omega))|exact O.int rfl rfl (sub64 (by omega))|exact O.int rfl rfl (add8 (by omega))|exact O.pickT rfl (by first|with_reducible rfl|with_reducible assumption|decide) rfl|exact O.pickF rfl (by first|with_reducible rfl|with_reducible assumption|decide) rfl|exact O.lenL rfl rfl|exact O.lenSv rfl rfl|exact O.lenS rfl rfl|exact O.not rfl|exact O.svEq rfl rfl|exact O.svNe rfl rfl|exact O.str rfl rfl rfl|exact O.boolEq rfl rfl rfl|exact O.boolNe rfl rfl rfl|exact O.fieldE rfl rfl rfl rfl|exact O.fieldR rfl rfl rfl rfl|exact O.loadPA rfl rfl (by first|exact rfl|with_reducible assumption|assumption|exact at_upd) rfl rfl|exact O.extr rfl rfl|exact O.nilP rfl|exact O.nilF rfl|exact O.extrT rfl rfl|exact O.makeFunc rfl rfl rfl|exact O.fieldF rfl rfl rfl rfl|exact O.loadF rfl rfl rfl rfl|exact O.loadFA rfl rfl rfl|exact O.ptrEq rfl rfl rfl rfl|exact O.ptrNe rfl rfl rfl rfl|exact O.max rfl rfl|(apply O.addrX;exact rfl;infer_instance;exact rfl;exact rfl;omega;(first|with_reducible assumption|assumption);(first|exact rfl|assumption))|(apply O.load1;exact rfl;(first|with_reducible assumption|assumption);exact rfl;exact rfl;exact rfl)|(apply O.loadE;exact rfl;exact rfl;exact rfl;(first|with_reducible assumption|assumption);exact rfl)|(apply O.loadEA;exact rfl;exact rfl;(first|with_reducible assumption|assumption);exact rfl)|(apply O.call;exact rfl;exact rfl;(first|with_reducible assumption|assumption))|(apply O.addrRX;exact rfl;infer_instance;exact rfl;exact rfl;(first|with_reducible assumption|assumption);(first|exact rfl|assumption);omega;exact rfl)|(apply O.loadRX;exact rfl;(first|with_reducible assumption|assumption);(first|exact rfl|assumption);(first|with_reducible assumption|assumption);exact rfl;exact rfl;exact rfl)|(apply O.lenO;exact rfl;exact rfl;(first|with_reducible assumption|assumption))|(apply O.build;exact rfl;exact rfl;exact rfl;exact rfl)|(apply O.callV;exact rfl;infer_instance;exact rfl;exact rfl;(first|with_reducible assumption|assumption))|(apply O.lookA;exact rfl;infer_instance;infer_instance;exact rfl;exact rfl;exact rfl;(first|with_reducible assumption|assumption)));exact rfl;exact rfl)))
 exact Hold.out k):P:=h ⟨k⟩
theorem A1 {P Q:Prop} (k:Q) (h:Hold Q->P:=by
 intro k
 (try (apply W.seqR;(first|apply W.regionN|apply W.drawN)))
 (repeat (first|(apply R.op0;(first|exact O.move rfl|exact O.assign rfl|exact O.fieldP rfl rfl rfl rfl|exact O.loadP rfl rfl rfl (by first|exact rfl|with_reducible assumption|assumption|exact at_upd) rfl|exact O.cmp rfl rfl rfl|exact O.int rfl rfl (add64 (by omega))|exact O.int rfl rfl (sub64 (by omega))|exact O.int rfl rfl (add8 (by omega))|exact O.pickT rfl (by first|with_reducible rfl|with_reducible assumption|decide) rfl|exact O.pickF rfl (by first|with_reducible rfl|with_reducible assumption|decide) rfl|exact O.lenL rfl rfl|exact O.lenSv rfl rfl|exact O.lenS rfl rfl|exact O.not rfl|exact O.svEq rfl rfl|exact O.svNe rfl rfl|exact O.str rfl rfl rfl|exact O.boolEq rfl rfl rfl|exact O.boolNe rfl rfl rfl|exact O.fieldE rfl rfl rfl rfl|exact O.fieldR rfl rfl rfl rfl|exact O.loadPA rfl rfl (by first|exact rfl|with_reducible assumption|assumption|exact at_upd) rfl rfl|exact O.extr rfl rfl|exact O.nilP rfl|exact O.nilF rfl|exact O.extrT rfl rfl|exact O.makeFunc rfl rfl rfl|exact O.fieldF rfl rfl rfl rfl|exact O.loadF rfl rfl rfl rfl|exact O.loadFA rfl rfl rfl|exact O.ptrEq rfl rfl rfl rfl|exact O.ptrNe rfl rfl rfl rfl|exact O.max rfl rfl|(apply O.addrX;exact rfl;infer_instance;exact rfl;exact rfl;omega;(first|with_reducible assumption|assumption);(first|exact rfl|assumption))|(apply O.load1;exact rfl;(first|with_reducible assumption|assumption);exact rfl;exact rfl;exact rfl)|(apply O.loadE;exact rfl;exact rfl;exact rfl;(first|with_reducible assumption|assumption);exact rfl)|(apply O.loadEA;exact rfl;exact rfl;(first|with_reducible assumption|assumption);exact rfl)|(apply O.call;exact rfl;exact rfl;(first|with_reducible assumption|assumption))|(apply O.addrRX;exact rfl;infer_instance;exact rfl;exact rfl;(first|with_reducible assumption|assumption);(first|exact rfl|assumption);omega;exact rfl)|(apply O.loadRX;exact rfl;(first|with_reducible assumption|assumption);(first|exact rfl|assumption);(first|with_reducible assumption|assumption);exact rfl;exact rfl;exact rfl)|(apply O.lenO;exact rfl;exact rfl;(first|with_reducible assumption|assumption))|(apply O.build;exact rfl;exact rfl;exact rfl;exact rfl)|(apply O.callV;exact rfl;infer_instance;exact rfl;exact rfl;(first|with_reducible assumption|assumption))|(apply O.lookA;exact rfl;infer_instance;infer_instance;exact rfl;exact rfl;exact rfl;(first|with_reducible assumption|assumption)));exact rfl)|(apply R.op1;(first|exact O.boxS rfl rfl rfl|exact O.alloc rfl rfl|exact O.makeMap|(apply O.buildX;exact rfl;infer_instance;exact rfl;exact rfl;decide;exact rfl;exact rfl;decide));exact rfl)|(apply R.opN1;(first|(apply O.storeP;exact rfl;exact rfl;exact rfl;(first|exact rfl|with_reducible assumption|assumption|exact at_upd);exact rfl;exact rfl)|(apply O.storeP1;exact rfl;exact rfl;exact rfl;assumption;assumption;(first|exact rfl|with_reducible assumption|assumption|exact at_upd);exact rfl;exact rfl)))|(apply R.guardT1;exact rfl;exact rfl;(first|with_reducible rfl|with_reducible assumption|decide))|(apply R.guardT0;exact rfl;exact rfl;(first|with_reducible rfl|with_reducible assumption|decide))|(apply R.guardF1;exact rfl;exact rfl;(first|with_reducible rfl|with_reducible assumption|decide);exact rfl)|(apply R.guardF0;exact rfl;exact rfl;(first|with_reducible rfl|with_reducible assumption|decide);exact rfl)|(apply R.guardN;exact rfl;exact rfl;exact rfl)|(apply D.op0;(first|exact O.move rfl|exact O.assign rfl|exact O.fieldP rfl rfl rfl rfl|exact O.loadP rfl rfl rfl (by first|exact rfl|with_reducible assumption|assumption|exact at_upd) rfl|exact O.cmp rfl rfl rfl|exact O.int rfl rfl (add64 (by omega))|exact O.int rfl rfl (sub64 (by omega))|exact O.int rfl rfl (add8 (by omega))|exact O.pickT rfl (by first|with_reducible rfl|with_reducible assumption|decide) rfl|exact O.pickF rfl (by first|with_reducible rfl|with_reducible assumption|decide) rfl|exact O.lenL rfl rfl|exact O.lenSv rfl rfl|exact O.lenS rfl rfl|exact O.not rfl|exact O.svEq rfl rfl|exact O.svNe rfl rfl|exact O.str rfl rfl rfl|exact O.boolEq rfl rfl rfl|exact O.boolNe rfl rfl rfl|exact O.fieldE rfl rfl rfl rfl|exact O.fieldR rfl rfl rfl rfl|exact O.loadPA rfl rfl (by first|exact rfl|with_reducible assumption|assumption|exact at_upd) rfl rfl|exact O.extr rfl rfl|exact O.nilP rfl|exact O.nilF rfl|exact O.extrT rfl rfl|exact O.makeFunc rfl rfl rfl|exact O.fieldF rfl rfl rfl rfl|exact O.loadF rfl rfl rfl rfl|exact O.loadFA rfl rfl rfl|exact O.ptrEq rfl rfl rfl rfl|exact O.ptrNe rfl rfl rfl rfl|exact O.max rfl rfl|(apply O.addrX;exact rfl;infer_instance;exact rfl;exact rfl;omega;(first|with_reducible assumption|assumption);(first|exact rfl|assumption))|(apply O.load1;exact rfl;(first|with_reducible assumption|assumption);exact rfl;exact rfl;exact rfl)|(apply O.loadE;exact rfl;exact rfl;exact rfl;(first|with_reducible assumption|assumption);exact rfl)|(apply O.loadEA;exact rfl;exact rfl;(first|with_reducible assumption|assumption);exact rfl)|(apply O.call;exact rfl;exact rfl;(first|with_reducible assumption|assumption))|(apply O.addrRX;exact rfl;infer_instance;exact rfl;exact rfl;(first|with_reducible assumption|assumption);(first|exact rfl|assumption);omega;exact rfl)|(apply O.loadRX;exact rfl;(first|with_reducible assumption|assumption);(first|exact rfl|assumption);(first|with_reducible assumption|assumption);exact rfl;exact rfl;exact rfl)|(apply O.lenO;exact rfl;exact rfl;(first|with_reducible assumption|assumption))|(apply O.build;exact rfl;exact rfl;exact rfl;exact rfl)|(apply O.callV;exact rfl;infer_instance;exact rfl;exact rfl;(first|with_reducible assumption|assumption))|(apply O.lookA;exact rfl;infer_instance;infer_instance;exact rfl;exact rfl;exact rfl;(first|with_reducible assumption|assumption)));exact rfl;exact rfl)|(apply D.op1;(first|exact O.boxS rfl rfl rfl|exact O.alloc rfl rfl|exact O.makeMap|(apply O.buildX;exact rfl;infer_instance;exact rfl;exact rfl;decide;exact rfl;exact rfl;decide));exact rfl;exact rfl)|(apply D.opN1;(first|(apply O.storeP;exact rfl;exact rfl;exact rfl;(first|exact rfl|with_reducible assumption|assumption|exact at_upd);exact rfl;exact rfl)|(apply O.storeP1;exact rfl;exact rfl;exact rfl;assumption;assumption;(first|exact rfl|with_reducible assumption|assumption|exact at_upd);exact rfl;exact rfl));exact rfl)|(apply D.guardT1;exact rfl;exact rfl;(first|with_reducible rfl|with_reducible assumption|decide))|(apply D.guardT0;exact rfl;exact rfl;(first|with_reducible rfl|with_reducible assumption|decide))|(apply D.guardF1;exact rfl;exact rfl;(first|with_reducible rfl|with_reducible assumption|decide);exact rfl)|(apply D.guardF0;exact rfl;exact rfl;(first|with_reducible rfl|with_reducible assumption|decide);exact rfl)|(apply D.guardN;exact rfl;exact rfl;exact rfl)))
 (first|apply R.done|refine D.auto ?_)
 exact Hold.out k):P:=h ⟨k⟩
theorem AQ {P Q:Prop} (k:Q) (h:Hold Q->P:=by
 intro k
 (repeat (first|(apply R.op0;(first|exact O.move rfl|exact O.assign rfl|exact O.fieldP rfl rfl rfl rfl|exact O.loadP rfl rfl rfl (by first|exact rfl|with_reducible assumption|assumption|exact at_upd) rfl|exact O.cmp rfl rfl rfl|exact O.int rfl rfl (add64 (by omega))|exact O.int rfl rfl (sub64 (by omega))|exact O.int rfl rfl (add8 (by omega))|exact O.pickT rfl (by first|with_reducible rfl|with_reducible assumption|decide) rfl|exact O.pickF rfl (by first|with_reducible rfl|with_reducible assumption|decide) rfl|exact O.lenL rfl rfl|exact O.lenSv rfl rfl|exact O.lenS rfl rfl|exact O.not rfl|exact O.svEq rfl rfl|exact O.svNe rfl rfl|exact O.str rfl rfl rfl|exact O.boolEq rfl rfl rfl|exact O.boolNe rfl rfl rfl|exact O.fieldE rfl rfl rfl rfl|exact O.fieldR rfl rfl rfl rfl|exact O.loadPA rfl rfl (by first|exact rfl|with_reducible assumption|assumption|exact at_upd) rfl rfl|exact O.extr rfl rfl|exact O.nilP rfl|exact O.nilF rfl|exact O.extrT rfl rfl|exact O.makeFunc rfl rfl rfl|exact O.fieldF rfl rfl rfl rfl|exact O.loadF rfl rfl rfl rfl|exact O.loadFA rfl rfl rfl|exact O.ptrEq rfl rfl rfl rfl|exact O.ptrNe rfl rfl rfl rfl|exact O.max rfl rfl|(apply O.addrX;exact rfl;infer_instance;exact rfl;exact rfl;omega;(first|with_reducible assumption|assumption);(first|exact rfl|assumption))|(apply O.load1;exact rfl;(first|with_reducible assumption|assumption);exact rfl;exact rfl;exact rfl)|(apply O.loadE;exact rfl;exact rfl;exact rfl;(first|with_reducible assumption|assumption);exact rfl)|(apply O.loadEA;exact rfl;exact rfl;(first|with_reducible assumption|assumption);exact rfl)|(apply O.call;exact rfl;exact rfl;(first|with_reducible assumption|assumption))|(apply O.addrRX;exact rfl;infer_instance;exact rfl;exact rfl;(first|with_reducible assumption|assumption);(first|exact rfl|assumption);omega;exact rfl)|(apply O.loadRX;exact rfl;(first|with_reducible assumption|assumption);(first|exact rfl|assumption);(first|with_reducible assumption|assumption);exact rfl;exact rfl;exact rfl)|(apply O.lenO;exact rfl;exact rfl;(first|with_reducible assumption|assumption))|(apply O.build;exact rfl;exact rfl;exact rfl;exact rfl)|(apply O.callV;exact rfl;infer_instance;exact rfl;exact rfl;(first|with_reducible assumption|assumption))|(apply O.lookA;exact rfl;infer_instance;infer_instance;exact rfl;exact rfl;exact rfl;(first|with_reducible assumption|assumption)));exact rfl)|(apply R.op1;(first|exact O.boxS rfl rfl rfl|exact O.alloc rfl rfl|exact O.makeMap|(apply O.buildX;exact rfl;infer_instance;exact rfl;exact rfl;decide;exact rfl;exact rfl;decide));exact rfl)|(apply R.opN1;(first|(apply O.storeP;exact rfl;exact rfl;exact rfl;(first|exact rfl|with_reducible assumption|assumption|exact at_upd);exact rfl;exact rfl)|(apply O.storeP1;exact rfl;exact rfl;exact rfl;assumption;assumption;(first|exact rfl|with_reducible assumption|assumption|exact at_upd);exact rfl;exact rfl)))|(apply R.guardT1;exact rfl;exact rfl;(first|with_reducible rfl|with_reducible assumption|decide))|(apply R.guardT0;exact rfl;exact rfl;(first|with_reducible rfl|with_reducible assumption|decide))|(apply R.guardF1;exact rfl;exact rfl;(first|with_reducible rfl|with_reducible assumption|decide);exact rfl)|(apply R.guardF0;exact rfl;exact rfl;(first|with_reducible rfl|with_reducible assumption|decide);exact rfl)|(apply R.guardN;exact rfl;exact rfl;exact rfl)))
 exact Hold.out k):P:=h ⟨k⟩
theorem AD {P Q:Prop} (k:Q) (h:Hold Q->P:=by
 intro k
 (repeat (first|(apply D.op0;(first|exact O.move rfl|exact O.assign rfl|exact O.fieldP rfl rfl rfl rfl|exact O.loadP rfl rfl rfl (by first|exact rfl|with_reducible assumption|assumption|exact at_upd) rfl|exact O.cmp rfl rfl rfl|exact O.int rfl rfl (add64 (by omega))|exact O.int rfl rfl (sub64 (by omega))|exact O.int rfl rfl (add8 (by omega))|exact O.pickT rfl (by first|with_reducible rfl|with_reducible assumption|decide) rfl|exact O.pickF rfl (by first|with_reducible rfl|with_reducible assumption|decide) rfl|exact O.lenL rfl rfl|exact O.lenSv rfl rfl|exact O.lenS rfl rfl|exact O.not rfl|exact O.svEq rfl rfl|exact O.svNe rfl rfl|exact O.str rfl rfl rfl|exact O.boolEq rfl rfl rfl|exact O.boolNe rfl rfl rfl|exact O.fieldE rfl rfl rfl rfl|exact O.fieldR rfl rfl rfl rfl|exact O.loadPA rfl rfl (by first|exact rfl|with_reducible assumption|assumption|exact at_upd) rfl rfl|exact O.extr rfl rfl|exact O.nilP rfl|exact O.nilF rfl|exact O.extrT rfl rfl|exact O.makeFunc rfl rfl rfl|exact O.fieldF rfl rfl rfl rfl|exact O.loadF rfl rfl rfl rfl|exact O.loadFA rfl rfl rfl|exact O.ptrEq rfl rfl rfl rfl|exact O.ptrNe rfl rfl rfl rfl|exact O.max rfl rfl|(apply O.addrX;exact rfl;infer_instance;exact rfl;exact rfl;omega;(first|with_reducible assumption|assumption);(first|exact rfl|assumption))|(apply O.load1;exact rfl;(first|with_reducible assumption|assumption);exact rfl;exact rfl;exact rfl)|(apply O.loadE;exact rfl;exact rfl;exact rfl;(first|with_reducible assumption|assumption);exact rfl)|(apply O.loadEA;exact rfl;exact rfl;(first|with_reducible assumption|assumption);exact rfl)|(apply O.call;exact rfl;exact rfl;(first|with_reducible assumption|assumption))|(apply O.addrRX;exact rfl;infer_instance;exact rfl;exact rfl;(first|with_reducible assumption|assumption);(first|exact rfl|assumption);omega;exact rfl)|(apply O.loadRX;exact rfl;(first|with_reducible assumption|assumption);(first|exact rfl|assumption);(first|with_reducible assumption|assumption);exact rfl;exact rfl;exact rfl)|(apply O.lenO;exact rfl;exact rfl;(first|with_reducible assumption|assumption))|(apply O.build;exact rfl;exact rfl;exact rfl;exact rfl)|(apply O.callV;exact rfl;infer_instance;exact rfl;exact rfl;(first|with_reducible assumption|assumption))|(apply O.lookA;exact rfl;infer_instance;infer_instance;exact rfl;exact rfl;exact rfl;(first|with_reducible assumption|assumption)));exact rfl;exact rfl)|(apply D.op1;(first|exact O.boxS rfl rfl rfl|exact O.alloc rfl rfl|exact O.makeMap|(apply O.buildX;exact rfl;infer_instance;exact rfl;exact rfl;decide;exact rfl;exact rfl;decide));exact rfl;exact rfl)|(apply D.opN1;(first|(apply O.storeP;exact rfl;exact rfl;exact rfl;(first|exact rfl|with_reducible assumption|assumption|exact at_upd);exact rfl;exact rfl)|(apply O.storeP1;exact rfl;exact rfl;exact rfl;assumption;assumption;(first|exact rfl|with_reducible assumption|assumption|exact at_upd);exact rfl;exact rfl));exact rfl)|(apply D.guardT1;exact rfl;exact rfl;(first|with_reducible rfl|with_reducible assumption|decide))|(apply D.guardT0;exact rfl;exact rfl;(first|with_reducible rfl|with_reducible assumption|decide))|(apply D.guardF1;exact rfl;exact rfl;(first|with_reducible rfl|with_reducible assumption|decide);exact rfl)|(apply D.guardF0;exact rfl;exact rfl;(first|with_reducible rfl|with_reducible assumption|decide);exact rfl)|(apply D.guardN;exact rfl;exact rfl;exact rfl)))
 exact Hold.out k):P:=h ⟨k⟩
end Go.Abs

/- Programs that are looked at: terms. -/
open Go Go.Abs
namespace Go.Abs
set_option maxRecDepth 100000
set_option maxHeartbeats 4000000
instance fnis86:FnIs CC 30:=⟨rfl,fun _=>rfl⟩
def ty71:TyI:={ d:=TyD.ptr,sz:=1,bytes:=8,zero:=AV.imm IV.nilp }
instance tyis71:TyIs CC 44 ty71:=⟨by kernel_rfl⟩
def ty84:TyI:={ d:=TyD.st [(0,2),(2,1),(3,1),(4,1)],sz:=5,bytes:=40,zero:=AV.imm (IV.agg [IV.nilmap,IV.nilmap,IV.nilmap,IV.int IntKind.i64 (0),IV.int IntKind.i64 (0)]) }
instance tyis84:TyIs CC 79 ty84:=⟨by kernel_rfl⟩
def ty81:TyI:={ d:=TyD.st [(0,1),(1,1)],sz:=2,bytes:=16,zero:=AV.imm (IV.agg [IV.nilmap,IV.nilmap]) }
instance tyis81:TyIs CC 77 ty81:=⟨by kernel_rfl⟩
def ty82:TyI:={ d:=TyD.mp 35 108,sz:=1,bytes:=8,zero:=AV.imm IV.nilmap }
instance tyis82:TyIs CC 73 ty82:=⟨by kernel_rfl⟩
def ty79:TyI:={ d:=TyD.mp 9 3,sz:=1,bytes:=8,zero:=AV.imm IV.nilmap }
instance tyis79:TyIs CC 75 ty79:=⟨by kernel_rfl⟩
def ty137:TyI:={ d:=TyD.st [(0,1),(1,1),(2,1),(3,1),(4,1),(5,1)],sz:=6,bytes:=40,zero:=AV.imm (IV.agg [IV.int IntKind.i64 (0),IV.int IntKind.i64 (0),IV.bool false,IV.bool false,IV.int IntKind.i64 (0),IV.int IntKind.i64 (0)]) }
instance tyis137:TyIs CC 108 ty137:=⟨by kernel_rfl⟩
def unf:IV := .iface 71 (.agg [])
theorem ret86:Ret CC 30 [.bool true] (.tup []):=Ret.reckon (n:=10) (by kernel_rfl)
theorem pan86:RetPan CC 30 [.bool false] unf:=RetPan.reckon (n:=10) (by kernel_rfl) rfl
def SPost (o:Nat) (a b c d:AV) (n res:Int) (G:Nat->Obj) (nx:Nat):CR->Prop
 | .ret v G' nx'=>v = .imm (.tup [])/\0<=res/\G' o = .box [a,b,c,d, .imm (.int .i64 (n+res))] false/\nx<=nx'/\∀ q,q < nx->q≠o->G' q=G q
 | .pan u G' nx'=>u=unf/\res < 0/\nx<=nx'/\∀ q,q < nx->q≠o->G' q=G q
def oneR (depth left:Int):Int:=if depth > 10\/left < 1 then -1 else 1
theorem retM {b:Bool} (h:b=true):Ret CC 30 [.bool b] (.tup []):=h▸ret86
theorem panM {b:Bool} (h:b=false):RetPan CC 30 [.bool b] unf:=h▸pan86
theorem cal103 {o nx:Nat} {G:Nat->Obj} {a b c d:AV} {n depth:Int} (hG:G o = .box [a,b,c,d, .imm (.int .i64 n)] false) (_ho:o < nx) (hn:0<=n/\n<=1000) :
  CalP CC 57 [.ptr o 0, .imm (.int .i64 depth)] G nx (SPost o a b c d n (oneR depth (60-n)) G nx):=by
 refine CalP.of (fn:=Go.Proofs.Try.f57) (by kernel_rfl) rfl rfl ?_
 rcases Bool.eq_false_or_eq_true (decide (n+1<=60)) with h1|h1
 ·rcases Bool.eq_false_or_eq_true (decide (depth<=10)) with h2|h2
  ·have h1':=of_decide_eq_true h1
   have h2':=of_decide_eq_true h2
   have hr:=retM h2
   refine AA ?_
   have e:oneR depth (60-n)=1:=by unfold oneR;rw [if_neg (by omega)]
   rw [e]
   exact W.skipFinP rfl ⟨rfl,by decide,at_upd,by omega,fun q _ _=>at_upd⟩
  ·have h2':=of_decide_eq_false h2
   have e:oneR depth (60-n) = -1:=by unfold oneR;rw [if_pos (by omega)]
   rw [e]
   refine AA ?_
   exact R.callPan rfl rfl (panM h2) (panTo ⟨rfl,by decide,by omega,fun q _ _=>at_upd⟩)
 ·have h1':=of_decide_eq_false h1
  have e:oneR depth (60-n) = -1:=by unfold oneR;rw [if_pos (by omega)]
  rw [e]
  refine AA ?_
  exact R.callPan rfl rfl pan86 (panTo ⟨rfl,by decide,by omega,fun q _ _=>at_upd⟩)
theorem cal104 {o:Nat} {a b cc d:AV} {c:Trm} (hf:c.Fits):∀ {nx:Nat} {G:Nat->Obj} {n depth:Int} {other:Bool},G o = .box [a,b,cc,d, .imm (.int .i64 n)] false->o < nx->(0<=n/\n<=60)->(-1000<=depth/\depth<=1000) ->
  CalP CC 58 [.ptr o 0, .imm c.iv, .imm (.bool other), .imm (.int .i64 depth)] G nx (SPost o a b cc d n (calcR c other depth (60-n)) G nx):=by
 induction hf with
 |mk op n' kids hlen hkf ih=>
 intro nx G n depth other hG ho hn hd
 have hlen':kids.length<=9223372036854775807:=hlen
 refine CalP.of (fn:=Go.Proofs.Try.f58) (by kernel_rfl) rfl rfl ?_
 refine AA ?_
 refine R.callBP rfl rfl rfl rfl rfl ((cal103 (o:=o) (n:=n) at_upd (by omega) (by omega)).mono fun r hr=>?_)
 cases r with
 |pan u G' nx'=>
  obtain ⟨rfl,h1,h2,h3⟩:=hr
  have e:calcR (.mk op n' kids) other depth (60-n) = -1:=by
   rw [calcR,if_pos]
   unfold oneR at h1
   split at h1
   ·assumption
   ·omega
  rw [e]
  exact panTo ⟨rfl,by decide,by omega,fun q h4 h5=>(h3 q (by omega) h5).trans at_upd⟩
 |ret v G' nx'=>
  obtain ⟨rfl,h1,h2,h3,h4⟩:=hr
  dsimp only
  have hor:oneR depth (60-n)=1:=by unfold oneR at h1 ⊢;split<;>simp_all
  have hdl:¬ (depth > 10\/(60-n) < 1):=by unfold oneR at h1;split at h1<;>omega
  rw [hor] at h2
  have hmk:=calcR_mk (op:=op) (n:=n') (kids:=kids) (other:=other) hdl
  have hB:G' (nx+0) = .box [.imm (.int .i64 op), .imm (.int .i64 n'), .imm (.lst (Trm.ivs kids))] false:=(h4 _ (by omega) (by omega)).trans at_upd
  have hfr:∀ q,q < nx->q≠o->G' q=G q:=fun q h5 h6=>(h4 q (by omega) h6).trans at_upd
  have hnx:nx+1<=nx':=by omega
  clear h3 h4 h1 hor
  have bad:calcR (.mk op n' kids) other depth (60-n) = -1->∀ {G2:Nat->Obj} {nx2:Nat} {l:Env},nx+1<=nx2->(∀ q,q < nx->q≠o->G2 q=G q) ->
    ∀ t,Agree t l->finP CC Go.Proofs.Try.f58.results.toList (SPost o a b cc d n (calcR (.mk op n' kids) other depth (60-n)) G nx) (.pan unf ⟨t,G2,nx2,[], .no⟩):=by
   intro e G2 nx2 l h1 h2
   rw [e]
   exact panTo ⟨rfl,by decide,by omega,h2⟩
  refine AB ?_
  refine W.cut (X:=Nat) (fun k=>[(0, .ptr o 0),(2, .imm (.bool other)),(3, .imm (.int .i64 depth)),(5, .ptr (nx+0) 0),(8, .imm (.int .i64 k))])
   (fun k nx2 G2=>G2=G'/\nx'<=nx2/\kidsOf op n' other=some k) ?_ ?_
  ·refine AB ?_
   have hnone:kidsOf op n' other=none->calcR (.mk op n' kids) other depth (60-n) = -1:=fun h=>by rw [hmk,h]
   have hops:op=1\/op=5\/(op=2\/op=3\/op=4)\/(op=6\/op=7\/op=8\/op=9\/op=10)\/(op≠1/\op≠2/\op≠3/\op≠4/\op≠5/\op≠6/\op≠7/\op≠8/\op≠9/\op≠10):=by omega
   rcases hops with rfl|rfl|hop|hop|⟨n1,n2,n3,n4,n5,n6,n7,n8,n9,n10⟩
   ·rcases Bool.eq_false_or_eq_true (decide (n' >= -1000000000)) with h1|h1
    ·rcases Bool.eq_false_or_eq_true (decide (n'<=1000000000)) with h2|h2
     ·have hr:=retM h2
      refine AA ?_
      exact W.skipCut 0 .auto ⟨rfl,by omega,by unfold kidsOf inR;rw [h1,h2];rfl⟩
     ·refine AA ?_
      exact R.callPan rfl rfl (panM h2) (bad (hnone (by unfold kidsOf inR;rw [h1,h2];rfl)) (by omega) hfr)
    ·refine AA ?_
     exact R.callPan rfl rfl pan86 (bad (hnone (by unfold kidsOf inR;rw [h1];rfl)) (by omega) hfr)
   ·rcases Bool.eq_false_or_eq_true other with h1|h1
    ·have hr:=retM h1
     refine AA ?_
     exact W.skipCut 0 .auto ⟨rfl,by omega,by unfold kidsOf;rw [h1];rfl⟩
    ·refine AA ?_
     exact R.callPan rfl rfl (panM h1) (bad (hnone (by unfold kidsOf;rw [h1];rfl)) (by omega) hfr)
   ·rcases hop with rfl|rfl|rfl <;>
    ·refine AA ?_
     exact W.skipCut 0 .auto ⟨rfl,by omega,rfl⟩
   ·rcases hop with rfl|rfl|rfl|rfl|rfl <;>
    ·refine AA ?_
     exact W.skipCut 2 .auto ⟨rfl,by omega,rfl⟩
   ·have e1:(op==1)=false:=by simpa using n1
    have e2:(op==2)=false:=by simpa using n2
    have e3:(op==3)=false:=by simpa using n3
    have e4:(op==4)=false:=by simpa using n4
    have e5:(op==5)=false:=by simpa using n5
    have e6:(op==6)=false:=by simpa using n6
    have e7:(op==7)=false:=by simpa using n7
    have e8:(op==8)=false:=by simpa using n8
    have e9:(op==9)=false:=by simpa using n9
    have e10:(op==10)=false:=by simpa using n10
    refine AA ?_
    exact R.callPan rfl rfl pan86 (bad (hnone (by unfold kidsOf;simp [n1,n2,n3,n4,n5,n6,n7,n8,n9,n10])) (by omega) hfr)
  rintro k nx2 G2 ⟨rfl,hx2,hk⟩
  rw [hk] at hmk
  dsimp only at hmk
  have hlv:(Trm.ivs kids).length=kids.length:=tivs_len kids
  have bad2:(kids.length≠k\/(op≠1/\n'≠0))->calcR (.mk op n' kids) other depth (60-n) = -1:=fun h=>by rw [hmk,if_pos h]
  refine W.cut (X:=Unit) (fun _=>[(0, .ptr o 0),(2, .imm (.bool other)),(3, .imm (.int .i64 depth)),(5, .ptr (nx+0) 0)])
   (fun _ nx3 G3=>G3=G2/\nx2<=nx3/\kids.length=k/\(op=1\/n'=0)) ?_ ?_
  ·rcases Bool.eq_false_or_eq_true (((Trm.ivs kids).length:Int)==(k:Int)) with hA|hA
   ·have hA':kids.length=k:=by rw [hlv] at hA;simp at hA;omega
    rcases Bool.eq_false_or_eq_true (op==1) with hB|hB
    ·have hr:=retM (b:=true) rfl
     refine AA ?_
     exact W.skipCut () .auto ⟨rfl,by omega,hA', .inl (by simpa using hB)⟩
    ·rcases Bool.eq_false_or_eq_true (n'==0) with hN|hN
     ·have hr:=retM hN
      refine AA ?_
      exact W.skipCut () .auto ⟨rfl,by omega,hA', .inr (by simpa using hN)⟩
     ·refine AA ?_
      exact R.callPan rfl rfl (panM hN) (bad (bad2 (.inr ⟨by simpa using hB,by simpa using hN⟩)) (by omega) hfr)
   ·refine AA ?_
    exact R.callPan rfl rfl pan86 (bad (bad2 (.inl (by rw [hlv] at hA;simp at hA;omega))) (by omega) hfr)
  rintro _ nx3 G3 ⟨rfl,hx3,hA,hB⟩
  rw [if_neg (by omega)] at hmk
  refine AA ?_
  refine W.loop (X:=Nat×Int) (fun x=>[(0, .ptr o 0),(2, .imm (.bool other)),(3, .imm (.int .i64 depth)),(59, .imm (.lst (Trm.ivs kids))),(60, .imm (.int .i64 (Trm.ivs kids).length)),(61, .imm (.int .i64 x.1))])
   (fun x nx2 G2=>G2 o = .box [a,b,cc,d, .imm (.int .i64 (n+x.2))] false/\(∀ q,q < nx->q≠o->G2 q=G q)/\nx+1<=nx2/\x.1<=kids.length/\(1<=x.2/\x.2<=60-n)/\calcR (.mk op n' kids) other depth (60-n)=calcRs (kids.drop x.1) other depth (60-n) x.2)
   (fun x=>kids.length-x.1) (0,1) .auto ⟨h2,hfr,by omega,Nat.zero_le _,by dsimp only;omega,hmk⟩ ?_
  clear h2 hfr hmk bad2 hx2 hx3
  rintro ⟨i,m⟩ nx2 G2 ⟨hGo,hfr,hx,hi,hm,he⟩
  dsimp only at hGo hi hm he ⊢
  rcases Bool.eq_false_or_eq_true (decide ((i:Int) < ((Trm.ivs kids).length:Int))) with hc|hc
  ·have hlt:i < kids.length:=by have:=of_decide_eq_true hc;omega
   obtain ⟨kid,hxk⟩:=at_lt hlt
   have hxi:=tivs_at hxk
   have hcl:=kid.cells_len
   have ihk:=@ih kid (List.mem_of_getElem? hxk)
   have hle:=calcR_le kid other (depth+1) (60-n-m)
   rw [calcRs_drop hxk] at he
   have hmu:kids.length-(i+1) < kids.length-i:=by omega
   obtain ⟨o',m',k'⟩:=kid
   refine AA ?_
   refine R.callBP rfl rfl rfl rfl rfl ((ihk (n:=n+m) (other:=other) at_upd (by omega) (by omega) (by omega)).mono fun r hr=>?_)
   rw [show (60:Int)-(n+m)=60-n-m by omega] at hr
   cases r with
   |pan u G' nx'=>
    obtain ⟨rfl,g1,g2,g3⟩:=hr
    rw [if_pos g1] at he
    exact bad he (by omega) fun q h4 h5=>(g3 q (by omega) h5).trans (Eq.trans at_upd (hfr q h4 h5))
   |ret v G' nx'=>
    obtain ⟨rfl,g1,g2,g3,g4⟩:=hr
    rw [if_neg (by omega)] at he
    refine AA ?_
    refine W.skipLop (i+1,m+calcR (.mk o' m' k') other (depth+1) (60-n-m)) hmu .auto ⟨?_,fun q h4 h5=>(g4 q (by omega) h5).trans (Eq.trans at_upd (hfr q h4 h5)),by omega,hlt,?_,he⟩
    ·rw [g2,Int.add_assoc]
    ·dsimp only
     have:=hle g1
     omega
  ·have hge:kids.length<=i:=by have:=of_decide_eq_false hc;omega
   rw [List.drop_eq_nil_of_le hge,calcRs] at he
   rw [he]
   refine AA ?_
   exact W.skipFinP rfl ⟨rfl,by omega,hGo,by omega,hfr⟩
end Go.Abs
