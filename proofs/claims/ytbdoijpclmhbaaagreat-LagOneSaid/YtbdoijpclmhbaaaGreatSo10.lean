/- The reference: the groups of definitions, in their order. -/
import Derived.Test.YtbdoijpclmhbaaaGreatSo9
open Go Go.Abs
namespace Go.Abs
set_option maxRecDepth 100000
set_option maxHeartbeats 4000000
instance fnis445:FnIs CC 145:=⟨rfl,fun _=>rfl⟩
def RowI (lo hi:Nat) (G:Nat->Obj) (v:AV) (g:List Nat):Prop:=v = .imm (natsIV g)\/∃ o,lo<=o/\o < hi/\v = .row o g.length/\G o = .row 3 1 ((g.map natIV).map .imm) false
theorem RowI.frame {G G':Nat->Obj} {lo hi hi':Nat} {v:AV} {g:List Nat} (h:RowI lo hi G v g) (hh:hi<=hi') (hG:∀ o,lo<=o->o < hi->G' o=G o):RowI lo hi' G' v g:=by
 rcases h with h|⟨o,h0,h1,h2,h3⟩
 ·exact .inl h
 ·exact .inr ⟨o,h0,by omega,h2,by rw [hG o h0 h1];exact h3⟩
theorem RowI.rdx {G:Nat->Obj} {lo hi:Nat} {v:AV} {g:List Nat} (h:RowI lo hi G v g):Rdx 1 G (fun o=>lo<=o/\o < hi) v (natsIV g):=by
 rcases h with rfl|⟨o,h0,h1,rfl,h3⟩
 ·exact Rdx.imm ..
 ·exact Rdx.row h3 (by simp) (All2.imms ..) ⟨h0,h1⟩
theorem RowI.fits {G:Nat->Obj} {lo hi:Nat} {v:AV} {g:List Nat} (h:RowI lo hi G v g):v.fits 1=true:=by
 rcases h with rfl|⟨o,h0,h1,rfl,h3⟩<;>rfl
theorem All2.at {α β:Type} {R:α->β->Prop}:∀ {l:List α} {m:List β},All2 R l m->∀ {i:Nat} {y:β},m[i]? = some y->∃ x,l[i]? = some x/\R x y
 |[],[],_,_,_,h=>by simp at h
 |x::l,y::m,h,0,z,hz=>by
  simp at hz;subst hz;exact ⟨x,rfl,h.1⟩
 |x::l,y::m,h,i+1,z,hz=>by
  simp at hz
  obtain ⟨w,h1,h2⟩:=All2.at h.2 hz
  exact ⟨w,by simpa using h1,h2⟩
def boolsA (n:Nat) (done:List Nat):List AV:=(List.range n).map fun d => .imm (.bool (done.contains d))
theorem boolsA_nil (n:Nat):List.replicate n (AV.imm (.bool false))=boolsA n []:=by
 unfold boolsA
 rw [show (fun d:Nat=>AV.imm (IV.bool (([]:List Nat).contains d)))=fun _=>AV.imm (.bool false) from rfl,List.map_const',List.length_range]
theorem boolsA_len (n:Nat) (done:List Nat):(boolsA n done).length=n:=by simp [boolsA]
theorem boolsA_at {n:Nat} {done:List Nat} {d:Nat} (hd:d < n):(boolsA n done)[(d:Int).toNat]? = some (.imm (.bool (done.contains d))):=by
 rw [Int.toNat_natCast,boolsA,List.getElem?_map,List.getElem?_range hd];rfl
theorem boolsA_set {n:Nat} {done:List Nat} {d:Nat} (hd:d < n):(boolsA n done).set d (.imm (.bool true))=boolsA n (done++[d]):=by
 refine List.ext_getElem? fun i=>?_
 unfold boolsA
 rw [List.getElem?_set]
 simp only [List.length_map,List.length_range,List.getElem?_map]
 by_cases hi:d=i
 ·subst hi;simp [hd]
 ·rw [if_neg hi]
  rcases Nat.lt_or_ge i n with h|h
  ·rw [List.getElem?_range h]
   have:(done++[d]).contains i=done.contains i:=by
    rw [Bool.eq_iff_iff,List.contains_iff_mem,List.contains_iff_mem,List.mem_append,List.mem_singleton]
    exact ⟨fun h=>h.elim id fun e=>absurd e.symm hi, .inl⟩
   simp only [Option.map_some,this]
  ·rw [List.getElem?_eq_none (by simpa using h)];rfl
def OutV (Q hi:Nat) (G:Nat->Obj) (v:AV) (out:List (List Nat)):Prop:=(out=[]/\v = .nils)\/∃ o ws,Q < o/\o < hi/\v = .row o ws.length/\G o = .row 44 1 ws false/\All2 (RowI 10 Q G) ws out
theorem OutV.frame {Q hi hi':Nat} {G G':Nat->Obj} {v:AV} {out:List (List Nat)} (h:OutV Q hi G v out) (hh:hi<=hi') (hG:∀ o,10<=o->o < hi->o≠Q->G' o=G o) (hQ:Q<=hi) (h10:10<=Q):OutV Q hi' G' v out:=by
 rcases h with h|⟨o,ws,h1,h2,h3,h4,h5⟩
 ·exact .inl h
 ·exact .inr ⟨o,ws,h1,by omega,h3,by rw [hG o (by omega) h2 (by omega)];exact h4,h5.imp fun _ _ h=>h.frame (Nat.le_refl _) fun o h6 h7=>hG o h6 (by omega) (by omega)⟩
theorem OutV.elems {Q hi:Nat} {G:Nat->Obj} {v:AV} {out:List (List Nat)} (h:OutV Q hi G v out):∃ ws,Go.Abs.elems G v=some ws/\ws.length=out.length:=by
 rcases h with ⟨rfl,rfl⟩|⟨o,ws,h1,h2,rfl,h4,h5⟩
 ·exact ⟨[],rfl,rfl⟩
 ·exact ⟨ws,by simp [Go.Abs.elems,h4],h5.length⟩
theorem O.lenQ {C:Cfg} {id:Nat} {l:Env} {G:Nat->Obj} {nx:Nat} {df:List (AV×List AV)} {pk:Pk} {x:Operand} {t:TypeId} {k:TyI} {e' Q hi:Nat} {v:AV} {out:List (List Nat)} [hk:TyIs C t k] (hx:lookO l x=some v) (hl:k.d = .sl e') (ho:OutV Q hi G v out):OpV C id l G nx df pk (.call { callee := .builtin .len,args := #[x],argTypes := #[t] }) (.imm (.int .i64 out.length)) []:=by
 obtain ⟨vs,h1,h2⟩:=ho.elems
 exact O.len (m:=out.length) hx (by rw [hl];simp [lenA,h1,h2])
theorem R.appQ {C:Cfg} {nt:Nat} {ol r:List Oper} {base i:Nat} {l:Env} {G:Nat->Obj} {nx:Nat} {df:List (AV×List AV)} {pk:Pk} {Φ:Out->Prop} {x y:Operand} {t u:TypeId} {Q hi d:Nat} {k ke:TyI} {out:List (List Nat)} {v w a:AV} {g:List Nat} {ty:TypeId} {pos:String} {af:Array Edge} [hk:TyIs C t k] (ht:k.d = .sl 44) [he:TyIs C 44 ke] (hz1:ke.sz=1) (hu:Nat.beq t u=true) (hx:lookO l x=some v) (ho:OutV Q hi G v out) (hy:lookO l y=some w) (hw:elems G w=some [a]) (ha:RowI 10 Q G a g)
  (hb:ke.bytes<=4096) (hz:ke.zero.fits 1=true) (hm:out.length+1<=most) (hid:hi<=base+i/\Q < base+i) (hd:Nat.ble (d+1) nt=true)
  (next:∀ v' G',OutV Q (base+i+1) G' v' (out++[g])->(∀ o,o<=Q->G' o=G o)->R C nt ol base (i+1) r ((d,v')::l) G' nx df pk Φ) :
  R C nt ol base i (⟨some d, .call { callee := .builtin .append,args := #[x,y],argTypes := #[t,u] },ty,pos,af,none⟩::r) l G nx df pk Φ:=by
 have hfa:[a].all (AV.fits ke.sz)=true:=by rw [hz1];simp [ha.fits]
 rcases ho with ⟨rfl,rfl⟩|⟨o,ws,h1,h2,rfl,hG,hall⟩
 ·refine R.op1 (O.appNil ht hu hx hy hw (by omega) hb (by rw [hz1];exact hz) hfa (by simpa using hm)) hd (next _ _ (.inr ⟨base+i,[a],hid.2,by omega,rfl,by rw [upd_same,hz1],?_,trivial⟩) fun o ho=>upd_ne _ _ _ _ (by omega))
  exact ha.frame (Nat.le_refl _) fun o h1 h2=>upd_ne _ _ _ _ (by omega)
 ·have hl:=hall.length
  refine R.op1 (O.appRow ht hu hx (by rw [hG,hz1]) rfl hy hw (by omega) hb (by rw [hz1];exact hz) hfa (by rw [hl];simpa using hm)) hd (next _ _ (.inr ⟨o,ws++[a],h1,by omega,rfl,by rw [upd_same,hz1],?_⟩) fun o' ho'=>upd_ne _ _ _ _ (by omega))
  exact All2.append (hall.imp fun _ _ h=>h.frame (Nat.le_refl _) fun o' h1 h2=>upd_ne _ _ _ _ (by omega)) ⟨ha.frame (Nat.le_refl _) fun o' h1 h2=>upd_ne _ _ _ _ (by omega),trivial⟩
theorem rows_rdx {lo hi:Nat} {G:Nat->Obj}:∀ {ws:List AV} {out:List (List Nat)},All2 (RowI lo hi G) ws out->All2 (Rdx 1 G fun _=>True) ws (out.map natsIV)
 |[],[],_=>trivial
 |_::_,_::_,h=>⟨h.1.rdx.frame (fun _ _=>rfl) fun _ _=>trivial,rows_rdx h.2⟩
def bestI:Option Nat->Int
 |none => -1
 |some j=>j
noncomputable def rdTo (tos:List (List Nat)) (done:List Nat) (f k:Nat):Bool:=((List.range k).all fun k => !reachB tos f k||reachB tos k f||done.contains k) && !done.contains f
theorem rdTo_succ (tos:List (List Nat)) (done:List Nat) (f k:Nat):rdTo tos done f (k+1)=(rdTo tos done f k&&(!reachB tos f k||reachB tos k f||done.contains k)):=by
 unfold rdTo
 rw [List.range_succ,List.all_append]
 simp only [List.all_cons,List.all_nil,Bool.and_true]
 generalize (List.range k).all _=a
 cases a<;>simp [Bool.and_comm]
theorem rdTo_end {tos:List (List Nat)} {done:List Nat} {f:Nat} (hf:f < tos.length):rdTo tos done f tos.length=readyR tos done f:=by
 rw [ready_ref hf,Bool.and_comm];rfl
theorem rowsI_imm (lo hi:Nat) (G:Nat->Obj):∀ l:List (List Nat),All2 (RowI lo hi G) ((l.map natsIV).map .imm) l
 |[]=>trivial
 |_::l=>⟨.inl rfl,rowsI_imm lo hi G l⟩
theorem ret445 {p:Pgm} (hg:p.Good) (hp:p.Fits):Ret CC 145 [p.iv] (.lst ((orderR (tosR p)).map natsIV)):=by
 have h53:=hg.ret53 hp
 have h55:=hg.ret55 hp
 have hn:(tosR p).length=p.defs.length:=hg.steps.2.1
 have hd6:=hg.defs
 have hrl:=ringsOf_len hg
 have hcell:∀ i j,i < (tosR p).length->j < (tosR p).length->∃ row,((reachR (tosR p)).map boolsIV)[(i:Int).toNat]? = some (boolsIV row)/\(row.map IV.bool)[(j:Int).toNat]? = some (.bool (reachB (tosR p) i j)):=by
  intro i j hi hj
  refine ⟨reachRow (tosR p) (tosR p).length i,?_,?_⟩
  ·rw [Int.toNat_natCast,List.getElem?_map,reachR,List.getElem?_map,List.getElem?_range hi];rfl
  ·rw [Int.toNat_natCast,reachRow,List.map_map,List.getElem?_map,List.getElem?_range hj];rfl
 have hgr:groupsR (tosR p)=ringsOf p++((List.range (tosR p).length).filter fun d => !reachB (tosR p) d d).map fun d=>[d]:=rfl
 generalize tosR p=tos at *
 generalize ringsOf p=rings at *
 generalize hM:(reachR tos).map boolsIV=M at *
 have hMl:M.length=tos.length:=by rw [<-hM,List.length_map,reachR_len]
 obtain ⟨srcs,defs⟩:=p
 simp only at hn hd6
 have hdm:(defs.map Dfn.iv).length=tos.length:=by rw [List.length_map,hn]
 refine Ret.of (fn:=Go.Proofs.Tryz.f145) (by kernel_rfl) rfl rfl ?_
 refine W.seq (W.region ?_)
 refine R.op1 (O.boxS (cs:=[.imm (.lst (srcs.map sv)), .imm (.lst (defs.map Dfn.iv))]) rfl rfl rfl) rfl ?_
 refine BB ?_
 refine R.op1 (O.appNil (k:=ty34) (ke:=ty30) (ys:=(rings.map natsIV).map .imm) rfl rfl rfl rfl rfl (by decide) (by decide) rfl (by simp;intro x _;rfl) (by simp only [List.length_map,most];omega)) rfl ?_
 refine BB ?_
 refine W.loop (X:=Nat×List AV) (fun x=>[(1, .ptr 0 0),(3, .imm (.lst M)),(5, .row 9 x.2.length),(6, .imm (.int .i64 x.1))])
  (fun x nx G=>G 0 = .box [.imm (.lst (srcs.map sv)), .imm (.lst (defs.map Dfn.iv))] false/\12<=nx/\x.1<=tos.length/\G 9 = .row 44 1 x.2 false/\All2 (RowI 10 nx G) x.2 (rings++((List.range x.1).filter fun d => !reachB tos d d).map fun d=>[d]))
  (fun x=>tos.length-x.1) (0,(rings.map natsIV).map .imm) .auto ⟨rfl,by decide,Nat.zero_le _,rfl,?_⟩ ?_
 ·simp only [List.range_zero,List.filter_nil,List.map_nil,List.append_nil]
  exact rowsI_imm _ _ _ _
 rintro ⟨i,vs⟩ nx G ⟨hG0,hnx,hi,hG9,hvs⟩
 dsimp only at hi hG9 hvs ⊢
 have hvl:=hvs.length
 refine BB ?_
 refine W.cond rfl (fun h1=>?_) (fun h1=>?_)
 ·have h1':i < tos.length:=by have:=of_decide_eq_true h1;rw [hdm] at this;omega
  obtain ⟨row,c1,c2⟩:=hcell i i h1' h1'
  have hmu:tos.length-(i+1) < tos.length-i:=by omega
  have hs:(List.range (i+1)).filter (fun d => !reachB tos d d)=(List.range i).filter (fun d => !reachB tos d d)++(if reachB tos i i then [] else [i]):=by
   rw [List.range_succ,List.filter_append]
   congr 1
   cases h:reachB tos i i<;>simp [h]
  cases hb:reachB tos i i with
  |true=>
   rw [hb] at c2 hs
   rw [if_pos rfl,List.append_nil] at hs
   refine BB ?_
   refine W.skipLop (i+1,vs) hmu .auto ⟨hG0,by omega,h1',hG9,?_⟩
   show All2 (RowI 10 _ G) vs (rings++((List.range (i+1)).filter fun d => !reachB tos d d).map fun d=>[d])
   rw [hs]
   exact hvs.imp fun _ _ h=>h.frame (by omega) fun _ _ _=>rfl
  |false=>
   rw [hb] at c2 hs
   rw [if_neg (by decide)] at hs
   have hlen:vs.length<=12:=by
    rw [hvl,List.length_append,List.length_map]
    have:=List.length_filter_le (fun d => !reachB tos d d) (List.range i)
    rw [List.length_range] at this
    omega
   refine BB ?_
   generalize hB:nx+(0+1+1+1+1+1)+(0+1+1+1+1+1+1+1+1)=B
   refine R.op1 (O.appRow (k:=ty34) (ke:=ty30) (xs:=vs) (ys:=[.row (B+(0+1+1)) 1]) (o:=9) rfl rfl rfl (by rw [upd_ne _ _ _ _ (by omega),upd_ne _ _ _ _ (by omega)];exact hG9) rfl rfl (by simp [elems,upd]) (by decide) (by decide) rfl rfl (by simp only [List.length_cons,List.length_nil,most];omega)) rfl ?_
   refine BB ?_
   refine W.skipLop (i+1,vs++[.row (B+2) 1]) hmu .auto ⟨?_,by omega,h1',upd_same ..,?_⟩
   ·rw [upd_ne _ _ _ _ (by omega),upd_ne _ _ _ _ (by omega),upd_ne _ _ _ _ (by omega)];exact hG0
   ·show All2 _ (vs++[.row (B+2) 1]) (rings++((List.range (i+1)).filter fun d => !reachB tos d d).map fun d=>[d])
    rw [hs,List.map_append,<-List.append_assoc]
    refine All2.append (hvs.imp fun _ _ h=>h.frame (by omega) fun o h1 h2=>?_) ⟨.inr ⟨B+2,by omega,by omega,rfl,?_⟩,trivial⟩
    ·rw [upd_ne _ _ _ _ (by omega),upd_ne _ _ _ _ (by omega),upd_ne _ _ _ _ (by omega)]
    ·rw [upd_ne _ _ _ _ (by omega),upd_ne _ _ _ _ (by omega),upd_same];rfl
 ·have h1':tos.length<=i:=by have:=of_decide_eq_false h1;rw [hdm] at this;omega
  have:i=tos.length:=by omega
  subst this
  rw [<-hgr] at hvs
  refine BB ?_
  refine R.op1 (O.makeSlice (ke:=ty4) rfl inferInstance rfl rfl ⟨by rw [hdm];omega,Int.le_refl _,by rw [hdm];unfold most;omega⟩ (by decide) rfl (by decide)) rfl ?_
  refine BB ?_
  rw [hdm,Int.toNat_natCast,show ty4.zero=AV.imm (.bool false) from rfl,boolsA_nil]
  generalize hQ:nx+(0+1+1+1+1+1)+(0+1+1+1)=Q
  refine W.loop (X:=List Nat×List (List Nat)×AV) (fun x=>[(1, .ptr 0 0),(3, .imm (.lst M)),(5, .row 9 vs.length),(7, .row Q tos.length),(8,x.2.2)])
   (fun x nx G=>G 0 = .box [.imm (.lst (srcs.map sv)), .imm (.lst (defs.map Dfn.iv))] false/\Q+1<=nx/\G 9 = .row 44 1 vs false/\All2 (RowI 10 Q G) vs (groupsR tos)/\G Q = .row 4 1 (boolsA tos.length x.1) false/\OutV Q nx G x.2.2 x.2.1 /\
    DoneIs tos x.1/\x.2.1.Nodup/\(∀ g∈x.2.1,g∈groupsR tos)/\(∀ g∈groupsR tos,g∈x.2.1↔∀ k∈g,k∈x.1)/\x.2.1++orderTo tos (tos.length-x.2.1.length) x.1=orderR tos/\x.2.1.length<=x.1.length)
   (fun x=>tos.length-x.1.length) ([],[], .nils) .auto ⟨?_,by omega,?_,?_,upd_same .., .inl ⟨rfl,rfl⟩,DoneIs.nil,List.nodup_nil,fun _ h=>absurd h List.not_mem_nil,fun g hg=>⟨fun h=>absurd h List.not_mem_nil,fun h=>?_⟩,rfl,Nat.le_refl _⟩ ?_
  ·rw [upd_ne _ _ _ _ (by omega)];exact hG0
  ·rw [upd_ne _ _ _ _ (by omega)];exact hG9
  ·exact hvs.imp fun _ _ h=>h.frame (by omega) fun o h1 h2=>upd_ne _ _ _ _ (by omega)
  ·obtain ⟨f,r,_,e,_⟩:=groups_is hg
   subst e
   exact absurd (h f (List.mem_cons_self ..)) List.not_mem_nil
  clear hvs hG9 hG0
  rintro ⟨done,out,v⟩ nx2 G2 ⟨hG0,hnx2,hG9,hvs,hG7,hout,hdone,hnd,hsub,hiff,hord,hle⟩
  dsimp only at hG7 hout hdone hnd hsub hiff hord hle ⊢
  have hiffl:=groups_done hdone hnd hsub hiff
  have hvl:vs.length=(groupsR tos).length:=hvs.length
  have hgl12:(groupsR tos).length<=12:=by
   rw [hgr,List.length_append,List.length_map]
   have:=List.length_filter_le (fun d => !reachB tos d d) (List.range tos.length)
   rw [List.length_range] at this
   omega
  refine BB ?_
  refine R.op0 (O.lenQ rfl rfl hout) rfl ?_
  refine BB ?_
  refine W.cond rfl (fun h2=>?_) (fun h2=>?_)
  ·have h2':out.length < (groupsR tos).length:=by have:=of_decide_eq_true h2;rw [hvl] at this;omega
   have hlt:=hiffl.1 h2'
   refine BB ?_
   refine W.loop (X:=Nat×Option Nat) (fun x=>[(1, .ptr 0 0),(3, .imm (.lst M)),(5, .row 9 vs.length),(7, .row Q tos.length),(8,v),(9, .imm (.int .i64 (bestI x.2))),(10, .imm (.int .i64 x.1))])
    (fun x nx G=>G=G2/\nx2<=nx/\x.1<=(groupsR tos).length/\BestIs tos done x.1 x.2) (fun x=>(groupsR tos).length-x.1) (0,none) .auto ⟨rfl,by omega,Nat.zero_le _,BestIs.zero⟩ ?_
   rintro ⟨g,best⟩ nx3 G3 ⟨hGe,hnx3,hg3,hbest⟩
   subst hGe
   dsimp only at hg3 hbest ⊢
   refine BB ?_
   refine W.cond rfl (fun h3=>?_) (fun h3=>?_)
   ·have h3':g < (groupsR tos).length:=by have:=of_decide_eq_true h3;rw [hvl] at this;omega
    obtain ⟨gr,hgr3⟩:=at_lt h3'
    obtain ⟨w,hw,hrow⟩:=hvs.at hgr3
    obtain ⟨f,r,hf,rfl,_⟩:=groups_is (List.mem_of_getElem? hgr3)
    have hw':vs[(g:Int).toNat]? = some w:=by rw [Int.toNat_natCast];exact hw
    have hwf:=hrow.fits
    have hdf:=boolsA_at (n:=tos.length) (done:=done) hf
    have hdl:=boolsA_len tos.length done
    have e0:((f::r).map natIV)[((0:Int)).toNat]? = some (natIV f):=rfl
    have e1:(((f::r).map natIV).map AV.imm)[((0:Int)).toNat]? = some (.imm (natIV f)):=rfl
    have e2:(((f::r).map natIV).map AV.imm).length=(f::r).length:=by simp
    have e3:0 < (f::r).length:=Nat.succ_pos _
    rcases hrow with rfl|⟨ow,ho1,ho2,rfl,ho4⟩
    all_goals
     refine BB ?_
     refine W.loop (X:=Nat×Bool) (fun x=>[(1, .ptr 0 0),(3, .imm (.lst M)),(5, .row 9 vs.length),(7, .row Q tos.length),(8,v),(9, .imm (.int .i64 (bestI best))),(10, .imm (.int .i64 g)),(11, .imm (natIV f)),(12, .imm (.bool x.2)),(13, .imm (.int .i64 x.1))])
      (fun x nx G=>G=G3/\nx3<=nx/\x.1<=tos.length/\x.2=rdTo tos done f x.1) (fun x=>tos.length-x.1) (0, !(done.contains f)) .auto ⟨rfl,by omega,Nat.zero_le _,rfl⟩ ?_
     rintro ⟨k,rd⟩ nx4 G4 ⟨hGe,hnx4,hk,hrd⟩
     subst hGe
     dsimp only at hk hrd ⊢
     refine BB ?_
     refine W.cond rfl (fun h4=>?_) (fun h4=>?_)
     ·have h4':k < tos.length:=by have:=of_decide_eq_true h4;rw [hdm] at this;omega
      obtain ⟨row1,c1,c2⟩:=hcell f k hf h4'
      obtain ⟨row2,d1,d2⟩:=hcell k f h4' hf
      have hdk:=boolsA_at (n:=tos.length) (done:=done) h4'
      have hmu:tos.length-(k+1) < tos.length-k:=by omega
      have hs:=rdTo_succ tos done f k
      rw [<-hrd] at hs
      clear hrd
      generalize reachB tos f k=x at c2 hs
      generalize reachB tos k f=y at d2 hs
      generalize done.contains k=z at hdk hs
      cases rd
      ·refine BB ?_
       exact W.skipLop (k+1,false) hmu .auto ⟨rfl,by omega,h4',hs.symm⟩
      ·cases x
       ·refine BB ?_
        exact W.skipLop (k+1,true) hmu .auto ⟨rfl,by omega,h4',hs.symm⟩
       ·cases y
        ·refine BB ?_
         exact W.skipLop (k+1,z) hmu .auto ⟨rfl,by omega,h4',hs.symm⟩
        ·refine BB ?_
         exact W.skipLop (k+1,true) hmu .auto ⟨rfl,by omega,h4',hs.symm⟩
     ·have h4':¬ k < tos.length:=by have:=of_decide_eq_false h4;rw [hdm] at this;omega
      have:k=tos.length:=by omega
      subst this
      rw [rdTo_end hf] at hrd
      have hmu:(groupsR tos).length-(g+1) < (groupsR tos).length-g:=by omega
      cases rd with
      |false=>
       refine BB ?_
       exact W.skipLop (g+1,best) hmu .auto ⟨rfl,by omega,h3',hbest.skip hgr3 (.inl hrd.symm)⟩
      |true=>
       cases best with
       |none=>
        have hb0:decide (bestI none < 0)=true:=rfl
        refine BB ?_
        exact W.skipLop (g+1,some g) hmu .auto ⟨rfl,by omega,h3',hbest.take hgr3 hrd.symm (.inl rfl)⟩
       |some j=>
        obtain ⟨hjg,f1,r1,hj1,hj2,hj3⟩:=hbest.some j rfl
        obtain ⟨w1,hw1,hrow1⟩:=hvs.at hj1
        have hb0:decide (bestI (some j) < 0)=false:=decide_eq_false (by show ¬ ((j:Int) < 0);omega)
        have hw1':vs[(bestI (some j)).toNat]? = some w1:=by show vs[(j:Int).toNat]? = _;rw [Int.toNat_natCast];exact hw1
        have i0:((f1::r1).map natIV)[((0:Int)).toNat]? = some (natIV f1):=rfl
        have i1:(((f1::r1).map natIV).map AV.imm)[((0:Int)).toNat]? = some (.imm (natIV f1)):=rfl
        have i2:(((f1::r1).map natIV).map AV.imm).length=(f1::r1).length:=by simp
        have i3:0 < (f1::r1).length:=Nat.succ_pos _
        have i4:bestI (some j)=(j:Int):=rfl
        have i5:j < vs.length:=by omega
        rcases hrow1 with rfl|⟨ow1,hp1,hp2,rfl,hp4⟩
        all_goals
         by_cases hff:f < f1
         ·have hff':decide ((f:Int) < (f1:Int))=true:=decide_eq_true (by omega)
          refine BB ?_
          exact W.skipLop (g+1,some g) hmu .auto ⟨rfl,by omega,h3',hbest.take hgr3 hrd.symm (.inr ⟨j,f1,r1,rfl,hj1,hff⟩)⟩
         ·have hff':decide ((f:Int) < (f1:Int))=false:=decide_eq_false (by omega)
          refine BB ?_
          exact W.skipLop (g+1,some j) hmu .auto ⟨rfl,by omega,h3',hbest.skip hgr3 (.inr ⟨j,f1,r1,rfl,hj1,by omega⟩)⟩
   ·have h3':¬ g < (groupsR tos).length:=by have:=of_decide_eq_false h3;rw [hvl] at this;omega
    have:g=(groupsR tos).length:=by omega
    subst this
    obtain ⟨j,d,hbj,hj,hnext,hd,hdn⟩:=hbest.fin hdone hlt
    subst hbj
    have hjl:j < (groupsR tos).length:=(List.getElem?_eq_some_iff.1 hj).1
    obtain ⟨w,hw,hrow⟩:=hvs.at hj
    have hw':vs[(j:Int).toNat]? = some w:=by rw [Int.toNat_natCast];exact hw
    have hwf:=hrow.fits
    have hgn:∀ k∈grpR tos d,k < tos.length:=fun k hk=>grp_lt hk
    have hgl:(grpR tos d).length<=6:=by
     have:=nodup_lt (grp_nodup (tos:=tos) d) hgn
     omega
    rw [show bestI (some j)=(j:Int) from rfl]
    have e2:(((grpR tos d).map natIV).map AV.imm).length=(grpR tos d).length:=by simp
    have e3:((grpR tos d).map natIV).length=(grpR tos d).length:=by simp
    refine BB ?_
    refine W.loop (X:=Nat) (fun i=>[(1, .ptr 0 0),(3, .imm (.lst M)),(5, .row 9 vs.length),(7, .row Q tos.length),(8,v),(9, .imm (.int .i64 j)),(14, .imm (.int .i64 i))])
     (fun i nx G=>nx3<=nx/\i<=(grpR tos d).length/\G Q = .row 4 1 (boolsA tos.length (done++(grpR tos d).take i)) false/\∀ o,o≠Q->G o=G3 o) (fun i=>(grpR tos d).length-i) 0 .auto ⟨by omega,Nat.zero_le _,by simpa using hG7,fun _ _=>rfl⟩ ?_
    rintro i nx4 G4 ⟨hnx4,hi4,hQ4,hfr4⟩
    have k9:G4 9=_:=(hfr4 9 (by omega)).trans hG9
    have k0:G4 0=_:=(hfr4 0 (by omega)).trans hG0
    have hrow4:RowI 10 Q G4 w (grpR tos d):=hrow.frame (Nat.le_refl _) fun o h1 h2=>hfr4 o (by omega)
    rcases hrow4 with rfl|⟨ow,ho1,ho2,rfl,ho4⟩
    all_goals
     refine BB ?_
     refine W.cond rfl (fun h4=>?_) (fun h4=>?_)
     ·have h4':i < (grpR tos d).length:=by have:=of_decide_eq_true h4;first|omega|(rw [e3] at this;omega)
      obtain ⟨k,hk⟩:=at_lt h4'
      have hkn:=hgn k (List.mem_of_getElem? hk)
      have q0:((grpR tos d).map natIV)[(i:Int).toNat]? = some (natIV k):=at_map natIV hk
      have q1:(((grpR tos d).map natIV).map AV.imm)[(i:Int).toNat]? = some (.imm (natIV k)):=by rw [List.getElem?_map,q0];rfl
      have hbl:=boolsA_len tos.length (done++(grpR tos d).take i)
      have hba:=boolsA_at (n:=tos.length) (done:=done++(grpR tos d).take i) hkn
      have hbs:=boolsA_set (n:=tos.length) (done:=done++(grpR tos d).take i) hkn
      have hmu:(grpR tos d).length-(i+1) < (grpR tos d).length-i:=by omega
      refine BB ?_
      refine R.opN1 (O.storeR (v := .imm (.bool true)) rfl rfl rfl rfl hQ4 hbl hba rfl rfl) ?_
      refine BB ?_
      refine W.skipLop (i+1) hmu .auto ⟨by omega,h4',?_,fun o ho=>by rw [upd_ne _ _ _ _ ho];exact hfr4 o ho⟩
      rw [upd_same,Int.toNat_natCast,hbs,List.take_add_one,hk,List.append_assoc]
      rfl
     ·have h4':¬ i < (grpR tos d).length:=by have:=of_decide_eq_false h4;first|omega|(rw [e3] at this;omega)
      have:i=(grpR tos d).length:=by omega
      subst this
      rw [List.take_length] at hQ4
      refine BB ?_
      have hout4:OutV Q (nx4+(0+1+1+1+1+1+1+1)) G4 v out:=hout.frame (by omega) (fun o h1 h2 h3=>hfr4 o h3) (by omega) (by omega)
      have holen:out.length+1<=most:=by unfold most;omega
      have hrw:∀ {G':Nat->Obj},(∀ o,o < Q->G' o=G4 o)->RowI 10 Q G' _ (grpR tos d):=fun hG=>(hvs.at hj).elim fun w' hw'=>by
       obtain ⟨h1,h2⟩:=hw'
       rw [hw] at h1
       cases h1
       exact h2.frame (Nat.le_refl _) fun o h3 h4=>(hG o h4).trans (hfr4 o (by omega))
      refine R.appQ (k:=ty34) (Q:=Q) (hi:=nx4+(0+1+1+1+1+1+1+1)) (g:=grpR tos d) rfl rfl rfl rfl (hout4.frame (Nat.le_refl _) (fun o h1 h2 h3=>upd_ne _ _ _ _ (by omega)) (by omega) (by omega)) rfl (by simp [elems,upd]) (hrw fun o ho=>upd_ne _ _ _ _ (by omega)) (by decide) rfl holen (by omega) rfl fun v' G' ho' hfr'=>?_
      have hmu:tos.length-(done++grpR tos d).length < tos.length-done.length:=by
       have:=List.length_pos_of_mem (grp_self hd)
       rw [List.length_append]
       omega
      have hG'':∀ o,o < Q->G' o=G3 o:=fun o ho=>(hfr' o (by omega)).trans ((upd_ne _ _ _ _ (by omega)).trans (hfr4 o (by omega)))
      refine BB ?_
      refine W.skipLop (done++grpR tos d,out++[grpR tos d],v') hmu .auto ⟨?_,by omega,?_,?_,?_,ho'.frame (by omega) (fun _ _ _ _=>rfl) (by omega) (by omega),hdone.step hd hdn,?_,?_,?_,?_,?_⟩
      ·exact (hG'' 0 (by omega)).trans hG0
      ·exact (hG'' 9 (by omega)).trans hG9
      ·exact hvs.imp fun _ _ h=>h.frame (Nat.le_refl _) fun o h1 h2=>hG'' o h2
      ·exact (hfr' Q (Nat.le_refl _)).trans ((upd_ne _ _ _ _ (by omega)).trans hQ4)
      ·refine List.nodup_append.2 ⟨hnd,List.nodup_cons.2 ⟨List.not_mem_nil,List.nodup_nil⟩,fun a ha b hb hab=>?_⟩
       rw [List.mem_singleton] at hb
       subst hb;subst hab
       exact hdn ((hiff _ (groups_all hd)).1 ha d (grp_self hd))
      ·intro x hx
       rcases List.mem_append.1 hx with hx|hx
       ·exact hsub x hx
       ·rw [List.mem_singleton] at hx;subst hx;exact groups_all hd
      ·intro x hx
       obtain ⟨f,r,hf,hxe,hxg⟩:=groups_is hx
       rw [List.mem_append,List.mem_singleton]
       constructor
       ·rintro (h|h) k hk
        ·exact List.mem_append_left _ ((hiff x hx).1 h k hk)
        ·exact List.mem_append_right _ (h▸hk)
       ·intro h
        have hfx:f∈x:=by rw [hxe];exact List.mem_cons_self ..
        rcases List.mem_append.1 (h f hfx) with hfd|hfd
        ·left
         refine (hiff x hx).2 fun k hk=>?_
         rw [hxg] at hk
         exact hdone.whole f hfd k hk
        ·right
         rw [hxg]
         exact grp_same hd hfd
      ·rw [<-hord]
       have:tos.length-out.length=(tos.length-(out++[grpR tos d]).length)+1:=by simp only [List.length_append,List.length_cons,List.length_nil];omega
       rw [this,orderTo,hnext,List.append_assoc]
       rfl
      ·have:=List.length_pos_of_mem (grp_self hd)
       simp only [List.length_append,List.length_cons,List.length_nil];omega
  ·have h2':¬ out.length < (groupsR tos).length:=by have:=of_decide_eq_false h2;rw [hvl] at this;omega
   have hge:tos.length<=done.length:=by
    refine Nat.le_of_not_lt fun hc=>h2' (hiffl.2 hc)
   rw [orderTo_end hdone hge,List.append_nil] at hord
   subst hord
   refine BB ?_
   rcases hout with ⟨h3,rfl⟩|⟨o,ws,h3,h4,rfl,h6,h7⟩
   ·refine W.retFin1 rfl ?_
    rw [h3]
    exact ⟨[],rfl⟩
   ·refine W.retFin1 rfl ?_
    exact (Rdx.row (d:=1) (P:=fun _=>True) h6 rfl (rows_rdx h7) trivial).peek (by decide)
end Go.Abs

/- Rows of lags in memory. -/
open Go Go.Abs
namespace Go.Abs
set_option maxRecDepth 100000
set_option maxHeartbeats 4000000
def ty349:TyI:={ d:=TyD.sl 147,sz:=1,bytes:=24,zero:=AV.nils }
instance tyis349:TyIs CC 49 ty349:=⟨by kernel_rfl⟩
def ty346:TyI:={ d:=TyD.sl 49,sz:=1,bytes:=24,zero:=AV.nils }
instance tyis346:TyIs CC 46 ty346:=⟨by kernel_rfl⟩
def ty432:TyI:={ d:=TyD.sl 153,sz:=1,bytes:=24,zero:=AV.nils }
instance tyis432:TyIs CC 132 ty432:=⟨by kernel_rfl⟩
def ty433:TyI:={ d:=TyD.sl 132,sz:=1,bytes:=24,zero:=AV.nils }
instance tyis433:TyIs CC 133 ty433:=⟨by kernel_rfl⟩
def RowL (et lo hi:Nat) (G:Nat->Obj) (v:AV) (l:List Lg):Prop:=∃ o fr,lo<=o/\o < hi/\v = .row o l.length/\G o = .row et 4 ((l.map Lg.iv).map .imm) fr
section
variable {et lo hi lo' hi':Nat} {G G':Nat->Obj} {v:AV} {l:List Lg}
theorem RowL.frame (h:RowL et lo hi G v l) (h0:lo'<=lo) (hh:hi<=hi') (hG:∀ o,lo<=o->o < hi->(∃ xs fr,G o = .row et 4 xs fr)->G' o=G o):RowL et lo' hi' G' v l:=by
 obtain ⟨o,fr,h1,h2,h3,h4⟩:=h
 exact ⟨o,fr,by omega,by omega,h3,by rw [hG o h1 h2 ⟨_,_,h4⟩];exact h4⟩
theorem RowL.peek (h:RowL et lo hi G v l):∃ o,lo<=o/\o < hi/\Go.Abs.peek G pkDepth v=some (.lst (l.map Lg.iv),[o]):=by
 obtain ⟨o,fr,h1,h2,rfl,h4⟩:=h
 exact ⟨o,h1,h2,peek_row1 h4 (by simp)⟩
theorem RowL.fits (h:RowL et lo hi G v l):v.fits 1=true:=by
 obtain ⟨o,fr,_,_,rfl,_⟩:=h
 rfl
theorem RowL.rdx (h:RowL et lo hi G v l):Rdx 1 G (fun o=>lo<=o/\o < hi) v (.lst (l.map Lg.iv)):=by
 obtain ⟨o,fr,h1,h2,rfl,h4⟩:=h
 exact Rdx.row h4 (by simp) (All2.imms 0 _ _ _) ⟨h1,h2⟩
theorem Own.rowL (h:Own et 4 lo hi (l.map Lg.iv) G v) (hl:l≠[]):RowL et lo hi G v l:=by
 rcases h with ⟨h,_⟩|⟨o,h1,h2,h3,h4⟩
 ·exact absurd (List.map_eq_nil_iff.1 h) hl
 ·exact ⟨o,false,h1,h2,by rw [h3,List.length_map],h4⟩
end
theorem getD_range {L:List Lg} {n:Nat} (hl:L.length=n):(List.range n).map (fun s=>L.getD s Lg.z)=L:=by
 refine List.ext_getElem? fun s=>?_
 simp only [List.getElem?_map]
 by_cases hs:s < n
 ·rw [List.getElem?_range hs,List.getElem?_eq_getElem (by omega)]
  simp [List.getD_eq_getElem?_getD,List.getElem?_eq_getElem (show s < L.length by omega)]
 ·rw [List.getElem?_eq_none (by simp;omega),List.getElem?_eq_none (by omega)];rfl
def RowsL (et rt o lo hi:Nat) (G:Nat->Obj) (D:List (List Lg)):Prop:=∃ ws,ws.length=D.length/\G o = .row rt 1 ws false/\All2 (RowL et lo hi G) ws D
theorem RowsL.frame {et rt o lo hi lo' hi':Nat} {G G':Nat->Obj} {D:List (List Lg)} (h:RowsL et rt o lo hi G D) (ho:G' o=G o) (h0:lo'<=lo) (hh:hi<=hi') (hG:∀ o,lo<=o->o < hi->(∃ xs fr,G o = .row et 4 xs fr)->G' o=G o):RowsL et rt o lo' hi' G' D:=by
 obtain ⟨ws,h1,h2,h3⟩:=h
 exact ⟨ws,h1,by rw [ho];exact h2,h3.imp fun a b h=>h.frame h0 hh hG⟩
theorem All2.set {α β:Type} {R:α->β->Prop} {x:α} {y:β} (hxy:R x y):∀ {l:List α} {m:List β},All2 R l m->∀ i,All2 R (l.set i x) (m.set i y)
 |[],[],_,_=>trivial
 |[],_::_,h,_=>h.elim
 |_::_,[],h,_=>h.elim
 |_::_,_::_,h,0=>⟨hxy,h.2⟩
 |_::_,_::_,h,i+1=>⟨h.1,h.2.set hxy i⟩
theorem RowsL.set {et rt o lo hi:Nat} {G:Nat->Obj} {D:List (List Lg)} {v:AV} {l:List Lg} (h:RowsL et rt o lo hi G D) (hv:RowL et lo hi G v l) (d:Nat):∃ ws,ws.length=D.length/\G o = .row rt 1 ws false/\RowsL et rt o lo hi (upd G o (.row rt 1 (ws.set d v) false)) (D.set d l):=by
 obtain ⟨ws,h1,h2,h3⟩:=h
 refine ⟨ws,h1,h2,ws.set d v,by simp [h1],upd_same ..,All2.imp (fun a b h=>h.frame (Nat.le_refl _) (Nat.le_refl _) fun q hq1 hq2 ⟨xs,fr,hq⟩=>?_) (h3.set hv d)⟩
 by_cases e:q=o
 ·subst e;rw [h2] at hq;cases hq
 ·exact upd_ne _ _ _ _ e
def lagsIV (l:List Lg):IV := .lst (l.map Lg.iv)
theorem rowsL_rdx {et lo hi:Nat} {G:Nat->Obj}:∀ {ws:List AV} {E:List (List Lg)},All2 (RowL et lo hi G) ws E->All2 (Rdx 1 G fun _=>True) ws (E.map lagsIV)
 |[],[],_=>trivial
 |_::_,_::_,h=>⟨h.1.rdx.frame (fun _ _=>rfl) fun _ _=>trivial,rowsL_rdx h.2⟩
theorem RowsL.rdx {et rt o lo hi:Nat} {G:Nat->Obj} {E:List (List Lg)} (h:RowsL et rt o lo hi G E):Rdx 2 G (fun _=>True) (.row o E.length) (.lst (E.map lagsIV)):=by
 obtain ⟨ws,h1,h2,h3⟩:=h
 exact Rdx.row h2 h1 (rowsL_rdx h3) trivial
def RowV (et lo hi:Nat) (G:Nat->Obj) (v:AV) (l:List Lg):Prop:=v = .imm (lagsIV l)\/RowL et lo hi G v l
def RowsV (et rt lo hi:Nat) (G:Nat->Obj) (v:AV) (D:List (List Lg)):Prop:=v = .imm (.lst (D.map lagsIV))\/∃ o,o < hi/\v = .row o D.length/\RowsL et rt o lo hi G D
theorem RowV.frame {et lo hi lo' hi':Nat} {G G':Nat->Obj} {v:AV} {l:List Lg} (h:RowV et lo hi G v l) (h0:lo'<=lo) (hh:hi<=hi') (hG:∀ o,lo<=o->o < hi->(∃ xs fr,G o = .row et 4 xs fr)->G' o=G o):RowV et lo' hi' G' v l:=
 h.elim .inl fun h => .inr (h.frame h0 hh hG)
theorem All2.at' {α β:Type} {R:α->β->Prop} {l:List α} {m:List β} (h:All2 R l m) {i:Nat} {y:β} (hy:m[i]? = some y):∃ x,l[(i:Int).toNat]? = some x/\R x y:=by
 rw [Int.toNat_natCast];exact h.at hy
def mixL (n j:Nat) (f g:Nat->Lg):List Lg:=(List.range n).map fun s=>if s < j then f s else g s
section
variable {n j:Nat} {f g:Nat->Lg}
theorem mixL_len:(mixL n j f g).length=n:=by simp [mixL]
theorem mixL_ivlen:(((mixL n j f g).map Lg.iv).map AV.imm).length=n:=by simp [mixL]
theorem mixL_at {s:Nat} (hs:s < n):(mixL n j f g)[s]? = some (if s < j then f s else g s):=by simp [mixL,hs]
theorem mixL_ivat0 (hj:j < n):(((mixL n 0 f g).map Lg.iv).map AV.imm)[(j:Int).toNat]? = some (.imm (g j).iv):=by
 rw [Int.toNat_natCast,List.getElem?_map,List.getElem?_map,mixL_at hj,if_neg (Nat.not_lt_zero _)];rfl
theorem mixL_zero:mixL n 0 f g=(List.range n).map g:=by simp [mixL]
theorem mixL_one {a:Lg} (hj:j < n):(((mixL n 0 f fun _=>Lg.z).map Lg.iv).map AV.imm).set j (.imm a.iv)=(((List.range n).map fun s=>if j=s then a else Lg.z).map Lg.iv).map AV.imm:=by
 refine List.ext_getElem? fun s=>?_
 rw [List.getElem?_set]
 by_cases h:j=s
 ·subst h
  rw [if_pos rfl,if_pos (by rw [mixL_ivlen];exact hj)]
  simp [hj]
 ·rw [if_neg h]
  simp only [List.getElem?_map]
  by_cases hs:s < n
  ·rw [mixL_at hs,if_neg (Nat.not_lt_zero _)]
   simp [hs,h]
  ·rw [List.getElem?_eq_none (by rw [mixL_len];omega),List.getElem?_eq_none (by simp;omega)]
   rfl
end
/-! What is read of rows, as data or in memory. -/
theorem look_hd {l:Env} {d:Nat} {v:AV}:lookO ((d,v)::l) (.tmp d)=some v:=by
 show look _ _=_
 unfold look
 rw [Nat.beq_refl]
section
variable {nt:Nat} {ol r:List Oper} {base i:Nat} {l:Env} {G:Nat->Obj} {nx:Nat} {df:List (AV×List AV)} {pk:Pk} {Φ:Out->Prop} {fs:List Fp} {x y:Operand} {t et rt ty1 ty2:TypeId} {pos1 pos2:String} {af1 af2:Array Edge} {d1 d2 lo hi s:Nat} {w:AV} {L:List Lg} {E:List (List Lg)} {k ke:TyI}
theorem lag_at (hr:RowV et lo hi G w L) (hs:s < L.length) [hk:TyIs CC t k] (ht:k.d = .sl et) [he:TyIs CC et ke] (hke:ke.d.isAgg=true/\ke.sz=4):∃ a,(∀ l id,lookO l x=some w->lookO l y=some (.imm (.int .i64 s))->OpV CC id l G nx df pk (.indexAddr t x y) a []) /\
  ∀ l id,lookO l (.tmp d1)=some a->OpV CC id l G nx df pk (.load et (.tmp d1)) (.imm (L.getD s Lg.z).iv) []:=by
 have hg:L.getD s Lg.z=L[s]:=by rw [List.getD_eq_getElem?_getD,List.getElem?_eq_getElem hs];rfl
 rw [hg]
 rcases hr with rfl|⟨o,fr,_,_,rfl,hG⟩
 ·have hi:(L.map Lg.iv)[(s:Int).toNat]? = some L[s].iv:=by rw [Int.toNat_natCast,List.getElem?_map,List.getElem?_eq_getElem hs];rfl
  exact ⟨_,fun l id hx hy=>O.addrX ht he hx hy (by omega) hi (by rw [hke.2];rfl),fun l id hl=>O.loadEA hke.1 hl hi (by rw [hke.2];rfl)⟩
 ·have hi:((L.map Lg.iv).map AV.imm)[(s:Int).toNat]? = some (.imm L[s].iv):=by rw [Int.toNat_natCast,List.getElem?_map,List.getElem?_map,List.getElem?_eq_getElem hs];rfl
  refine ⟨_,fun l id hx hy=>O.addrRX ht he hx hy hG (by simp) (by omega) hke.2.symm,fun l id hl=>?_⟩
  have:=O.loadRA (C:=CC) (t:=et) (us:=L[s].iv.cells.map .imm) (id:=id) (nx:=nx) (df:=df) (pk:=pk) hl hG (by simp) hi (by rw [hke.2];rfl) hke.1
  exact this
theorem row_at' (hr:RowsV et rt lo hi G w E) {s:Nat} (hL:E[s]? = some L) [hk:TyIs CC t k] (ht:k.d = .sl rt) [he:TyIs CC rt ke] (hke:ke.d.isAgg=false/\ke.sz=1):∃ a v,RowV et lo hi G v L/\(∀ l id,lookO l x=some w->lookO l y=some (.imm (.int .i64 s))->OpV CC id l G nx df pk (.indexAddr t x y) a []) /\
  ∀ l id,lookO l (.tmp d1)=some a->OpV CC id l G nx df pk (.load rt (.tmp d1)) v []:=by
 have hs:=(List.getElem?_eq_some_iff.1 hL).1
 rcases hr with rfl|⟨o,_,rfl,ws,h1,hG,h2⟩
 ·have hi:(E.map lagsIV)[(s:Int).toNat]? = some (lagsIV L):=by rw [Int.toNat_natCast,List.getElem?_map,hL];rfl
  exact ⟨_,_, .inl rfl,fun l id hx hy=>O.addrX ht he hx hy (by omega) hi (by rw [hke.2];rfl),fun l id hl=>O.load1 hl hi rfl hke.1 hke.2⟩
 ·obtain ⟨v,hv,hrow⟩:=h2.at' hL
  exact ⟨_,v, .inr hrow,fun l id hx hy=>O.addrRX ht he hx hy hG h1 (by omega) hke.2.symm,fun l id hl=>O.loadRX hl hG h1 hv (by obtain ⟨_,_,_,_,rfl,_⟩:=hrow;rfl) hke.1 hke.2⟩
theorem rd_load {a:AV} (h:lookO l (.tmp d1)=some a):rdE l G (.load t (.tmp d1))=some (direct a):=by
 unfold rdE;simp only [pureOp,h]
theorem rd_index {a b:AV} (hx:lookO l x=some a) (hy:lookO l y=some b):rdE l G (.indexAddr t x y)=some (direct a++direct b):=by
 unfold rdE;simp only [pureOp,hx,hy]
theorem D.lagAt (hr:RowV et lo hi G w L) (hs:s < L.length) [hk:TyIs CC t k] (ht:k.d = .sl et) [he:TyIs CC et ke] (hke:ke.d.isAgg=true/\ke.sz=4) (hx:lookO l x=some w) (hy:lookO l y=some (.imm (.int .i64 s))) (hd1:Nat.ble (d1+1) nt=true) (hd2:Nat.ble (d2+1) nt=true)
  (next:∀ a rd1 rd2,D CC nt ol base (i+1+1) r ((d2, .imm (L.getD s Lg.z).iv)::(d1,a)::l) G nx df pk (⟨i+1,rd2,[],[]⟩::⟨i,rd1,[],[]⟩::fs) Φ) :
  D CC nt ol base i (⟨some d1, .indexAddr t x y,ty1,pos1,af1,none⟩::⟨some d2, .load et (.tmp d1),ty2,pos2,af2,none⟩::r) l G nx df pk fs Φ:=by
 obtain ⟨a,h1,h2⟩:=lag_at (t:=t) (nx:=nx) (df:=df) (pk:=pk) (x:=x) (y:=y) (d1:=d1) hr hs ht hke
 exact D.op0 (h1 l _ hx hy) (rd_index hx hy) hd1 (D.op0 (h2 _ _ look_hd) (rd_load look_hd) hd2 (next _ _ _))
theorem R.lagAt (hr:RowV et lo hi G w L) (hs:s < L.length) [hk:TyIs CC t k] (ht:k.d = .sl et) [he:TyIs CC et ke] (hke:ke.d.isAgg=true/\ke.sz=4) (hx:lookO l x=some w) (hy:lookO l y=some (.imm (.int .i64 s))) (hd1:Nat.ble (d1+1) nt=true) (hd2:Nat.ble (d2+1) nt=true)
  (next:∀ a,R CC nt ol base (i+1+1) r ((d2, .imm (L.getD s Lg.z).iv)::(d1,a)::l) G nx df pk Φ) :
  R CC nt ol base i (⟨some d1, .indexAddr t x y,ty1,pos1,af1,none⟩::⟨some d2, .load et (.tmp d1),ty2,pos2,af2,none⟩::r) l G nx df pk Φ:=by
 obtain ⟨a,h1,h2⟩:=lag_at (t:=t) (nx:=nx) (df:=df) (pk:=pk) (x:=x) (y:=y) (d1:=d1) hr hs ht hke
 exact R.op0 (h1 l _ hx hy) hd1 (R.op0 (h2 _ _ look_hd) hd2 (next _))
theorem D.rowAt (hr:RowsV et rt lo hi G w E) (hL:E[s]? = some L) [hk:TyIs CC t k] (ht:k.d = .sl rt) [he:TyIs CC rt ke] (hke:ke.d.isAgg=false/\ke.sz=1) (hx:lookO l x=some w) (hy:lookO l y=some (.imm (.int .i64 s))) (hd1:Nat.ble (d1+1) nt=true) (hd2:Nat.ble (d2+1) nt=true)
  (next:∀ a v rd1 rd2,RowV et lo hi G v L->D CC nt ol base (i+1+1) r ((d2,v)::(d1,a)::l) G nx df pk (⟨i+1,rd2,[],[]⟩::⟨i,rd1,[],[]⟩::fs) Φ) :
  D CC nt ol base i (⟨some d1, .indexAddr t x y,ty1,pos1,af1,none⟩::⟨some d2, .load rt (.tmp d1),ty2,pos2,af2,none⟩::r) l G nx df pk fs Φ:=by
 obtain ⟨a,v,h0,h1,h2⟩:=row_at' (t:=t) (nx:=nx) (df:=df) (pk:=pk) (x:=x) (y:=y) (d1:=d1) hr hL ht hke
 exact D.op0 (h1 l _ hx hy) (rd_index hx hy) hd1 (D.op0 (h2 _ _ look_hd) (rd_load look_hd) hd2 (next _ _ _ _ h0))
end
theorem O.makeL {id:Nat} {l:Env} {G:Nat->Obj} {nx:Nat} {df:List (AV×List AV)} {pk:Pk} {t e:TypeId} {x y:Operand} {k ke:TyI} {m:Int} {n:Nat} (f:Nat->Lg) [hk:TyIs CC t k] (ht:k.d = .sl e) (he:TyIs CC e ke) (hke:ke.zero = .imm Lg.z.iv/\ke.sz=4/\ke.bytes<=4096) (hx:lookO l x=some (.imm (.int .i64 m))) (hy:lookO l y=some (.imm (.int .i64 m))) (hm:m=(n:Int)) (hn:n<=1000) :
  OpV CC id l G nx df pk (.makeSlice t x y) (.row id n) [(id, .set (.row e 4 (((mixL n 0 f fun _=>Lg.z).map Lg.iv).map .imm) false))]:=by
 have h:=O.makeSlice (C:=CC) (t:=t) (e:=e) (id:=id) (G:=G) (nx:=nx) (df:=df) (pk:=pk) ht he hx hy ⟨by omega,Int.le_refl _,by unfold most;omega⟩ hke.2.2 (by rw [hke.1,hke.2.1];rfl) (by rw [hke.2.1];decide)
 rw [hke.1,hke.2.1,hm,Int.toNat_natCast] at h
 rw [mixL_zero,show ((List.range n).map fun _=>Lg.z)=List.replicate n Lg.z from by rw [List.map_const',List.length_range],List.map_replicate,List.map_replicate]
 exact h
end Go.Abs

/- Whether lags are the same. -/
open Go Go.Abs
namespace Go.Abs
set_option maxRecDepth 100000
set_option maxHeartbeats 4000000
instance fnis442:FnIs CC 142:=⟨rfl,fun _=>rfl⟩
instance fnis332:FnIs CC 32:=⟨rfl,fun _=>rfl⟩
instance fnis331:FnIs CC 31:=⟨rfl,fun _=>rfl⟩
def Lg.same (a b:Lg):Bool:=(a.on==b.on)&&((a.ever==b.ever)&&((decide (IntKind.i64=IntKind.i64)&&decide (a.back=b.back))&&((decide (IntKind.i64=IntKind.i64)&&decide (a.ahead=b.ahead))&&true)))
theorem Lg.same_iff {a b:Lg}:a.same b=true↔a=b:=by
 obtain ⟨o,e,x,y⟩:=a
 obtain ⟨o',e',x',y'⟩:=b
 unfold Lg.same
 simp only [Bool.and_eq_true,beq_iff_eq,decide_eq_true_eq,Lg.mk.injEq,and_true,true_and]
def fsOf (P:Program) (t:TypeId):Array Field:=match P.underlying t with
 |some (.struct fs)=>fs
 |_ => #[]
theorem keyI {P:Program} {t:TypeId} {d:Nat} {n:Int} (h:P.underlying t=some (.int .i64)) (hw:(Lit.int .i64 n).wf=true):P.keyLits (d+1) t [.int .i64 n]=some [.int .i64 n]:=by
 unfold Program.keyLits;rw [h];simp [hw]
theorem keyB {P:Program} {t:TypeId} {d:Nat} {b:Bool} (h:P.underlying t=some .bool):P.keyLits (d+1) t [.bool b]=some [.bool b]:=by
 unfold Program.keyLits;rw [h]
theorem Lg.In.wf {a:Lg} (h:a.In 4294967296):(Lit.int .i64 a.back).wf=true/\(Lit.int .i64 a.ahead).wf=true:=by
 have h1:=h.back;have h2:=h.ahead
 refine ⟨?_,?_⟩
 ·show (decide (IntKind.i64.min<=_)&&decide (_<=IntKind.i64.max))=true
  rw [Bool.and_eq_true,decide_eq_true_eq,decide_eq_true_eq,show IntKind.i64.min = -9223372036854775808 from rfl,show IntKind.i64.max=9223372036854775807 from rfl];omega
 ·show (decide (IntKind.i64.min<=_)&&decide (_<=IntKind.i64.max))=true
  rw [Bool.and_eq_true,decide_eq_true_eq,decide_eq_true_eq,show IntKind.i64.min = -9223372036854775808 from rfl,show IntKind.i64.max=9223372036854775807 from rfl];omega
theorem litsLag {t : TypeId} (h1 : CC.P.underlying t = some (.struct (fsOf CC.P t))) (h2 : (fsOf CC.P t).toList.map (fun f => (f.type, f.offset)) = [(4, 0), (4, 1), (3, 2), (3, 3)]) (h3 : (fsOf CC.P t).all (·.name != "_") = true) (h4 : CC.P.cellsOf t = 4) {a : Lg} (hw : a.In 4294967296) :
  litsOf CC.P t [.bool a.on, .bool a.ever, .int .i64 a.back, .int .i64 a.ahead]=some [.bool a.on, .bool a.ever, .int .i64 a.back, .int .i64 a.ahead]:=by
 have e3:CC.P.underlying 3=some (.int .i64):=by kernel_rfl
 have e4:CC.P.underlying 4=some .bool:=by kernel_rfl
 have c3:CC.P.cellsOf 3=1:=by kernel_rfl
 have c4:CC.P.cellsOf 4=1:=by kernel_rfl
 unfold litsOf
 simp only [vsOf,vOf]
 unfold Program.keyLits
 rw [h1]
 simp only [List.length_cons,List.length_nil,h4,h3,and_self,if_true]
 generalize (fsOf CC.P t).toList=fs at *
 obtain ⟨f1,r1,rfl,e1,h2⟩:=List.map_eq_cons_iff.1 h2
 obtain ⟨f2,r2,rfl,e2,h2⟩:=List.map_eq_cons_iff.1 h2
 obtain ⟨f5,r3,rfl,e5,h2⟩:=List.map_eq_cons_iff.1 h2
 obtain ⟨f6,r4,rfl,e6,h2⟩:=List.map_eq_cons_iff.1 h2
 obtain rfl:=List.map_eq_nil_iff.1 h2
 simp only [Prod.mk.injEq] at e1 e2 e5 e6
 simp [e1.1,e1.2,e2.1,e2.2,e5.1,e5.2,e6.1,e6.2,c3,c4,keyB e4,keyI e3 hw.wf.1,keyI e3 hw.wf.2]
theorem eqLag {t : TypeId} (h1 : CC.P.underlying t = some (.struct (fsOf CC.P t))) (h2 : (fsOf CC.P t).toList.map (fun f => (f.type, f.offset)) = [(4, 0), (4, 1), (3, 2), (3, 3)]) (h3 : (fsOf CC.P t).all (·.name != "_") = true) (h4 : CC.P.cellsOf t = 4) (h5 : CC.P.keyTypeAt 10 t = true) (h6 : CC.P.eqGuardType CC.P.depth t = false)
  {a b:Lg} (ha:a.In 4294967296) (hb:b.In 4294967296):eqSt CC.P t [.bool a.on, .bool a.ever, .int .i64 a.back, .int .i64 a.ahead] [.bool b.on, .bool b.ever, .int .i64 b.back, .int .i64 b.ahead]=some (a.same b):=by
 unfold eqSt
 rw [if_pos ⟨h5,h6⟩,litsLag h1 h2 h3 h4 ha,litsLag h1 h2 h3 h4 hb]
 rfl
theorem eqLag453 {a b:Lg} (ha:a.In 4294967296) (hb:b.In 4294967296):eqSt CC.P 153 [.bool a.on, .bool a.ever, .int .i64 a.back, .int .i64 a.ahead] [.bool b.on, .bool b.ever, .int .i64 b.back, .int .i64 b.ahead]=some (a.same b):=
 eqLag (by kernel_rfl) (by kernel_rfl) (by kernel_rfl) (by kernel_rfl) (by kernel_rfl) (by kernel_rfl) ha hb
theorem eqLag447 {a b:Lg} (ha:a.In 4294967296) (hb:b.In 4294967296):eqSt CC.P 147 [.bool a.on, .bool a.ever, .int .i64 a.back, .int .i64 a.ahead] [.bool b.on, .bool b.ever, .int .i64 b.back, .int .i64 b.ahead]=some (a.same b):=
 eqLag (by kernel_rfl) (by kernel_rfl) (by kernel_rfl) (by kernel_rfl) (by kernel_rfl) (by kernel_rfl) ha hb
section
variable {id:Nat} {l:Env} {G:Nat->Obj} {nx:Nat} {df:List (AV×List AV)} {pk:Pk} {x y:Operand} {t2:TypeId} {a b:Lg}
theorem O.lagNe (ha:a.In 4294967296) (hb:b.In 4294967296) (hx:lookO l x=some (.imm a.iv)) (hy:lookO l y=some (.imm b.iv)):OpV CC id l G nx df pk (.binOp .neq 153 x y t2) (.imm (.bool !(a.same b))) []:=
 O.of fun t L ht=>by
  simp only [opA,ht.ev hx,ht.ev hy,Lg.iv,binA,eqAV,(inferInstance:TyIs CC 153 ty453).is,ty453,eqLag453 ha hb,Option.map_some]
theorem O.lagNe' (ha:a.In 4294967296) (hb:b.In 4294967296) (hx:lookO l x=some (.imm a.iv)) (hy:lookO l y=some (.imm b.iv)):OpV CC id l G nx df pk (.binOp .neq 147 x y t2) (.imm (.bool !(a.same b))) []:=
 O.of fun t L ht=>by
  simp only [opA,ht.ev hx,ht.ev hy,Lg.iv,binA,eqAV,(inferInstance:TyIs CC 147 ty447).is,ty447,eqLag447 ha hb,Option.map_some]
end
end Go.Abs

/- How far lags go; the lags of all definitions. -/
open Go Go.Abs
namespace Go.Abs
set_option maxRecDepth 100000
theorem Lg.In.mono {K L:Int} {a:Lg} (h:a.In K) (hk:K<=L):a.In L:=⟨⟨by have:=h.back;omega,by have:=h.back;omega⟩,⟨by have:=h.ahead;omega,by have:=h.ahead;omega⟩⟩
theorem Lg.inz {K:Int} (h:0<=K):Lg.z.In K:=⟨⟨by show -K<=(0:Int);omega,h⟩,⟨by show -K<=(0:Int);omega,h⟩⟩
theorem Lg.In.both {K:Int} {a b:Lg} (ha:a.In K) (hb:b.In K):(a.both b).In K:=by
 unfold Lg.both
 split
 ·split
  ·refine ⟨?_,?_⟩
   ·show -K<=(if (a.ever||b.ever)=true then (0:Int) else mxI a.back b.back)/\(if (a.ever||b.ever)=true then (0:Int) else mxI a.back b.back)<=K
    have:=ha.back;have:=hb.back
    split
    ·omega
    ·rw [mxI_eq];omega
   ·show -K<=mxI a.ahead b.ahead/\mxI a.ahead b.ahead<=K
    have:=ha.ahead;have:=hb.ahead
    rw [mxI_eq];omega
  ·exact ha
 ·exact hb
theorem Lg.In.thru {K M:Int} {a:Lg} (h:a.In K) {ev:Bool} {bk ah:Int} (hb : -M<=bk/\bk<=M) (ha : -M<=ah/\ah<=M):(a.thru ev bk ah).In (K+M):=by
 unfold Lg.thru
 split
 ·refine ⟨?_,?_⟩
  ·show -(K+M)<=(if (a.ever||ev)=true then (0:Int) else a.back+bk)/\(if (a.ever||ev)=true then (0:Int) else a.back+bk)<=K+M
   have:=h.back
   split<;>omega
  ·show -(K+M)<=a.ahead+ah/\a.ahead+ah<=K+M
   have:=h.ahead;omega
 ·exact h.mono (by omega)
structure NodeB (x:Exp):Prop where
 n : -50<=x.n/\x.n<=50
 kids:x.kids.length<=2
 op:1<=x.op/\x.op<=15
theorem Lg.In.kid {K:Int} {a:Lg} (h:a.In K) {op n:Int} (hn : -50<=n/\n<=50) {i:Nat} (hi:i<=1):(kidL op n i a).In (K+64):=by
 have hi':(i:Int)=0\/(i:Int)=1:=by omega
 unfold kidL
 repeat' split
 ·exact h.thru (by omega) (by omega)
 ·exact h.thru (by omega) (by omega)
 ·exact h.thru (by omega) (by omega)
 ·exact h.thru (by omega) (by omega)
 ·exact h.thru (by omega) (by omega)
 ·rcases hi' with e|e
  ·rw [e,Int.mul_zero];exact h.thru (by omega) (by omega)
  ·rw [e,Int.mul_one];exact h.thru (by omega) (by omega)
 ·exact h.mono (by omega)
mutual
theorem expG_in (srcs names:List Str) {v:Nat->Lg} {K:Int} (hK:0<=K) (hv:∀ d,(v d).In K) (s:Nat):∀ e,(∀ x∈allE e,NodeB x)->(expG srcs names v s e).In (K+64*((allE e).length:Int))
 | .mk op name n fold calcs kids,h=>by
  have hb:=h (.mk op name n fold calcs kids) (by rw [allE];exact List.mem_cons_self ..)
  have hn : -50<=n/\n<=50:=hb.n
  rw [expG,allE,List.length_cons]
  split
  ·split
   ·exact ⟨⟨by show -_<=(0:Int);omega,by show (0:Int)<=_;omega⟩,⟨by show -_<=(0:Int);omega,by show (0:Int)<=_;omega⟩⟩
   ·exact Lg.inz (by omega)
  ·split
   ·exact ((hv _).thru (M:=64) (by omega) (by omega)).mono (by omega)
   ·refine (kidsG_in srcs names hK hv s op n hn kids 0 Lg.z (allEs kids).length (by have:kids.length<=2:=hb.kids;omega) (Nat.le_refl _) (fun x hx=>h x (by rw [allE];exact List.mem_cons_of_mem _ hx)) (Lg.inz (by omega))).mono (by omega)
theorem kidsG_in (srcs names:List Str) {v:Nat->Lg} {K:Int} (hK:0<=K) (hv:∀ d,(v d).In K) (s:Nat) (op n:Int) (hn : -50<=n/\n<=50):∀ (l:List Exp) (i:Nat) (out:Lg) (N:Nat),i+l.length<=2->(allEs l).length<=N->(∀ x∈allEs l,NodeB x)->out.In (K+64*((N:Int)+1))->(kidsG srcs names v s op n l i out).In (K+64*((N:Int)+1))
 |[],_,_,_,_,_,_,h=>h
 |x::r,i,out,N,hi,hN,hx,h=>by
  rw [kidsG]
  rw [allEs,List.length_append] at hN
  rw [List.length_cons] at hi
  have h1:=expG_in srcs names hK hv s x fun y hy=>hx y (by rw [allEs];exact List.mem_append_left _ hy)
  refine kidsG_in srcs names hK hv s op n hn r (i+1) _ N (by omega) (by omega) (fun y hy=>hx y (by rw [allEs];exact List.mem_append_right _ hy)) (h.both ?_)
  exact (h1.kid hn (by omega)).mono (by omega)
end
def InL (K:Int) (D:List (List Lg)):Prop:=∀ r∈D,∀ a∈r,a.In K
theorem InL.mono {K L:Int} {D:List (List Lg)} (h:InL K D) (hk:K<=L):InL L D:=fun r hr a ha=>(h r hr a ha).mono hk
theorem InL.col {K:Int} {D:List (List Lg)} (hK:0<=K) (h:InL K D) (s d:Nat):(colD D s d).In K:=by
 unfold colD
 rw [List.getD_eq_getElem?_getD,List.getD_eq_getElem?_getD]
 cases hd:D[d]? with
 |none=>exact Lg.inz hK
 |some r=>
  simp only [Option.getD_some]
  cases hs:r[s]? with
  |none=>exact Lg.inz hK
  |some a=>exact h r (List.mem_of_getElem? hd) a (List.mem_of_getElem? hs)
structure Small (p:Pgm):Prop where
 len:p.defs.length<=6
 srcs:p.srcs.length<=4
 cnt:∀ d,(allE (expAt p d)).length<=1000
 node:∀ d,d < p.defs.length->∀ x∈allE (expAt p d),NodeB x
theorem allL_in {p:Pgm} {K:Int} (hK:0<=K) {D:List (List Lg)} (h:InL K D) {e:Exp} (hn:∀ x∈allE e,NodeB x) (hc:(allE e).length<=1000):∀ a∈allL p D e,a.In (K+64000):=fun a ha=>by
 unfold allL at ha
 obtain ⟨s,_,rfl⟩:=List.mem_map.1 ha
 exact (expG_in _ _ hK (h.col hK s) s e hn).mono (by omega)
theorem rowL_in {p:Pgm} (hp:Small p) {K:Int} (hK:0<=K) {D:List (List Lg)} (h:InL K D) (ring:Bool) {d:Nat} (hd:d < p.defs.length):∀ a∈rowL p ring D d,a.In (K+64000):=fun a ha=>by
 unfold rowL at ha
 obtain ⟨b,hb,rfl⟩:=List.mem_map.1 ha
 have h1:=allL_in hK h (hp.node d hd) (hp.cnt d) b hb
 unfold ringL
 split
 ·exact (h1.thru (M:=0) (by omega) (by omega)).mono (by omega)
 ·exact h1
theorem InL.set {p:Pgm} (hp:Small p) {K:Int} (hK:0<=K) {D:List (List Lg)} (h:InL K D) (ring:Bool) {d:Nat} (hd:d < p.defs.length):InL (K+64000) (setL p ring D d):=fun r hr=>by
 rcases List.mem_or_eq_of_mem_set hr with hr|rfl
 ·exact fun a ha=>(h r hr a ha).mono (by omega)
 ·exact rowL_in hp hK h ring hd
theorem InL.rnd {p:Pgm} (hp:Small p) {ring:Bool}:∀ (g:List Nat) {K:Int},0<=K->∀ {D:List (List Lg)},InL K D->(∀ d∈g,d < p.defs.length)->InL (K+64000*g.length) (rndL p ring g D)
 |[],K,_,D,h,_=>h.mono (by simp only [List.length_nil];omega)
 |d::g,K,hK,D,h,hg=>by
  have:=InL.rnd hp (ring:=ring) g (by omega) (h.set hp hK ring (hg d (List.mem_cons_self ..))) fun x hx=>hg x (List.mem_cons_of_mem _ hx)
  exact this.mono (by rw [List.length_cons];omega)
theorem InL.rnds {p:Pgm} (hp:Small p) {ring:Bool} {g:List Nat} (hl:g.length<=6) {K:Int} (hK:0<=K) {D:List (List Lg)} (h:InL K D) (hg:∀ d∈g,d < p.defs.length):∀ n:Nat,InL (K+384000*n) (rndsL p ring g n D)
 |0=>h.mono (by omega)
 |n+1=>((h.rnds hp hl hK hg n).rnd hp g (by omega) hg).mono (by omega)
noncomputable def ringB (tos:List (List Nat)) (g:List Nat):Bool:=match g with
 |d::_=>reachB tos d d
 |[]=>false
def zeroL (p:Pgm):List (List Lg):=List.replicate p.defs.length (List.replicate p.srcs.length Lg.z)
noncomputable def lagsTo (p:Pgm) (gs:List (List Nat)):List (List Lg):=gs.foldl (fun D g=>rndsL p (ringB (tosR p) g) g (p.defs.length+1) D) (zeroL p)
noncomputable def lagsR (p:Pgm):List (List Lg):=lagsTo p (orderR (tosR p))
theorem Wide.zero (p:Pgm):Wide p (zeroL p) where
 len:=List.length_replicate ..
 row:=fun r hr=>by rw [List.eq_of_mem_replicate hr];exact List.length_replicate ..
 ok:=fun r hr a ha=>by rw [List.eq_of_mem_replicate hr] at ha;rw [List.eq_of_mem_replicate ha];exact Lg.okz
theorem colD_zero (p:Pgm) (s d:Nat):colD (zeroL p) s d=Lg.z:=by
 unfold colD zeroL
 rw [List.getD_eq_getElem?_getD,List.getD_eq_getElem?_getD,List.getElem?_replicate]
 split
 ·simp only [Option.getD_some,List.getElem?_replicate];split<;>rfl
 ·rfl
theorem colD_rnd {p:Pgm} {ring:Bool} {d:Nat}:∀ (g:List Nat) {D:List (List Lg)},d∉g->∀ s,colD (rndL p ring g D) s d=colD D s d
 |[],_,_,_=>rfl
 |x::g,D,h,s=>by
  rw [show rndL p ring (x::g) D=rndL p ring g (setL p ring D x) from rfl,colD_rnd g (fun hc=>h (List.mem_cons_of_mem _ hc))]
  unfold colD setL
  rw [List.getD_eq_getElem?_getD (l:=D.set x _),List.getElem?_set_ne (fun e=>by subst e;exact h (List.mem_cons_self ..)),<-List.getD_eq_getElem?_getD]
theorem colD_rnds {p:Pgm} {ring:Bool} {d:Nat} {g:List Nat} (h:d∉g) {D:List (List Lg)} (s:Nat):∀ n,colD (rndsL p ring g n D) s d=colD D s d
 |0=>rfl
 |n+1=>by rw [rndsL,colD_rnd g h,colD_rnds h s n]
structure SoFar (p:Pgm) (gs:List (List Nat)) (D:List (List Lg)):Prop where
 wide:Wide p D
 low:InL (2688000*gs.length) D
 rest:∀ d,d∉gs.flatten->∀ s,colD D s d=Lg.z
theorem SoFar.zero (p:Pgm):SoFar p [] (zeroL p) where
 wide:=Wide.zero p
 low:=fun r hr a ha=>by
  have hr:=List.eq_of_mem_replicate hr
  subst hr
  rw [List.eq_of_mem_replicate ha]
  exact Lg.inz (by simp)
 rest:=fun d _ s=>colD_zero p s d
theorem SoFar.step {p:Pgm} (hp:Small p) {gs:List (List Nat)} {D:List (List Lg)} (h:SoFar p gs D) {g:List Nat} (hl:g.length<=6) (hg:∀ d∈g,d < p.defs.length) {ring:Bool} {n:Nat} (hn:n<=7):SoFar p (gs++[g]) (rndsL p ring g n D) where
 wide:=h.wide.rnds ring g n
 low:=(h.low.rnds hp hl (by omega) hg n).mono (by simp only [List.length_append,List.length_cons,List.length_nil];omega)
 rest:=fun d hd s=>by
  rw [List.flatten_append,List.mem_append] at hd
  rw [colD_rnds (fun hc=>hd (.inr (by simpa using hc))) s n]
  exact h.rest d (fun hc=>hd (.inl hc)) s
theorem lagsTo_append (p:Pgm) (gs:List (List Nat)) (g:List Nat):lagsTo p (gs++[g])=rndsL p (ringB (tosR p) g) g (p.defs.length+1) (lagsTo p gs):=by
 unfold lagsTo
 rw [List.foldl_append];rfl
theorem lagsTo_far {p:Pgm} (hp:Small p):∀ (gs hs:List (List Nat)),(∀ g∈gs,g.length<=6/\∀ d∈g,d < p.defs.length)->∀ {D:List (List Lg)},SoFar p hs D->SoFar p (hs++gs) (gs.foldl (fun D g=>rndsL p (ringB (tosR p) g) g (p.defs.length+1) D) D)
 |[],hs,_,D,h=>by rw [List.append_nil];exact h
 |g::gs,hs,hg,D,h=>by
  have h1:=hg g (List.mem_cons_self ..)
  have:=lagsTo_far hp gs (hs++[g]) (fun x hx=>hg x (List.mem_cons_of_mem _ hx)) (h.step hp h1.1 h1.2 (ring:=ringB (tosR p) g) (n:=p.defs.length+1) (by have:=hp.len;omega))
  rw [List.append_assoc] at this
  exact this
end Go.Abs

/- Whether lists of lags are the same. -/
open Go Go.Abs
namespace Go.Abs
set_option maxRecDepth 100000
set_option maxHeartbeats 4000000
def lagsEq (a b:List Lg):Bool:=a.length==b.length&&(List.range a.length).all fun i=>(a.getD i Lg.z).same (b.getD i Lg.z)
theorem lagsEq_iff {a b:List Lg}:lagsEq a b=true↔a=b:=by
 unfold lagsEq
 rw [Bool.and_eq_true,beq_iff_eq,List.all_eq_true]
 constructor
 ·rintro ⟨h1,h2⟩
  rw [<-getD_range (L:=a) rfl,<-getD_range (L:=b) rfl,<-h1]
  exact List.map_congr_left fun i hi=>Lg.same_iff.1 (h2 i hi)
 ·rintro rfl
  exact ⟨rfl,fun i _=>Lg.same_iff.2 rfl⟩
theorem all_range_succ {f:Nat->Bool} {i:Nat}:(List.range (i+1)).all f=((List.range i).all f&&f i):=by rw [List.range_succ,List.all_append];simp
theorem all_range_end {f:Nat->Bool} {n i:Nat} (hi:i < n) (h:f i=false):(List.range n).all f=false:=by
 rw [Bool.eq_false_iff,ne_eq,List.all_eq_true]
 exact fun hc=>by rw [hc i (List.mem_range.2 hi)] at h;cases h
theorem lag_ivat {a:List Lg} {i:Nat} (h:i < a.length):(a.map Lg.iv)[(i:Int).toNat]? = some (a.getD i Lg.z).iv:=by
 rw [Int.toNat_natCast,List.getElem?_map,List.getD_eq_getElem?_getD,List.getElem?_eq_getElem h];rfl
theorem getD_in {K:Int} (hK:0<=K) {a:List Lg} (h:∀ x∈a,x.In K) (i:Nat):(a.getD i Lg.z).In K:=by
 rw [List.getD_eq_getElem?_getD]
 cases hs:a[i]? with
 |none=>exact Lg.inz hK
 |some x=>exact h x (List.mem_of_getElem? hs)
theorem ret442 {a b:List Lg} (ha:∀ x∈a,x.In 4294967296) (hb:∀ x∈b,x.In 4294967296) (hl:a.length<=1000):Ret CC 142 [lagsIV a,lagsIV b] (.bool (lagsEq a b)):=by
 have hal:(a.map Lg.iv).length=a.length:=List.length_map ..
 have hbl:(b.map Lg.iv).length=b.length:=List.length_map ..
 have hai:=getD_in (by omega) ha
 have hbi:=getD_in (by omega) hb
 refine Ret.of (fn:=Go.Proofs.Tryz.f142) (by kernel_rfl) rfl rfl ?_
 by_cases hne:a.length=b.length
 ·have hc:(((a.map Lg.iv).length:Int) != ((b.map Lg.iv).length:Int))=false:=by rw [hal,hbl,hne];simp
  have hq:lagsEq a b=(List.range a.length).all fun i=>(a.getD i Lg.z).same (b.getD i Lg.z):=by unfold lagsEq;rw [hne];simp
  refine BN ?_
  refine W.loop (X:=Nat) (fun i=>[(0, .imm (lagsIV a)),(1, .imm (lagsIV b)),(12, .imm (.int .i64 (a.map Lg.iv).length)),(13, .imm (.int .i64 i))])
   (fun i _ _=>i<=a.length/\((List.range i).all fun i=>(a.getD i Lg.z).same (b.getD i Lg.z))=true) (fun i=>a.length-i) 0 .auto ⟨Nat.zero_le _,rfl⟩ ?_
  rintro i nx G ⟨hi,hst⟩
  refine BN ?_
  refine W.cond rfl (fun h1=>?_) (fun h1=>?_)
  ·have hlt:i < a.length:=by have:=of_decide_eq_true h1;rw [hal] at this;omega
   have h2:=lag_ivat hlt
   have h3:=lag_ivat (a:=b) (i:=i) (by omega)
   have hmu:a.length-(i+1) < a.length-i:=by omega
   have hsu:=all_range_succ (f:=fun i=>(a.getD i Lg.z).same (b.getD i Lg.z)) (i:=i)
   rw [hst,Bool.true_and] at hsu
   have hend:=all_range_end (f:=fun i=>(a.getD i Lg.z).same (b.getD i Lg.z)) hlt
   refine BN ?_
   refine D.op0 (O.lagNe (hai i) (hbi i) rfl rfl) rfl rfl ?_
   cases hs:(a.getD i Lg.z).same (b.getD i Lg.z) with
   |true=>
    refine BN ?_
    exact W.skipLop (i+1) hmu .auto ⟨hlt,hsu.trans hs⟩
   |false=>
    refine BN ?_
    exact W.retFin1 rfl ⟨[],by rw [hq,hend hs];rfl⟩
  ·have hge:i=a.length:=by have:=of_decide_eq_false h1;rw [hal] at this;omega
   subst hge
   refine BN ?_
   exact W.retFin1 rfl ⟨[],by rw [hq,hst];rfl⟩
 ·have hc:(((a.map Lg.iv).length:Int) != ((b.map Lg.iv).length:Int))=true:=by rw [hal,hbl,bne_iff_ne];omega
  have hq:lagsEq a b=false:=by
   cases h:lagsEq a b with
   |false=>rfl
   |true=>rw [lagsEq_iff.1 h] at hne;exact absurd rfl hne
  refine BN ?_
  exact W.retFin1 rfl ⟨[],by rw [hq];rfl⟩
theorem ret332 {a b:List Lg} (ha:∀ x∈a,x.In 4294967296) (hb:∀ x∈b,x.In 4294967296) (hl:a.length<=1000):Ret CC 32 [lagsIV a,lagsIV b] (.bool (lagsEq a b)):=by
 have hal:(a.map Lg.iv).length=a.length:=List.length_map ..
 have hbl:(b.map Lg.iv).length=b.length:=List.length_map ..
 have hai:=getD_in (by omega) ha
 have hbi:=getD_in (by omega) hb
 refine Ret.of (fn:=Go.Proofs.Tryz.f32) (by kernel_rfl) rfl rfl ?_
 by_cases hne:a.length=b.length
 ·have hc:(((a.map Lg.iv).length:Int) != ((b.map Lg.iv).length:Int))=false:=by rw [hal,hbl,hne];simp
  have hq:lagsEq a b=(List.range a.length).all fun i=>(a.getD i Lg.z).same (b.getD i Lg.z):=by unfold lagsEq;rw [hne];simp
  refine BN ?_
  refine W.loop (X:=Nat) (fun i=>[(0, .imm (lagsIV a)),(1, .imm (lagsIV b)),(5, .imm (.int .i64 i))])
   (fun i _ _=>i<=a.length/\((List.range i).all fun i=>(a.getD i Lg.z).same (b.getD i Lg.z))=true) (fun i=>a.length-i) 0 .auto ⟨Nat.zero_le _,rfl⟩ ?_
  rintro i nx G ⟨hi,hst⟩
  refine BN ?_
  refine W.cond rfl (fun h1=>?_) (fun h1=>?_)
  ·have hlt:i < a.length:=by have:=of_decide_eq_true h1;rw [hal] at this;omega
   have h2:=lag_ivat hlt
   have h3:=lag_ivat (a:=b) (i:=i) (by omega)
   have hmu:a.length-(i+1) < a.length-i:=by omega
   have hsu:=all_range_succ (f:=fun i=>(a.getD i Lg.z).same (b.getD i Lg.z)) (i:=i)
   rw [hst,Bool.true_and] at hsu
   have hend:=all_range_end (f:=fun i=>(a.getD i Lg.z).same (b.getD i Lg.z)) hlt
   refine BN ?_
   refine D.op0 (O.lagNe' (hai i) (hbi i) rfl rfl) rfl rfl ?_
   cases hs:(a.getD i Lg.z).same (b.getD i Lg.z) with
   |true=>
    refine BN ?_
    exact W.skipLop (i+1) hmu .auto ⟨hlt,hsu.trans hs⟩
   |false=>
    refine BN ?_
    exact W.retFin1 rfl ⟨[],by rw [hq,hend hs];rfl⟩
  ·have hge:i=a.length:=by have:=of_decide_eq_false h1;rw [hal] at this;omega
   subst hge
   refine BN ?_
   exact W.retFin1 rfl ⟨[],by rw [hq,hst];rfl⟩
 ·have hc:(((a.map Lg.iv).length:Int) != ((b.map Lg.iv).length:Int))=true:=by rw [hal,hbl,bne_iff_ne];omega
  have hq:lagsEq a b=false:=by
   cases h:lagsEq a b with
   |false=>rfl
   |true=>rw [lagsEq_iff.1 h] at hne;exact absurd rfl hne
  refine BN ?_
  exact W.retFin1 rfl ⟨[],by rw [hq];rfl⟩
theorem rows_ivat {a:List (List Lg)} {i:Nat} (h:i < a.length):(a.map lagsIV)[(i:Int).toNat]? = some (lagsIV (a.getD i [])):=by
 rw [Int.toNat_natCast,List.getElem?_map,List.getD_eq_getElem?_getD,List.getElem?_eq_getElem h];rfl
def rowsEq (a b:List (List Lg)):Bool:=a.length==b.length&&(List.range a.length).all fun i=>lagsEq (a.getD i []) (b.getD i [])
theorem rowsEq_iff {a b:List (List Lg)}:rowsEq a b=true↔a=b:=by
 unfold rowsEq
 rw [Bool.and_eq_true,beq_iff_eq,List.all_eq_true]
 constructor
 ·rintro ⟨h1,h2⟩
  refine List.ext_getElem h1 fun i hi hi'=>?_
  have:=lagsEq_iff.1 (h2 i (List.mem_range.2 hi))
  simpa [List.getD_eq_getElem?_getD,hi,hi'] using this
 ·rintro rfl
  exact ⟨rfl,fun i _=>lagsEq_iff.2 rfl⟩
theorem rows_in {K:Int} {a:List (List Lg)} (h:InL K a) (i:Nat):∀ x∈a.getD i [],x.In K:=by
 rw [List.getD_eq_getElem?_getD]
 cases hs:a[i]? with
 |none=>exact fun x hx=>absurd hx List.not_mem_nil
 |some r=>exact h r (List.mem_of_getElem? hs)
theorem ret331 {a b:List (List Lg)} (ha:InL 4294967296 a) (hb:InL 4294967296 b) (hl:a.length<=1000) (hr:∀ i,(a.getD i []).length<=1000):Ret CC 31 [.lst (a.map lagsIV), .lst (b.map lagsIV)] (.bool (rowsEq a b)):=by
 have hal:(a.map lagsIV).length=a.length:=List.length_map ..
 have hbl:(b.map lagsIV).length=b.length:=List.length_map ..
 have h332:=fun i=>ret332 (rows_in ha i) (rows_in hb i) (hr i)
 refine Ret.of (fn:=Go.Proofs.Tryz.f31) (by kernel_rfl) rfl rfl ?_
 by_cases hne:a.length=b.length
 ·have hc:(((a.map lagsIV).length:Int) != ((b.map lagsIV).length:Int))=false:=by rw [hal,hbl,hne];simp
  have hq:rowsEq a b=(List.range a.length).all fun i=>lagsEq (a.getD i []) (b.getD i []):=by unfold rowsEq;rw [hne];simp
  refine BN ?_
  refine W.loop (X:=Nat) (fun i=>[(0, .imm (.lst (a.map lagsIV))),(1, .imm (.lst (b.map lagsIV))),(5, .imm (.int .i64 i))])
   (fun i _ _=>i<=a.length/\((List.range i).all fun i=>lagsEq (a.getD i []) (b.getD i []))=true) (fun i=>a.length-i) 0 .auto ⟨Nat.zero_le _,rfl⟩ ?_
  rintro i nx G ⟨hi,hst⟩
  refine BN ?_
  refine W.cond rfl (fun h1=>?_) (fun h1=>?_)
  ·have hlt:i < a.length:=by have:=of_decide_eq_true h1;rw [hal] at this;omega
   have h2:=rows_ivat hlt
   have h3:=rows_ivat (a:=b) (i:=i) (by omega)
   have hmu:a.length-(i+1) < a.length-i:=by omega
   have hsu:=all_range_succ (f:=fun i=>lagsEq (a.getD i []) (b.getD i [])) (i:=i)
   rw [hst,Bool.true_and] at hsu
   have hend:=all_range_end (f:=fun i=>lagsEq (a.getD i []) (b.getD i [])) hlt
   have h4:=h332 i
   cases hs:lagsEq (a.getD i []) (b.getD i []) with
   |true=>
    rw [hs] at h4
    refine BN ?_
    exact W.skipLop (i+1) hmu .auto ⟨hlt,hsu.trans hs⟩
   |false=>
    rw [hs] at h4
    refine BN ?_
    exact W.retFin1 rfl ⟨[],by rw [hq,hend hs];rfl⟩
  ·have hge:i=a.length:=by have:=of_decide_eq_false h1;rw [hal] at this;omega
   subst hge
   refine BN ?_
   exact W.retFin1 rfl ⟨[],by rw [hq,hst];rfl⟩
 ·have hc:(((a.map lagsIV).length:Int) != ((b.map lagsIV).length:Int))=true:=by rw [hal,hbl,bne_iff_ne];omega
  have hq:rowsEq a b=false:=by
   cases h:rowsEq a b with
   |false=>rfl
   |true=>rw [rowsEq_iff.1 h] at hne;exact absurd rfl hne
  refine BN ?_
  exact W.retFin1 rfl ⟨[],by rw [hq];rfl⟩
end Go.Abs

/- Records and bags: the reference's small functions. -/
open Go Go.Abs
namespace Go.Abs
set_option maxRecDepth 100000
set_option maxHeartbeats 4000000
def ty381:TyI:={ d:=TyD.st [(0,1),(1,1),(2,1)],sz:=3,bytes:=24,zero:=AV.imm (IV.agg [IV.int IntKind.i64 (0),IV.int IntKind.i64 (0),IV.int IntKind.i64 (0)]) }
instance tyis381:TyIs CC 81 ty381:=⟨by kernel_rfl⟩
def ty469:TyI:={ d:=TyD.st [(0,3),(3,1)],sz:=4,bytes:=32,zero:=AV.imm (IV.agg [IV.int IntKind.i64 (0),IV.int IntKind.i64 (0),IV.int IntKind.i64 (0),IV.int IntKind.i64 (0)]) }
instance tyis469:TyIs CC 169 ty469:=⟨by kernel_rfl⟩
def ty376:TyI:={ d:=TyD.sl 169,sz:=1,bytes:=24,zero:=AV.nils }
instance tyis376:TyIs CC 76 ty376:=⟨by kernel_rfl⟩
def ty377:TyI:={ d:=TyD.sl 169,sz:=1,bytes:=24,zero:=AV.nils }
instance tyis377:TyIs CC 77 ty377:=⟨by kernel_rfl⟩
structure Rc where
 a:Int
 k:Int
 v:Int
structure Bi where
 r:Rc
 n:Int
def Rc.iv (r:Rc):IV := .agg [.int .i64 r.a, .int .i64 r.k, .int .i64 r.v]
def Bi.iv (x:Bi):IV := .agg [.int .i64 x.r.a, .int .i64 x.r.k, .int .i64 x.r.v, .int .i64 x.n]
def bagIV (b:List Bi):IV := .lst (b.map Bi.iv)
def w64 (n:Int):Int:=IntKind.wrap .i64 n
def clampZ (n:Int):Int:=if (if (1000000000:Int) < n then 1000000000 else n) > -1000000000 then (if (1000000000:Int) < n then 1000000000 else n) else -1000000000
instance fnis524:FnIs CC 224:=⟨rfl,fun _=>rfl⟩
theorem ret524 (n:Int):Ret CC 224 [.int .i64 n] (.int .i64 (clampZ n)):=by
 refine Ret.of (fn:=Go.Proofs.Tryz.f224) (by kernel_rfl) rfl rfl ?_
 refine BB ?_
 exact W.retFin1 rfl ⟨[],rfl⟩
def lessR (x y:Rc):Bool:=if x.a != y.a then decide (x.a < y.a) else if x.k != y.k then decide (x.k < y.k) else decide (x.v < y.v)
instance fnis520:FnIs CC 220:=⟨rfl,fun _=>rfl⟩
theorem ret520 (x y:Rc):Ret CC 220 [x.iv,y.iv] (.bool (lessR x y)):=by
 obtain ⟨a,k,v⟩:=x
 obtain ⟨a2,k2,v2⟩:=y
 unfold lessR
 simp only
 refine Ret.of (fn:=Go.Proofs.Tryz.f220) (by kernel_rfl) rfl rfl ?_
 rcases Bool.eq_false_or_eq_true (a != a2) with c1|c1
 ·rw [c1,if_pos rfl]
  refine BB ?_
  exact W.retFin1 rfl ⟨[],rfl⟩
 ·rw [c1,if_neg (by decide)]
  rcases Bool.eq_false_or_eq_true (k != k2) with c2|c2
  ·rw [c2,if_pos rfl]
   refine BB ?_
   exact W.retFin1 rfl ⟨[],rfl⟩
  ·rw [c2,if_neg (by decide)]
   refine BB ?_
   exact W.retFin1 rfl ⟨[],rfl⟩
theorem bag_at {b:List Bi} {i:Nat} {x:Bi} (h:b[i]? = some x):(b.map Bi.iv)[((i:Nat):Int).toNat]? = some x.iv:=at_map Bi.iv h
def fitsB (b:List Bi):Bool:=if decide ((b.length:Int) > 300) then false else b.all fun x => !decide (x.n > 1000000)
instance fnis490:FnIs CC 190:=⟨rfl,fun _=>rfl⟩
theorem ret490 {b:List Bi} (hl:b.length<=maxI):Ret CC 190 [bagIV b] (.bool (fitsB b)):=by
 have hl:b.length<=9223372036854775807:=hl
 have hbm:(b.map Bi.iv).length=b.length:=List.length_map ..
 unfold fitsB
 rcases Bool.eq_false_or_eq_true (decide (((b.map Bi.iv).length:Int) > 300)) with c1|c1
 ·rw [<-hbm,c1,if_pos rfl]
  refine Ret.of (fn:=Go.Proofs.Tryz.f190) (by kernel_rfl) rfl rfl ?_
  refine BB ?_
  exact W.retFin1 rfl ⟨[],rfl⟩
 ·rw [<-hbm,c1,if_neg (by decide)]
  refine Ret.of (fn:=Go.Proofs.Tryz.f190) (by kernel_rfl) rfl rfl ?_
  refine BB ?_
  refine W.loop (X:=Nat) (fun i=>[(0, .imm (bagIV b)),(3, .imm (.int .i64 i))]) (fun i _ _=>i<=b.length/\((b.take i).all fun x => !decide (x.n > 1000000))=true) (fun i=>b.length-i) 0 .auto ⟨Nat.zero_le _,rfl⟩ ?_
  rintro i nx G ⟨hi,hal⟩
  refine BN ?_
  refine W.cond rfl (fun h1=>?_) (fun h1=>?_)
  ·have hlt:i < b.length:=by have:=of_decide_eq_true h1;rw [hbm] at this;omega
   obtain ⟨x,hx⟩:=at_lt hlt
   have hxi:=bag_at hx
   have hmu:b.length-(i+1) < b.length-i:=by omega
   have htk:((b.take (i+1)).all fun x => !decide (x.n > 1000000)) = !decide (x.n > 1000000):=by rw [List.take_add_one,hx,List.all_append,hal];simp
   have hany:decide (x.n > 1000000)=true->(b.all fun x => !decide (x.n > 1000000))=false:=fun h=>by
    rw [List.all_eq_false]
    exact ⟨x,List.mem_of_getElem? hx,by rw [h];decide⟩
   obtain ⟨⟨a,k,v⟩,n⟩:=x
   simp only at htk hany
   rcases Bool.eq_false_or_eq_true (decide (n > 1000000)) with c2|c2
   ·rw [hany c2]
    refine BN ?_
    exact W.retFin1 rfl ⟨[],rfl⟩
   ·refine BN ?_
    exact W.skipLop (i+1) hmu .auto ⟨hlt,by rw [htk,c2];rfl⟩
  ·have hge:b.length<=i:=by have:=of_decide_eq_false h1;rw [hbm] at this;omega
   rw [List.take_of_length_le hge] at hal
   rw [hal]
   refine BN ?_
   exact W.retFin1 rfl ⟨[],rfl⟩
def keyedF (b:List Bi) (key lo hi:Int):List Bi:=b.filter fun x=>x.r.k==key&&decide (x.r.a>=lo)&&decide (x.r.a<=hi)
instance fnis522:FnIs CC 222:=⟨rfl,fun _=>rfl⟩
theorem ret522 {b:List Bi} (hl:b.length<=4294967296) (key lo hi:Int):Ret CC 222 [bagIV b, .int .i64 key, .int .i64 lo, .int .i64 hi] (bagIV (keyedF b key lo hi)):=by
 have hbm:(b.map Bi.iv).length=b.length:=List.length_map ..
 refine Ret.of (fn:=Go.Proofs.Tryz.f222) (by kernel_rfl) rfl rfl ?_
 refine BB ?_
 refine W.loop (X:=Nat×AV) (fun s=>[(0, .imm (bagIV b)),(1, .imm (.int .i64 key)),(2, .imm (.int .i64 lo)),(3, .imm (.int .i64 hi)),(9,s.2),(10, .imm (.int .i64 s.1))])
  (fun s nx G=>s.1<=b.length/\Own 169 4 0 nx ((keyedF (b.take s.1) key lo hi).map Bi.iv) G s.2) (fun s=>b.length-s.1) (0, .nils) .auto ⟨Nat.zero_le _, .nil ..⟩ ?_
 rintro ⟨i,w⟩ nx G ⟨hi2,ho⟩
 dsimp only at hi2 ho ⊢
 refine BN ?_
 refine W.cond rfl (fun h1=>?_) (fun h1=>?_)
 ·have hlt:i < b.length:=by have:=of_decide_eq_true h1;rw [hbm] at this;omega
  obtain ⟨x,hx⟩:=at_lt hlt
  have hxi:=bag_at hx
  have hmu:b.length-(i+1) < b.length-i:=by omega
  have hlen:((keyedF (b.take i) key lo hi).map Bi.iv).length<=i:=by
   rw [List.length_map]
   unfold keyedF
   have:=List.length_filter_le (fun x:Bi=>x.r.k==key&&decide (x.r.a>=lo)&&decide (x.r.a<=hi)) (b.take i)
   rw [List.length_take] at this
   omega
  have htk:∀ c,(x.r.k==key&&decide (x.r.a>=lo)&&decide (x.r.a<=hi))=c->(keyedF (b.take (i+1)) key lo hi).map Bi.iv=(keyedF (b.take i) key lo hi).map Bi.iv++(if c then [x.iv] else []):=fun c hc=>by
   unfold keyedF
   rw [List.take_add_one,hx,List.filter_append,List.map_append]
   congr 1
   show (List.filter _ [x]).map Bi.iv=_
   rw [List.filter_cons,hc]
   cases c<;>rfl
  obtain ⟨⟨a,k,v⟩,n⟩:=x
  simp only at htk
  have skip:(k==key&&decide (a>=lo)&&decide (a<=hi))=false->(keyedF (b.take (i+1)) key lo hi).map Bi.iv=(keyedF (b.take i) key lo hi).map Bi.iv:=fun h=>by rw [htk _ h];simp
  rcases Bool.eq_false_or_eq_true (k==key) with c1|c1
  ·rcases Bool.eq_false_or_eq_true (decide (a>=lo)) with c2|c2
   ·rcases Bool.eq_false_or_eq_true (decide (a<=hi)) with c3|c3
    ·have htk2:=htk true (by rw [c1,c2,c3];rfl)
     rw [if_pos rfl] at htk2
     refine BN ?_
     refine R.app1 ho at_upd (by simp only [most];omega) fun v' G' ho' hG'=>?_
     refine BN ?_
     refine W.skipLop (i+1,v') hmu .auto ⟨hlt,?_⟩
     show Own _ _ _ _ ((keyedF (b.take (i+1)) key lo hi).map Bi.iv) _ _
     rw [htk2]
     exact ho'.up (by omega)
    ·refine BN ?_
     exact W.skipLop (i+1,w) hmu .auto ⟨hlt,by rw [skip (by rw [c1,c2,c3];rfl)];exact ho.up (by omega)⟩
   ·refine BN ?_
    exact W.skipLop (i+1,w) hmu .auto ⟨hlt,by rw [skip (by rw [c1,c2];rfl)];exact ho.up (by omega)⟩
  ·refine BN ?_
   exact W.skipLop (i+1,w) hmu .auto ⟨hlt,by rw [skip (by rw [c1];rfl)];exact ho.up (by omega)⟩
 ·have hge:b.length<=i:=by have:=of_decide_eq_false h1;rw [hbm] at this;omega
  rw [List.take_of_length_le hge] at ho
  refine BN ?_
  exact W.retFin1 rfl (ho.peek (k:=99))
end Go.Abs

/- Records and bags: cuts, shifts, what is near, what is the same. -/
open Go Go.Abs
namespace Go.Abs
set_option maxRecDepth 100000
set_option maxHeartbeats 4000000
def cutB (b:List Bi) (lo hi:Int):List Bi:=b.filter fun x=>decide (x.r.a>=lo)&&decide (x.r.a<=hi)
theorem filter_step {P:Bi->Bool} {b:List Bi} {i:Nat} {x:Bi} (hx:b[i]? = some x) {c:Bool} (hc:P x=c):((b.take (i+1)).filter P).map Bi.iv=((b.take i).filter P).map Bi.iv++(if c then [x.iv] else []):=by
 rw [List.take_add_one,hx,List.filter_append,List.map_append]
 congr 1
 show (List.filter _ [x]).map Bi.iv=_
 rw [List.filter_cons,hc]
 cases c<;>rfl
theorem filter_small {P:Bi->Bool} {b:List Bi} {i:Nat}:((b.take i).filter P |>.map Bi.iv).length<=i:=by
 rw [List.length_map]
 have:=List.length_filter_le P (b.take i)
 rw [List.length_take] at this
 omega
instance fnis346:FnIs CC 46:=⟨rfl,fun _=>rfl⟩
theorem ret346 {b:List Bi} (hl:b.length<=4294967296) (lo hi:Int):Ret CC 46 [bagIV b, .int .i64 lo, .int .i64 hi] (bagIV (cutB b lo hi)):=by
 have hbm:(b.map Bi.iv).length=b.length:=List.length_map ..
 refine Ret.of (fn:=Go.Proofs.Tryz.f46) (by kernel_rfl) rfl rfl ?_
 refine BB ?_
 refine W.loop (X:=Nat×AV) (fun s=>[(1, .imm (.int .i64 lo)),(2, .imm (.int .i64 hi)),(7,s.2),(10, .imm (bagIV b)),(11, .imm (.int .i64 (b.map Bi.iv).length)),(12, .imm (.int .i64 s.1))])
  (fun s nx G=>s.1<=b.length/\Own 169 4 0 nx ((cutB (b.take s.1) lo hi).map Bi.iv) G s.2) (fun s=>b.length-s.1) (0, .nils) .auto ⟨Nat.zero_le _, .nil ..⟩ ?_
 rintro ⟨i,w⟩ nx G ⟨hi2,ho⟩
 dsimp only at hi2 ho ⊢
 refine BN ?_
 refine W.cond rfl (fun h1=>?_) (fun h1=>?_)
 ·have hlt:i < b.length:=by have:=of_decide_eq_true h1;rw [hbm] at this;omega
  obtain ⟨x,hx⟩:=at_lt hlt
  have hxi:=bag_at hx
  have hmu:b.length-(i+1) < b.length-i:=by omega
  have hlen:((cutB (b.take i) lo hi).map Bi.iv).length<=i:=filter_small
  have htk:∀ c,(decide (x.r.a>=lo)&&decide (x.r.a<=hi))=c->(cutB (b.take (i+1)) lo hi).map Bi.iv=(cutB (b.take i) lo hi).map Bi.iv++(if c then [x.iv] else []):=fun c hc=>filter_step hx hc
  obtain ⟨⟨a,k,v⟩,n⟩:=x
  simp only at htk
  have skip:(decide (a>=lo)&&decide (a<=hi))=false->(cutB (b.take (i+1)) lo hi).map Bi.iv=(cutB (b.take i) lo hi).map Bi.iv:=fun h=>by rw [htk _ h];simp
  have hof:=fun (G2:Nat->Obj) (h:∀ o,o < nx->G2 o=G o)=>ho.fr (G':=G2) (hh:=Nat.le_refl _) (hG:=fun q _ h2=>h q h2)
  rcases Bool.eq_false_or_eq_true (decide (a>=lo)) with c2|c2
  ·rcases Bool.eq_false_or_eq_true (decide (a<=hi)) with c3|c3
   ·have htk2:=htk true (by rw [c2,c3];rfl)
    rw [if_pos rfl] at htk2
    refine BN ?_
    refine R.app1 (hof _ fun o h=>at_upd) at_upd (by simp only [most];omega) fun v' G' ho' hG'=>?_
    refine BN ?_
    refine W.skipLop (i+1,v') hmu .auto ⟨hlt,?_⟩
    show Own _ _ _ _ ((cutB (b.take (i+1)) lo hi).map Bi.iv) _ _
    rw [htk2]
    exact ho'.up (by omega)
   ·refine BN ?_
    exact W.skipLop (i+1,w) hmu .auto ⟨hlt,by rw [skip (by rw [c2,c3];rfl)];exact (hof _ fun o h=>at_upd).up (by omega)⟩
  ·refine BN ?_
   exact W.skipLop (i+1,w) hmu .auto ⟨hlt,by rw [skip (by rw [c2];rfl)];exact (hof _ fun o h=>at_upd).up (by omega)⟩
 ·have hge:b.length<=i:=by have:=of_decide_eq_false h1;rw [hbm] at this;omega
  rw [List.take_of_length_le hge] at ho
  refine BN ?_
  exact W.retFin1 rfl (ho.peek (k:=99))
def laterF (b:List Bi) (n:Int):List Bi:=b.map fun x=>⟨⟨w64 (x.r.a+n),x.r.k,x.r.v⟩,x.n⟩
instance fnis507:FnIs CC 207:=⟨rfl,fun _=>rfl⟩
theorem ret507 {b:List Bi} (hl:b.length<=4294967295) (d:Int):Ret CC 207 [bagIV b, .int .i64 d] (bagIV (laterF b d)):=by
 have hbm:(b.map Bi.iv).length=b.length:=List.length_map ..
 refine Ret.of (fn:=Go.Proofs.Tryz.f207) (by kernel_rfl) rfl rfl ?_
 refine BB ?_
 refine W.loop (X:=Nat×AV) (fun s=>[(0, .imm (bagIV b)),(1, .imm (.int .i64 d)),(5,s.2),(6, .imm (.int .i64 s.1))])
  (fun s nx G=>s.1<=b.length/\Own 169 4 0 nx ((laterF (b.take s.1) d).map Bi.iv) G s.2) (fun s=>b.length-s.1) (0, .nils) .auto ⟨Nat.zero_le _, .nil ..⟩ ?_
 rintro ⟨i,w⟩ nx G ⟨hi2,ho⟩
 dsimp only at hi2 ho ⊢
 refine BN ?_
 refine W.cond rfl (fun h1=>?_) (fun h1=>?_)
 ·have hlt:i < b.length:=by have:=of_decide_eq_true h1;rw [hbm] at this;omega
  obtain ⟨x,hx⟩:=at_lt hlt
  have hxi:=bag_at hx
  have hmu:b.length-(i+1) < b.length-i:=by omega
  have hlen:((laterF (b.take i) d).map Bi.iv).length<=i:=by unfold laterF;simp;omega
  have htk:(laterF (b.take (i+1)) d).map Bi.iv=(laterF (b.take i) d).map Bi.iv++[.agg [.int .i64 (w64 (x.r.a+d)), .int .i64 x.r.k, .int .i64 x.r.v, .int .i64 x.n]]:=by
   unfold laterF
   rw [List.take_add_one,hx,List.map_append,List.map_append];rfl
  obtain ⟨⟨a,k,v⟩,n⟩:=x
  simp only at htk
  refine BN ?_
  refine R.op0 (O.int (u := .int .i64 (w64 (a+d))) rfl rfl rfl) rfl ?_
  refine BN ?_
  have hof:=fun (G2:Nat->Obj) (h:∀ o,o < nx->G2 o=G o)=>ho.fr (G':=G2) (hh:=Nat.le_refl _) (hG:=fun q _ h2=>h q h2)
  refine R.app1 (z := .agg [.int .i64 (w64 (a+d)), .int .i64 k, .int .i64 v, .int .i64 n]) (hof _ fun o h=>at_upd) at_upd (by simp only [most];omega) fun v' G' ho' hG'=>?_
  refine BN ?_
  refine W.skipLop (i+1,v') hmu .auto ⟨hlt,?_⟩
  show Own _ _ _ _ ((laterF (b.take (i+1)) d).map Bi.iv) _ _
  rw [htk]
  exact ho'.up (by omega)
 ·have hge:b.length<=i:=by have:=of_decide_eq_false h1;rw [hbm] at this;omega
  rw [List.take_of_length_le hge] at ho
  refine BN ?_
  exact W.retFin1 rfl (ho.peek (k:=99))
def nearF (b:List Bi) (r:Rc) (n:Int):List Bi:=b.filter fun x=>x.r.k==r.k&&decide (x.r.a<=w64 (r.a+n))&&decide (x.r.a>=w64 (r.a-n))
instance fnis513:FnIs CC 213:=⟨rfl,fun _=>rfl⟩
theorem ret513 {b:List Bi} (hl:b.length<=4294967296) (r:Rc) (d:Int):Ret CC 213 [bagIV b,r.iv, .int .i64 d] (bagIV (nearF b r d)):=by
 have hbm:(b.map Bi.iv).length=b.length:=List.length_map ..
 obtain ⟨ra,rk,rv⟩:=r
 refine Ret.of (fn:=Go.Proofs.Tryz.f213) (by kernel_rfl) rfl rfl ?_
 refine BB ?_
 refine W.loop (X:=Nat×AV) (fun s=>[(0, .imm (bagIV b)),(2, .imm (.int .i64 d)),(4, .ptr 0 0),(7,s.2),(8, .imm (.int .i64 s.1))])
  (fun s nx G=>1<=nx/\G 0 = .box [.imm (.int .i64 ra), .imm (.int .i64 rk), .imm (.int .i64 rv)] false/\s.1<=b.length/\Own 169 4 1 nx ((nearF (b.take s.1) ⟨ra,rk,rv⟩ d).map Bi.iv) G s.2) (fun s=>b.length-s.1) (0, .nils) .auto ⟨by omega,rfl,Nat.zero_le _, .nil ..⟩ ?_
 rintro ⟨i,w⟩ nx G ⟨hnx,g0,hi2,ho⟩
 dsimp only at hi2 ho ⊢
 refine BN ?_
 refine W.cond rfl (fun h1=>?_) (fun h1=>?_)
 ·have hlt:i < b.length:=by have:=of_decide_eq_true h1;rw [hbm] at this;omega
  obtain ⟨x,hx⟩:=at_lt hlt
  have hxi:=bag_at hx
  have hmu:b.length-(i+1) < b.length-i:=by omega
  have hlen:((nearF (b.take i) ⟨ra,rk,rv⟩ d).map Bi.iv).length<=i:=filter_small
  have htk:∀ c,(x.r.k==rk&&decide (x.r.a<=w64 (ra+d))&&decide (x.r.a>=w64 (ra-d)))=c->(nearF (b.take (i+1)) ⟨ra,rk,rv⟩ d).map Bi.iv=(nearF (b.take i) ⟨ra,rk,rv⟩ d).map Bi.iv++(if c then [x.iv] else []):=fun c hc=>filter_step hx hc
  obtain ⟨⟨a,k,v⟩,n⟩:=x
  simp only at htk
  have skip:(k==rk&&decide (a<=w64 (ra+d))&&decide (a>=w64 (ra-d)))=false->(nearF (b.take (i+1)) ⟨ra,rk,rv⟩ d).map Bi.iv=(nearF (b.take i) ⟨ra,rk,rv⟩ d).map Bi.iv:=fun h=>by rw [htk _ h];simp
  rcases Bool.eq_false_or_eq_true (k==rk) with c1|c1
  ·rcases Bool.eq_false_or_eq_true (decide (a<=w64 (ra+d))) with c2|c2
   ·rcases Bool.eq_false_or_eq_true (decide (a>=w64 (ra-d))) with c3|c3
    ·have htk2:=htk true (by rw [c1,c2,c3];rfl)
     rw [if_pos rfl] at htk2
     refine BN ?_
     refine BD ?_
     refine D.op0 (O.int (u := .int .i64 (w64 (ra+d))) rfl rfl rfl) rfl rfl ?_
     refine BD ?_
     refine D.op0 (O.int (u := .int .i64 (w64 (ra-d))) rfl rfl rfl) rfl rfl ?_
     refine BD ?_
     refine BN ?_
     refine R.app1 ho at_upd (by simp only [most];omega) fun v' G' ho' hG'=>?_
     refine BN ?_
     refine W.skipLop (i+1,v') hmu .auto ⟨by omega,(hG' 0 (by omega)).trans (Eq.trans at_upd g0),hlt,?_⟩
     show Own _ _ _ _ ((nearF (b.take (i+1)) ⟨ra,rk,rv⟩ d).map Bi.iv) _ _
     rw [htk2]
     exact ho'.up (by omega)
    ·refine BN ?_
     refine BD ?_
     refine D.op0 (O.int (u := .int .i64 (w64 (ra+d))) rfl rfl rfl) rfl rfl ?_
     refine BD ?_
     refine D.op0 (O.int (u := .int .i64 (w64 (ra-d))) rfl rfl rfl) rfl rfl ?_
     refine BD ?_
     refine BN ?_
     exact W.skipLop (i+1,w) hmu .auto ⟨by omega,g0,hlt,by rw [skip (by rw [c1,c2,c3];rfl)];exact ho.up (by omega)⟩
   ·refine BN ?_
    refine BD ?_
    refine D.op0 (O.int (u := .int .i64 (w64 (ra+d))) rfl rfl rfl) rfl rfl ?_
    refine BD ?_
    refine BN ?_
    exact W.skipLop (i+1,w) hmu .auto ⟨by omega,g0,hlt,by rw [skip (by rw [c1,c2];rfl)];exact ho.up (by omega)⟩
  ·refine BN ?_
   exact W.skipLop (i+1,w) hmu .auto ⟨by omega,g0,hlt,by rw [skip (by rw [c1];rfl)];exact ho.up (by omega)⟩
 ·have hge:b.length<=i:=by have:=of_decide_eq_false h1;rw [hbm] at this;omega
  rw [List.take_of_length_le hge] at ho
  refine BN ?_
  exact W.retFin1 rfl (ho.peek (k:=99))
end Go.Abs

/- The reference: terms' values, and folds. -/
open Go Go.Abs
namespace Go.Abs
set_option maxRecDepth 100000
set_option maxHeartbeats 4000000
mutual
/-- A term whose values are told. -/
def okT:Trm->Bool
 | .mk op _ kids=>(decide (1<=op)&&decide (op<=5))||(decide (6<=op)&&(kids.length==2&&okTs kids))
def okTs:List Trm->Bool
 |[]=>true
 |c::r=>okT c&&okTs r
end
def combZ (op a b:Int):Int:=if op==6 then clampZ (w64 (a+b)) else if op==7 then clampZ (w64 (a-b)) else if op==8 then clampZ (w64 (a*b)) else if op==9 then (if decide (a < b) then 1 else 0) else if a==b then 1 else 0
mutual
def calcZ (r:Rc) (o:Int):Trm->Int
 | .mk op n kids=>if op==1 then n else if op==2 then r.a else if op==3 then r.k else if op==4 then r.v else if op==5 then o else combZ op ((calcZs r o kids).getD 0 0) ((calcZs r o kids).getD 1 0)
def calcZs (r:Rc) (o:Int):List Trm->List Int
 |[]=>[]
 |c::l=>calcZ r o c::calcZs r o l
end
instance fnis511:FnIs CC 211:=⟨rfl,fun _=>rfl⟩
theorem ret511' (ra rk rv o:Int):∀ (m:Nat) (c:Trm),SizeOf.sizeOf c < m->okT c=true->Ret CC 211 [c.iv,(Rc.mk ra rk rv).iv, .int .i64 o] (.int .i64 (calcZ ⟨ra,rk,rv⟩ o c))
 |0,_,h0,_=>absurd h0 (Nat.not_lt_zero _)
 |m+1, .mk op n kids,h0,h=>by
  rw [okT] at h
  rw [calcZ]
  refine Ret.of (fn:=Go.Proofs.Tryz.f211) (by kernel_rfl) rfl rfl ?_
  rcases Bool.eq_false_or_eq_true (op==1) with c1|c1
  ·rw [c1,if_pos rfl]
   refine BB ?_
   exact W.retFin1 rfl ⟨[],rfl⟩
  rw [c1,if_neg (by decide)]
  rcases Bool.eq_false_or_eq_true (op==2) with c2|c2
  ·rw [c2,if_pos rfl]
   refine BB ?_
   exact W.retFin1 rfl ⟨[],rfl⟩
  rw [c2,if_neg (by decide)]
  rcases Bool.eq_false_or_eq_true (op==3) with c3|c3
  ·rw [c3,if_pos rfl]
   refine BB ?_
   exact W.retFin1 rfl ⟨[],rfl⟩
  rw [c3,if_neg (by decide)]
  rcases Bool.eq_false_or_eq_true (op==4) with c4|c4
  ·rw [c4,if_pos rfl]
   refine BB ?_
   exact W.retFin1 rfl ⟨[],rfl⟩
  rw [c4,if_neg (by decide)]
  rcases Bool.eq_false_or_eq_true (op==5) with c5|c5
  ·rw [c5,if_pos rfl]
   refine BB ?_
   exact W.retFin1 rfl ⟨[],rfl⟩
  rw [c5,if_neg (by decide)]
  have hk:kids.length=2/\okTs kids=true:=by
   have n1:op≠1:=by simpa using c1
   have n2:op≠2:=by simpa using c2
   have n3:op≠3:=by simpa using c3
   have n4:op≠4:=by simpa using c4
   have n5:op≠5:=by simpa using c5
   rw [Bool.or_eq_true,Bool.and_eq_true,decide_eq_true_eq,decide_eq_true_eq,Bool.and_eq_true,Bool.and_eq_true,beq_iff_eq] at h
   rcases h with h|h
   ·omega
   ·exact h.2
  obtain ⟨k1,k2,rfl⟩:∃ k1 k2,kids=[k1,k2]:=by
   match kids,hk.1 with
   |[a,b],_=>exact ⟨a,b,rfl⟩
  have hk2:=hk.2
  rw [okTs,okTs,okTs,Bool.and_eq_true,Bool.and_eq_true] at hk2
  simp only [Trm.mk.sizeOf_spec,List.cons.sizeOf_spec] at h0
  have i1:=ret511' ra rk rv o m k1 (by omega) hk2.1
  have i2:=ret511' ra rk rv o m k2 (by omega) hk2.2.1
  simp only [calcZs,List.getD_cons_zero,List.getD_cons_succ]
  generalize calcZ ⟨ra,rk,rv⟩ o k1=z1 at *
  generalize calcZ ⟨ra,rk,rv⟩ o k2=z2 at *
  obtain ⟨p1,m1,q1⟩:=k1
  obtain ⟨p2,m2,q2⟩:=k2
  have g0:(Trm.ivs [Trm.mk p1 m1 q1,Trm.mk p2 m2 q2])[(0:Int).toNat]? = some (Trm.mk p1 m1 q1).iv:=rfl
  have g1:(Trm.ivs [Trm.mk p1 m1 q1,Trm.mk p2 m2 q2])[(1:Int).toNat]? = some (Trm.mk p2 m2 q2).iv:=rfl
  have hiv:(Trm.mk op n [Trm.mk p1 m1 q1,Trm.mk p2 m2 q2]).iv = .agg [.int .i64 op, .int .i64 n, .lst (Trm.ivs [Trm.mk p1 m1 q1,Trm.mk p2 m2 q2])]:=rfl
  rw [hiv]
  generalize Trm.ivs [Trm.mk p1 m1 q1,Trm.mk p2 m2 q2]=xs at *
  unfold combZ
  have a1:=ret524 (w64 (z1+z2))
  have a2:=ret524 (w64 (z1-z2))
  have a3:=ret524 (w64 (z1*z2))
  rcases Bool.eq_false_or_eq_true (op==6) with c6|c6
  ·rw [c6,if_pos rfl]
   refine BB ?_
   refine R.op0 (O.int (u := .int .i64 (w64 (z1+z2))) rfl rfl rfl) rfl ?_
   refine BB ?_
   exact W.retFin1 rfl ⟨[],rfl⟩
  rw [c6,if_neg (by decide)]
  rcases Bool.eq_false_or_eq_true (op==7) with c7|c7
  ·rw [c7,if_pos rfl]
   refine BB ?_
   refine R.op0 (O.int (u := .int .i64 (w64 (z1-z2))) rfl rfl rfl) rfl ?_
   refine BB ?_
   exact W.retFin1 rfl ⟨[],rfl⟩
  rw [c7,if_neg (by decide)]
  rcases Bool.eq_false_or_eq_true (op==8) with c8|c8
  ·rw [c8,if_pos rfl]
   refine BB ?_
   refine R.op0 (O.int (u := .int .i64 (w64 (z1*z2))) rfl rfl rfl) rfl ?_
   refine BB ?_
   exact W.retFin1 rfl ⟨[],rfl⟩
  rw [c8,if_neg (by decide)]
  rcases Bool.eq_false_or_eq_true (op==9) with c9|c9
  ·rw [c9,if_pos rfl]
   rcases Bool.eq_false_or_eq_true (decide (z1 < z2)) with d1|d1
   ·rw [d1,if_pos rfl]
    refine BB ?_
    exact W.retFin1 rfl ⟨[],rfl⟩
   ·rw [d1,if_neg (by decide)]
    refine BB ?_
    exact W.retFin1 rfl ⟨[],rfl⟩
  rw [c9,if_neg (by decide)]
  rcases Bool.eq_false_or_eq_true (z1==z2) with d2|d2
  ·rw [d2,if_pos rfl]
   refine BB ?_
   exact W.retFin1 rfl ⟨[],rfl⟩
  ·rw [d2,if_neg (by decide)]
   refine BB ?_
   exact W.retFin1 rfl ⟨[],rfl⟩
theorem ret511 (r:Rc) (o:Int) (c:Trm) (h:okT c=true):Ret CC 211 [c.iv,r.iv, .int .i64 o] (.int .i64 (calcZ r o c)):=ret511' r.a r.k r.v o (SizeOf.sizeOf c+1) c (Nat.lt_succ_self _) h
end Go.Abs

/- The reference: folds of bags. -/
open Go Go.Abs
namespace Go.Abs
set_option maxRecDepth 100000
set_option maxHeartbeats 4000000
def foldS (f:Int) (i:Nat) (x:Bi) (o:Int):Int:=if f==1 then w64 (o+x.n) else if f==2 then w64 (o+w64 (x.n*x.r.v)) else if (i:Int)==0 then x.r.v else if f==3 then (if decide (x.r.v < o) then x.r.v else o) else if f==4 then (if decide (x.r.v > o) then x.r.v else o) else o
def foldI (f:Int) (b:List Bi):Nat->Int
 |0=>0
 |i+1=>match b[i]? with
  |some x=>foldS f i x (foldI f b i)
  |none=>foldI f b i
def foldZ (f:Int) (b:List Bi):Int:=clampZ (foldI f b b.length)
instance fnis521:FnIs CC 221:=⟨rfl,fun _=>rfl⟩
theorem ret521 {b:List Bi} (hl:b.length<=4294967296) (f:Int):Ret CC 221 [.int .i64 f,bagIV b] (.int .i64 (foldZ f b)):=by
 have hbm:(b.map Bi.iv).length=b.length:=List.length_map ..
 have h524:=ret524 (foldI f b b.length)
 refine Ret.of (fn:=Go.Proofs.Tryz.f221) (by kernel_rfl) rfl rfl ?_
 refine BB ?_
 refine W.loop (X:=Nat×Int) (fun s=>[(0, .imm (.int .i64 f)),(1, .imm (bagIV b)),(5, .imm (.int .i64 s.2)),(6, .imm (.int .i64 s.1))])
  (fun s _ _=>s.1<=b.length/\s.2=foldI f b s.1) (fun s=>b.length-s.1) (0,0) .auto ⟨Nat.zero_le _,rfl⟩ ?_
 rintro ⟨i,o⟩ nx G ⟨hi,he⟩
 dsimp only at hi he ⊢
 refine BN ?_
 refine W.cond rfl (fun h1=>?_) (fun h1=>?_)
 ·have hlt:i < b.length:=by have:=of_decide_eq_true h1;rw [hbm] at this;omega
  obtain ⟨x,hx⟩:=at_lt hlt
  have hxi:=bag_at hx
  have hmu:b.length-(i+1) < b.length-i:=by omega
  have hst:foldI f b (i+1)=foldS f i x o:=by rw [foldI,hx,<-he]
  obtain ⟨⟨a,k,v⟩,n⟩:=x
  unfold foldS at hst
  simp only at hst
  rcases Bool.eq_false_or_eq_true (f==1) with c1|c1
  ·rw [c1,if_pos rfl] at hst
   refine BN ?_
   refine R.op0 (O.int (u := .int .i64 (w64 (o+n))) rfl rfl rfl) rfl ?_
   refine BN ?_
   exact W.skipLop (i+1,w64 (o+n)) hmu .auto ⟨hlt,hst.symm⟩
  rw [c1,if_neg (by decide)] at hst
  rcases Bool.eq_false_or_eq_true (f==2) with c2|c2
  ·rw [c2,if_pos rfl] at hst
   refine BN ?_
   refine R.op0 (O.int (u := .int .i64 (w64 (n*v))) rfl rfl rfl) rfl ?_
   refine R.op0 (O.int (u := .int .i64 (w64 (o+w64 (n*v)))) rfl rfl rfl) rfl ?_
   refine BN ?_
   exact W.skipLop (i+1,w64 (o+w64 (n*v))) hmu .auto ⟨hlt,hst.symm⟩
  rw [c2,if_neg (by decide)] at hst
  rcases Bool.eq_false_or_eq_true ((i:Int)==0) with c0|c0
  ·rw [c0,if_pos rfl] at hst
   refine BN ?_
   exact W.skipLop (i+1,v) hmu .auto ⟨hlt,hst.symm⟩
  rw [c0,if_neg (by decide)] at hst
  rcases Bool.eq_false_or_eq_true (f==3) with c3|c3
  ·rw [c3,if_pos rfl] at hst
   have c4:(f==4)=false:=by
    have:f=3:=by simpa using c3
    rw [this];rfl
   rcases Bool.eq_false_or_eq_true (decide (v < o)) with d1|d1
   ·rw [d1,if_pos rfl] at hst
    refine BN ?_
    exact W.skipLop (i+1,v) hmu .auto ⟨hlt,hst.symm⟩
   ·rw [d1,if_neg (by decide)] at hst
    refine BN ?_
    exact W.skipLop (i+1,o) hmu .auto ⟨hlt,hst.symm⟩
  rw [c3,if_neg (by decide)] at hst
  rcases Bool.eq_false_or_eq_true (f==4) with c4|c4
  ·rw [c4,if_pos rfl] at hst
   rcases Bool.eq_false_or_eq_true (decide (v > o)) with d1|d1
   ·rw [d1,if_pos rfl] at hst
    refine BN ?_
    exact W.skipLop (i+1,v) hmu .auto ⟨hlt,hst.symm⟩
   ·rw [d1,if_neg (by decide)] at hst
    refine BN ?_
    exact W.skipLop (i+1,o) hmu .auto ⟨hlt,hst.symm⟩
  ·rw [c4,if_neg (by decide)] at hst
   refine BN ?_
   exact W.skipLop (i+1,o) hmu .auto ⟨hlt,hst.symm⟩
 ·have hge:i=b.length:=by have:=of_decide_eq_false h1;rw [hbm] at this;omega
  subst hge
  rw [<-he] at h524
  unfold foldZ
  rw [<-he]
  refine BN ?_
  exact W.retFin1 rfl ⟨[],rfl⟩
end Go.Abs

/- Whether items of bags are the same. -/
open Go Go.Abs
namespace Go.Abs
set_option maxRecDepth 100000
set_option maxHeartbeats 4000000
def wf64 (n:Int):Prop:=(Lit.int .i64 n).wf=true
structure Bi.Ok (x:Bi):Prop where
 a:wf64 x.r.a
 k:wf64 x.r.k
 v:wf64 x.r.v
 n:wf64 x.n
def Bi.same (x y:Bi):Bool:=(decide (IntKind.i64=IntKind.i64)&&decide (x.r.a=y.r.a))&&((decide (IntKind.i64=IntKind.i64)&&decide (x.r.k=y.r.k))&&((decide (IntKind.i64=IntKind.i64)&&decide (x.r.v=y.r.v))&&((decide (IntKind.i64=IntKind.i64)&&decide (x.n=y.n))&&true)))
theorem Bi.same_iff {x y:Bi}:x.same y=true↔x=y:=by
 obtain ⟨⟨a,k,v⟩,n⟩:=x
 obtain ⟨⟨a',k',v'⟩,n'⟩:=y
 unfold Bi.same
 simp only [Bool.and_eq_true,decide_eq_true_eq,Bi.mk.injEq,Rc.mk.injEq,and_true,true_and,and_assoc]
theorem keyRc {d:Nat} {a k v:Int} (ha:wf64 a) (hk:wf64 k) (hv:wf64 v):CC.P.keyLits (d+2) 81 [.int .i64 a, .int .i64 k, .int .i64 v]=some [.int .i64 a, .int .i64 k, .int .i64 v]:=by
 have e3:CC.P.underlying 3=some (.int .i64):=by kernel_rfl
 have c3:CC.P.cellsOf 3=1:=by kernel_rfl
 have h1:CC.P.underlying 81=some (.struct (fsOf CC.P 81)):=by kernel_rfl
 have h2:(fsOf CC.P 81).toList.map (fun f=>(f.type,f.offset))=[(3,0),(3,1),(3,2)]:=by kernel_rfl
 have h3 : (fsOf CC.P 81).all (·.name != "_") = true := by kernel_rfl
 have h4:CC.P.cellsOf 81=3:=by kernel_rfl
 unfold Program.keyLits
 rw [h1]
 simp only [List.length_cons,List.length_nil,h4,h3,and_self,if_true]
 generalize (fsOf CC.P 81).toList=fs at *
 obtain ⟨f1,r1,rfl,e1,h2⟩:=List.map_eq_cons_iff.1 h2
 obtain ⟨f2,r2,rfl,e2,h2⟩:=List.map_eq_cons_iff.1 h2
 obtain ⟨f5,r3,rfl,e5,h2⟩:=List.map_eq_cons_iff.1 h2
 obtain rfl:=List.map_eq_nil_iff.1 h2
 simp only [Prod.mk.injEq] at e1 e2 e5
 simp [e1.1,e1.2,e2.1,e2.2,e5.1,e5.2,c3,keyI e3 ha,keyI e3 hk,keyI e3 hv]
theorem litsBi {x:Bi} (h:x.Ok):litsOf CC.P 169 [.int .i64 x.r.a, .int .i64 x.r.k, .int .i64 x.r.v, .int .i64 x.n]=some [.int .i64 x.r.a, .int .i64 x.r.k, .int .i64 x.r.v, .int .i64 x.n]:=by
 have e3:CC.P.underlying 3=some (.int .i64):=by kernel_rfl
 have c3:CC.P.cellsOf 3=1:=by kernel_rfl
 have c4:CC.P.cellsOf 81=3:=by kernel_rfl
 have h1:CC.P.underlying 169=some (.struct (fsOf CC.P 169)):=by kernel_rfl
 have h2:(fsOf CC.P 169).toList.map (fun f=>(f.type,f.offset))=[(81,0),(3,3)]:=by kernel_rfl
 have h3 : (fsOf CC.P 169).all (·.name != "_") = true := by kernel_rfl
 have h4:CC.P.cellsOf 169=4:=by kernel_rfl
 unfold litsOf
 simp only [vsOf,vOf]
 unfold Program.keyLits
 rw [h1]
 simp only [List.length_cons,List.length_nil,h4,h3,and_self,if_true]
 generalize (fsOf CC.P 169).toList=fs at *
 obtain ⟨f1,r1,rfl,e1,h2⟩:=List.map_eq_cons_iff.1 h2
 obtain ⟨f2,r2,rfl,e2,h2⟩:=List.map_eq_cons_iff.1 h2
 obtain rfl:=List.map_eq_nil_iff.1 h2
 simp only [Prod.mk.injEq] at e1 e2
 simp [e1.1,e1.2,e2.1,e2.2,c3,c4,keyRc h.a h.k h.v,keyI e3 h.n]
theorem eqBi {x y:Bi} (hx:x.Ok) (hy:y.Ok):eqSt CC.P 169 [.int .i64 x.r.a, .int .i64 x.r.k, .int .i64 x.r.v, .int .i64 x.n] [.int .i64 y.r.a, .int .i64 y.r.k, .int .i64 y.r.v, .int .i64 y.n]=some (x.same y):=by
 have h5:CC.P.keyTypeAt 10 169=true:=by kernel_rfl
 have h6:CC.P.eqGuardType CC.P.depth 169=false:=by kernel_rfl
 unfold eqSt
 rw [if_pos ⟨h5,h6⟩,litsBi hx,litsBi hy]
 rfl
section
variable {id:Nat} {l:Env} {G:Nat->Obj} {nx:Nat} {df:List (AV×List AV)} {pk:Pk} {x y:Operand} {t2:TypeId} {a b:Bi}
theorem O.biNe (ha:a.Ok) (hb:b.Ok) (hx:lookO l x=some (.imm a.iv)) (hy:lookO l y=some (.imm b.iv)):OpV CC id l G nx df pk (.binOp .neq 169 x y t2) (.imm (.bool !(a.same b))) []:=
 O.of fun t L ht=>by
  simp only [opA,ht.ev hx,ht.ev hy,Bi.iv,binA,eqAV,(inferInstance:TyIs CC 169 ty469).is,ty469,eqBi ha hb,Option.map_some]
theorem O.biEq (ha:a.Ok) (hb:b.Ok) (hx:lookO l x=some (.imm a.iv)) (hy:lookO l y=some (.imm b.iv)):OpV CC id l G nx df pk (.binOp .eql 169 x y t2) (.imm (.bool (a.same b))) []:=
 O.of fun t L ht=>by
  simp only [opA,ht.ev hx,ht.ev hy,Bi.iv,binA,eqAV,(inferInstance:TyIs CC 169 ty469).is,ty469,eqBi ha hb,Option.map_some]
end
end Go.Abs

/- What has an item; whether bags are the same. -/
open Go Go.Abs
namespace Go.Abs
set_option maxRecDepth 100000
set_option maxHeartbeats 4000000
def hasB (l:List Bi) (x:Bi):Bool:=l.any fun y=>y.same x
instance fnis523:FnIs CC 223:=⟨rfl,fun _=>rfl⟩
theorem ret523 {b:List Bi} {z:Bi} (hl:b.length<=4294967296) (hb:∀ y∈b,y.Ok) (hz:z.Ok):Ret CC 223 [bagIV b,z.iv] (.bool (hasB b z)):=by
 have hbm:(b.map Bi.iv).length=b.length:=List.length_map ..
 have hzi:z.iv = .agg [.int .i64 z.r.a, .int .i64 z.r.k, .int .i64 z.r.v, .int .i64 z.n]:=rfl
 refine Ret.of (fn:=Go.Proofs.Tryz.f223) (by kernel_rfl) rfl rfl ?_
 refine BB ?_
 refine W.loop (X:=Nat) (fun i=>[(0, .imm (bagIV b)),(3, .ptr 0 0),(5, .imm (.int .i64 i))])
  (fun i nx G=>1<=nx/\G 0 = .box [.imm (.int .i64 z.r.a), .imm (.int .i64 z.r.k), .imm (.int .i64 z.r.v), .imm (.int .i64 z.n)] false/\i<=b.length/\((b.take i).any fun y=>y.same z)=false) (fun i=>b.length-i) 0 .auto ⟨by omega,rfl,Nat.zero_le _,rfl⟩ ?_
 rintro i nx G ⟨hnx,g0,hi,hno⟩
 refine BN ?_
 refine W.cond rfl (fun h1=>?_) (fun h1=>?_)
 ·have hlt:i < b.length:=by have:=of_decide_eq_true h1;rw [hbm] at this;omega
  obtain ⟨x,hx⟩:=at_lt hlt
  have hxi:=bag_at hx
  have hxo:=hb x (List.mem_of_getElem? hx)
  have hmu:b.length-(i+1) < b.length-i:=by omega
  have hst:((b.take (i+1)).any fun y=>y.same z)=x.same z:=by rw [List.take_add_one,hx,List.any_append,hno];simp
  have hany:x.same z=true->hasB b z=true:=fun h=>List.any_eq_true.2 ⟨x,List.mem_of_getElem? hx,h⟩
  have hdc:x.iv.cells.length=4:=rfl
  refine BN ?_
  refine BD ?_
  refine D.op0 (O.biEq (a:=x) (b:=z) hxo hz rfl rfl) rfl rfl ?_
  refine BD ?_
  cases hs:x.same z with
  |true=>
   rw [hany hs]
   refine BN ?_
   exact W.retFin1 rfl ⟨[],rfl⟩
  |false=>
   refine BN ?_
   exact W.skipLop (i+1) hmu .auto ⟨by omega,g0,hlt,by rw [hst,hs]⟩
 ·have hge:b.length<=i:=by have:=of_decide_eq_false h1;rw [hbm] at this;omega
  rw [List.take_of_length_le hge] at hno
  have hh:hasB b z=false:=hno
  rw [hh]
  refine BN ?_
  exact W.retFin1 rfl ⟨[],rfl⟩
def bagSame (a b:List Bi):Bool:=a.length==b.length&&(List.range a.length).all fun i=>match a[i]?,b[i]? with
 |some x,some y=>x.same y
 |_,_=>false
theorem bagSame_iff {a b:List Bi}:bagSame a b=true↔a=b:=by
 unfold bagSame
 rw [Bool.and_eq_true,beq_iff_eq,List.all_eq_true]
 constructor
 ·rintro ⟨h1,h2⟩
  refine List.ext_getElem h1 fun i hi hi2=>?_
  have:=h2 i (List.mem_range.2 hi)
  rw [List.getElem?_eq_getElem hi,List.getElem?_eq_getElem hi2] at this
  exact Bi.same_iff.1 this
 ·rintro rfl
  refine ⟨rfl,fun i hi=>?_⟩
  rw [List.getElem?_eq_getElem (List.mem_range.1 hi)]
  exact Bi.same_iff.2 rfl
instance fnis345:FnIs CC 45:=⟨rfl,fun _=>rfl⟩
theorem ret345 {a b:List Bi} (hl:a.length<=4294967296) (ha:∀ y∈a,y.Ok) (hb:∀ y∈b,y.Ok):Ret CC 45 [bagIV a,bagIV b] (.bool (bagSame a b)):=by
 have ham:(a.map Bi.iv).length=a.length:=List.length_map ..
 have hbm:(b.map Bi.iv).length=b.length:=List.length_map ..
 refine Ret.of (fn:=Go.Proofs.Tryz.f45) (by kernel_rfl) rfl rfl ?_
 by_cases hne:a.length=b.length
 ·have hc:(((a.map Bi.iv).length:Int) != ((b.map Bi.iv).length:Int))=false:=by rw [ham,hbm,hne];simp
  have hq:bagSame a b=(List.range a.length).all fun i=>match a[i]?,b[i]? with
   |some x,some y=>x.same y
   |_,_=>false:=by unfold bagSame;rw [hne];simp
  rw [hq]
  refine BB ?_
  refine W.loop (X:=Nat) (fun i=>[(0, .imm (bagIV a)),(1, .imm (bagIV b)),(12, .imm (.int .i64 (a.map Bi.iv).length)),(13, .imm (.int .i64 i))])
   (fun i _ _=>i<=a.length/\((List.range i).all fun i=>match a[i]?,b[i]? with
    |some x,some y=>x.same y
    |_,_=>false)=true) (fun i=>a.length-i) 0 .auto ⟨Nat.zero_le _,rfl⟩ ?_
  rintro i nx G ⟨hi,hst⟩
  refine BN ?_
  refine W.cond rfl (fun h1=>?_) (fun h1=>?_)
  ·have hlt:i < a.length:=by have:=of_decide_eq_true h1;rw [ham] at this;omega
   obtain ⟨x,hx⟩:=at_lt hlt
   obtain ⟨y,hy⟩:=at_lt (l:=b) (i:=i) (by omega)
   have hxi:=bag_at hx
   have hyi:=bag_at hy
   have hmu:a.length-(i+1) < a.length-i:=by omega
   have hxc:x.iv.cells.length=4:=rfl
   have hyc:y.iv.cells.length=4:=rfl
   have hsu:=all_range_succ (f:=fun i=>match a[i]?,b[i]? with
    |some x,some y=>x.same y
    |_,_=>false) (i:=i)
   have hend:=all_range_end (f:=fun i=>match a[i]?,b[i]? with
    |some x,some y=>x.same y
    |_,_=>false) hlt
   simp only [hx,hy,hst,Bool.true_and] at hsu hend
   refine BN ?_
   refine BD ?_
   refine D.op0 (O.biNe (a:=x) (b:=y) (ha x (List.mem_of_getElem? hx)) (hb y (List.mem_of_getElem? hy)) rfl rfl) rfl rfl ?_
   refine BD ?_
   cases hs:x.same y with
   |true=>
    refine BN ?_
    exact W.skipLop (i+1) hmu .auto ⟨hlt,hsu.trans hs⟩
   |false=>
    rw [hend hs]
    refine BN ?_
    exact W.retFin1 rfl ⟨[],rfl⟩
  ·have hge:i=a.length:=by have:=of_decide_eq_false h1;rw [ham] at this;omega
   subst hge
   rw [hst]
   refine BN ?_
   exact W.retFin1 rfl ⟨[],rfl⟩
 ·have hc:(((a.map Bi.iv).length:Int) != ((b.map Bi.iv).length:Int))=true:=by rw [ham,hbm,bne_iff_ne];omega
  have hq:bagSame a b=false:=by
   cases h:bagSame a b with
   |false=>rfl
   |true=>rw [bagSame_iff.1 h] at hne;exact absurd rfl hne
  rw [hq]
  refine BB ?_
  exact W.retFin1 rfl ⟨[],rfl⟩
end Go.Abs

/- Items, sorted by their records. -/
open Go Go.Abs
namespace Go.Abs
set_option maxRecDepth 100000
set_option maxHeartbeats 4000000
def mergeL:Nat->List Bi->List Bi->List Bi
 |m+1,x::a,y::b=>if lessR y.r x.r then y::mergeL m (x::a) b else x::mergeL m a (y::b)
 |_,a,b=>a++b
def sortF:Nat->List Bi->List Bi
 |0,l=>l
 |m+1,l=>if l.length < 2 then l else mergeL ((sortF m (l.take (l.length / 2))).length+(sortF m (l.drop (l.length / 2))).length) (sortF m (l.take (l.length / 2))) (sortF m (l.drop (l.length / 2)))
def sortedF (l:List Bi):List Bi:=sortF l.length l
theorem mergeL_len:∀ (m:Nat) (a b:List Bi),(mergeL m a b).length=a.length+b.length
 |0,a,b=>by simp [mergeL]
 |m+1,[],b=>by simp [mergeL]
 |m+1,a::l,[]=>by simp [mergeL]
 |m+1,x::a,y::b=>by
  rw [mergeL]
  split
  ·rw [List.length_cons,mergeL_len m (x::a) b];simp only [List.length_cons];omega
  ·rw [List.length_cons,mergeL_len m a (y::b)];simp only [List.length_cons];omega
theorem sortF_len:∀ (m:Nat) (l:List Bi),(sortF m l).length=l.length
 |0,_=>rfl
 |m+1,l=>by
  rw [sortF]
  split
  ·rfl
  ·rw [mergeL_len,sortF_len m,sortF_len m,List.length_take,List.length_drop];omega
theorem mergeL_end (m:Nat) {a b:List Bi} (h:¬ (0 < a.length/\0 < b.length)):mergeL m a b=a++b:=by
 cases m with
 |zero=>simp [mergeL]
 |succ m=>
  cases a with
  |nil=>simp [mergeL]
  |cons x a=>cases b with
   |nil=>simp [mergeL]
   |cons y b=>exact absurd ⟨by simp,by simp⟩ h
theorem mergeL_step (x y:Bi) (a b:List Bi):mergeL ((x::a).length+(y::b).length) (x::a) (y::b)=if lessR y.r x.r then y::mergeL ((x::a).length+b.length) (x::a) b else x::mergeL (a.length+(y::b).length) a (y::b):=by
 have e:(x::a).length+(y::b).length=(a.length+(y::b).length)+1:=by simp only [List.length_cons];omega
 have e2:(x::a).length+b.length=a.length+(y::b).length:=by simp only [List.length_cons];omega
 rw [e,mergeL,e2]
theorem mergeL_mem:∀ (m:Nat) (a b:List Bi) (x:Bi),x∈mergeL m a b->x∈a\/x∈b
 |0,a,b,x,h=>by
  have e:mergeL 0 a b=a++b:=by simp [mergeL]
  rw [e] at h;exact List.mem_append.1 h
 |m+1,[],b,x,h=>by
  have e:mergeL (m+1) [] b=b:=by simp [mergeL]
  rw [e] at h;exact .inr h
 |m+1,a::l,[],x,h=>by
  have e:mergeL (m+1) (a::l) []=a::l:=by simp [mergeL]
  rw [e] at h;exact .inl h
 |m+1,u::a,y::b,x,h=>by
  rw [mergeL] at h
  split at h
  ·rcases List.mem_cons.1 h with rfl|h
   ·exact .inr (List.mem_cons_self ..)
   ·rcases mergeL_mem m (u::a) b x h with h|h
    ·exact .inl h
    ·exact .inr (List.mem_cons_of_mem _ h)
  ·rcases List.mem_cons.1 h with rfl|h
   ·exact .inl (List.mem_cons_self ..)
   ·rcases mergeL_mem m a (y::b) x h with h|h
    ·exact .inl (List.mem_cons_of_mem _ h)
    ·exact .inr h
instance fnis506:FnIs CC 206:=⟨rfl,fun _=>rfl⟩
theorem ret506:∀ (m:Nat) (l:List Bi),l.length<=m->m<=2000000000->Ret CC 206 [bagIV l] (bagIV (sortF m l))
 |0,l,h,_=>by
  obtain rfl:l=[]:=List.eq_nil_of_length_eq_zero (by omega)
  refine Ret.of (fn:=Go.Proofs.Tryz.f206) (by kernel_rfl) rfl rfl ?_
  refine BB ?_
  refine R.op1 (O.appNil rfl rfl rfl rfl (ys:=[]) rfl (by decide) (by decide) rfl rfl (by decide)) rfl ?_
  refine BB ?_
  exact W.retFin1 rfl ⟨_,peek_row1 (xs:=[]) at_upd rfl⟩
 |m+1,l,h,hm=>by
  have hlm:(l.map Bi.iv).length=l.length:=List.length_map ..
  rw [sortF]
  by_cases h2:l.length < 2
  ·rw [if_pos h2]
   have c1:decide (((l.map Bi.iv).length:Int) < 2)=true:=decide_eq_true (by omega)
   have hf:((l.map Bi.iv).map AV.imm).all (AV.fits 4)=true:=fits_all (fun y hy=>by obtain ⟨z,_,rfl⟩:=List.mem_map.1 hy;rfl)
   have hll:((l.map Bi.iv).map AV.imm).length=l.length:=by simp
   refine Ret.of (fn:=Go.Proofs.Tryz.f206) (by kernel_rfl) rfl rfl ?_
   refine BB ?_
   refine R.op1 (O.appNil rfl rfl rfl rfl (ys:=(l.map Bi.iv).map AV.imm) rfl (by decide) (by decide) rfl hf (by rw [hll];simp only [most];omega)) rfl ?_
   refine BB ?_
   exact W.retFin1 rfl ⟨_,peek_row1 (xs:=l.map Bi.iv) at_upd (by simp)⟩
  ·rw [if_neg h2]
   have c1:decide (((l.map Bi.iv).length:Int) < 2)=false:=decide_eq_false (by omega)
   have ia:=ret506 m (l.take (l.length / 2)) (by rw [List.length_take];omega) (by omega)
   have ib:=ret506 m (l.drop (l.length / 2)) (by rw [List.length_drop];omega) (by omega)
   have hla:=sortF_len m (l.take (l.length / 2))
   have hlb:=sortF_len m (l.drop (l.length / 2))
   rw [List.length_take] at hla
   rw [List.length_drop] at hlb
   have hq:intOp .quo .i64 ((l.map Bi.iv).length:Int) 2=some (.int .i64 ((l.length / 2:Nat):Int)):=by
    rw [hlm]
    have h0:¬ ((2:Int)=0):=by decide
    have h1:((l.length:Nat):Int).tdiv 2=((l.length / 2:Nat):Int):=by rw [Int.tdiv_eq_ediv_of_nonneg (by omega)];rfl
    simp only [intOp,if_neg h0,h1]
    rw [wrap64 (by omega)]
   have hca:(l.map Bi.iv).all (fun y=>y.cells.length==4)=true:=List.all_eq_true.2 fun y hy=>by obtain ⟨z,_,rfl⟩:=List.mem_map.1 hy;rfl
   have et:((l.map Bi.iv).take (l.length / 2)).drop 0=(l.take (l.length / 2)).map Bi.iv:=by rw [List.drop_zero,List.map_take]
   have ed:((l.map Bi.iv).take (l.map Bi.iv).length).drop (l.length / 2)=(l.drop (l.length / 2)).map Bi.iv:=by rw [List.take_length,List.map_drop]
   unfold bagIV at ia ib
   refine Ret.of (fn:=Go.Proofs.Tryz.f206) (by kernel_rfl) rfl rfl ?_
   refine BB ?_
   refine D.op0 (O.int rfl rfl hq) rfl rfl ?_
   refine D.op0 (O.sliceL (a:=0) (xs:=l.map Bi.iv) rfl rfl (boundE_at (n:=(l.map Bi.iv).length) (i:=l.length / 2) rfl rfl (by omega)) rfl hca) rfl rfl ?_
   rw [et]
   refine BD ?_
   refine D.op0 (O.int rfl rfl hq) rfl rfl ?_
   refine D.op0 (O.sliceL (b:=(l.map Bi.iv).length) (xs:=l.map Bi.iv) rfl rfl rfl (boundE_at (n:=(l.map Bi.iv).length) (i:=l.length / 2) rfl rfl (by omega)) hca) rfl rfl ?_
   rw [ed]
   refine BD ?_
   refine BB ?_
   generalize sortF m (l.take (l.length / 2))=A at *
   generalize sortF m (l.drop (l.length / 2))=B at *
   have hAB:A.length+B.length=l.length:=by omega
   refine W.loop (X:=List Bi×List Bi×List Bi×AV) (fun s=>[(3, .imm (.lst (s.1.map Bi.iv))),(4, .imm (.lst (s.2.1.map Bi.iv))),(5,s.2.2.2)])
    (fun s nx G=>s.1.length+s.2.1.length+s.2.2.1.length=l.length/\Own 169 4 0 nx (s.2.2.1.map Bi.iv) G s.2.2.2/\s.2.2.1++mergeL (s.1.length+s.2.1.length) s.1 s.2.1=mergeL (A.length+B.length) A B) (fun s=>s.1.length+s.2.1.length) (A,B,[], .nils) .auto ⟨hAB, .nil ..,rfl⟩ ?_
   rintro ⟨a,b,o,w⟩ nx G ⟨hn,ho,he⟩
   dsimp only at hn ho he ⊢
   have hom:(o.map Bi.iv).length=o.length:=List.length_map ..
   by_cases hc:0 < a.length/\0 < b.length
   ·obtain ⟨x,a,rfl⟩:∃ x r,a=x::r:=by cases a with
     |nil=>exact absurd hc.1 (by simp)
     |cons x r=>exact ⟨x,r,rfl⟩
    obtain ⟨y,b,rfl⟩:∃ x r,b=x::r:=by cases b with
     |nil=>exact absurd hc.2 (by simp)
     |cons x r=>exact ⟨x,r,rfl⟩
    have e1:decide ((((x::a).map Bi.iv).length:Int) > 0)=true:=decide_eq_true (by simp only [List.length_map,List.length_cons];omega)
    have e2:decide ((((y::b).map Bi.iv).length:Int) > 0)=true:=decide_eq_true (by simp only [List.length_map,List.length_cons];omega)
    have g1:((x::a).map Bi.iv)[(0:Int).toNat]? = some x.iv:=rfl
    have g2:((y::b).map Bi.iv)[(0:Int).toNat]? = some y.iv:=rfl
    have hx4:x.iv.cells.length=4:=rfl
    have hy4:y.iv.cells.length=4:=rfl
    have h520:=ret520 y.r x.r
    have kc:∀ (L:Env) (x:Bi) (a:List Bi),boundE L (((x::a).map Bi.iv).length) 0 (some (.const (.int .i64 1)))=some 1:=fun L x a=>by
     show (if (0:Int)<=1/\(1:Int)<=(((x::a).map Bi.iv).length:Nat) then some (Int.toNat 1) else none)=some 1
     rw [if_pos ⟨by decide,by rw [List.length_map,List.length_cons];omega⟩];rfl
    have kd:∀ (x:Bi) (a:List Bi),(((x::a).map Bi.iv).take ((x::a).map Bi.iv).length).drop 1=a.map Bi.iv:=fun x a=>by rw [List.take_length];rfl
    have hcx:((x::a).map Bi.iv).all (fun y=>y.cells.length==4)=true:=List.all_eq_true.2 fun y hy=>by obtain ⟨z,_,rfl⟩:=List.mem_map.1 hy;rfl
    have hcy:((y::b).map Bi.iv).all (fun y=>y.cells.length==4)=true:=List.all_eq_true.2 fun y hy=>by obtain ⟨z,_,rfl⟩:=List.mem_map.1 hy;rfl
    have hst:=mergeL_step x y a b
    rw [hst] at he
    refine BN ?_
    cases hq:lessR y.r x.r with
    |true=>
     rw [hq,if_pos rfl] at he
     refine BN ?_
     refine R.app1 (z:=y.iv) ho at_upd (by simp only [most,List.length_map];simp only [List.length_cons] at hn;omega) fun v' G' ho' hG'=>?_
     refine BN ?_
     refine R.op0 (O.sliceL (xs:=(y::b).map Bi.iv) (a:=1) (b:=((y::b).map Bi.iv).length) rfl rfl rfl (kc _ y b) hcy) rfl ?_
     rw [kd]
     refine BN ?_
     refine W.skipLop (x::a,b,o++[y],v') (by simp only [List.length_cons];omega) .auto ⟨by simp only [List.length_append,List.length_cons,List.length_nil] at hn ⊢;omega,?_,by rw [List.append_assoc];exact he⟩
     show Own _ _ _ _ ((o++[y]).map Bi.iv) _ _
     rw [List.map_append]
     exact ho'.up (by omega)
    |false=>
     rw [hq,if_neg (by decide)] at he
     refine BN ?_
     refine R.app1 (z:=x.iv) ho at_upd (by simp only [most,List.length_map];simp only [List.length_cons] at hn;omega) fun v' G' ho' hG'=>?_
     refine BN ?_
     refine R.op0 (O.sliceL (xs:=(x::a).map Bi.iv) (a:=1) (b:=((x::a).map Bi.iv).length) rfl rfl rfl (kc _ x a) hcx) rfl ?_
     rw [kd]
     refine BN ?_
     refine W.skipLop (a,y::b,o++[x],v') (by simp only [List.length_cons];omega) .auto ⟨by simp only [List.length_append,List.length_cons,List.length_nil] at hn ⊢;omega,?_,by rw [List.append_assoc];exact he⟩
     show Own _ _ _ _ ((o++[x]).map Bi.iv) _ _
     rw [List.map_append]
     exact ho'.up (by omega)
   ·have hend:=mergeL_end (a.length+b.length) hc
    rw [hend] at he
    have hfit:∀ (z:List Bi),∀ y∈z.map Bi.iv,(AV.imm y).fits 4=true:=fun z y hy=>by obtain ⟨z,_,rfl⟩:=List.mem_map.1 hy;rfl
    have hcat:o.map Bi.iv++a.map Bi.iv++b.map Bi.iv=(o++(a++b)).map Bi.iv:=by simp
    rcases Bool.eq_false_or_eq_true (decide (((a.map Bi.iv).length:Int) > 0)) with e1|e1
    ·rcases Bool.eq_false_or_eq_true (decide (((b.map Bi.iv).length:Int) > 0)) with e2|e2
     ·exact absurd ⟨by have:=of_decide_eq_true e1;rw [List.length_map] at this;omega,by have:=of_decide_eq_true e2;rw [List.length_map] at this;omega⟩ hc
     ·refine BN ?_
      refine R.appOwn (xs:=o.map Bi.iv) (ys:=a.map Bi.iv) (lo:=0) rfl rfl rfl (Own.up ho (by omega)) rfl rfl (by decide) (by decide) rfl (hfit a) (by simp only [most,List.length_map];omega) (by omega) rfl fun v' G' ho' hG'=>?_
      refine BN ?_
      refine R.appOwn (xs:=o.map Bi.iv++a.map Bi.iv) (ys:=b.map Bi.iv) (lo:=0) rfl rfl rfl (Own.up ho' (by omega)) rfl rfl (by decide) (by decide) rfl (hfit b) (by simp only [most,List.length_append,List.length_map];omega) (by omega) rfl fun v2 G2 ho2 hG2=>?_
      refine BN ?_
      rw [<-he]
      rw [hcat] at ho2
      exact W.retFin1 rfl (ho2.peek (k:=99))
    ·refine BN ?_
     refine R.appOwn (xs:=o.map Bi.iv) (ys:=a.map Bi.iv) (lo:=0) rfl rfl rfl (Own.up ho (by omega)) rfl rfl (by decide) (by decide) rfl (hfit a) (by simp only [most,List.length_map];omega) (by omega) rfl fun v' G' ho' hG'=>?_
     refine BN ?_
     refine R.appOwn (xs:=o.map Bi.iv++a.map Bi.iv) (ys:=b.map Bi.iv) (lo:=0) rfl rfl rfl (Own.up ho' (by omega)) rfl rfl (by decide) (by decide) rfl (hfit b) (by simp only [most,List.length_append,List.length_map];omega) (by omega) rfl fun v2 G2 ho2 hG2=>?_
     refine BN ?_
     rw [<-he]
     rw [hcat] at ho2
     exact W.retFin1 rfl (ho2.peek (k:=99))
end Go.Abs
