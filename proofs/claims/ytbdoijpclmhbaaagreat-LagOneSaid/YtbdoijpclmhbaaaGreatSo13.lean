/- The program: the lags of all definitions. -/
import Derived.Test.YtbdoijpclmhbaaaGreatSo12
open Go Go.Abs
namespace Go.Abs
set_option maxRecDepth 100000
set_option maxHeartbeats 4000000
instance fnis376:FnIs CC 76:=⟨rfl,fun _=>rfl⟩
theorem strNew {l:List Str} {s:Str} (h:s∉l):keyFind (sv s) (l.map sv)=some none:=by
 rw [keyFind_sv]
 have h0:=findIdx_contains s l
 have hc:l.contains s=false:=by simpa using h
 rw [hc] at h0
 cases hf:l.findIdx? fun x=>s==x with
 |none=>rfl
 |some j=>rw [hf] at h0;cases h0
theorem not_take {l:List Str} (hn:l.Nodup) {i:Nat} {s:Str} (h:l[i]? = some s):s∉l.take i:=fun hc=>by
 obtain ⟨hk,rfl⟩:=List.getElem?_eq_some_iff.1 h
 obtain ⟨j,hj,he⟩:=List.mem_iff_getElem.1 hc
 rw [List.length_take] at hj
 rw [List.getElem_take] at he
 have:=(List.getElem_inj hn).1 he
 omega
noncomputable def knIV (p:Pgm) (E:List (List Lg)):IV := .fptr [.lst (p.srcs.map sv), .lst (p.defs.map Dfn.iv), .fmp (numKs p) (numVs p), .lst (E.map lagsIV), .fmp wayKs wayVs] 0
theorem cal440 {a:Lg} {i:Nat} {G:Nat->Obj} {nx:Nat}:Cal CC 140 [.imm (natIV i), .imm a.iv] G nx fun v G' nx'=>v = .imm (a.thru true 0 0).iv/\nx<=nx'/\∀ o,o < nx->G' o=G o:=by
 have h1:=ret441 (a:=a)
 generalize a.thru=A at *
 obtain ⟨on,e,b,f⟩:=a
 rw [Lg.iv_mk] at *
 refine Cal.of (fn:=Go.Proofs.Tryz.f140) (by kernel_rfl) rfl rfl ?_
 refine BN ?_
 exact W.retFinCA rfl (upd_same ..) rfl rfl ⟨rfl,by omega,fun o ho=>at_upd⟩
theorem Rdx.map {d o:Nat} {P:Nat->Prop} {G:Nat->Obj} {ks xs:List IV} {vs:List AV} {fr:Bool} (hG:G o = .mp ks vs fr) (h:All2 (Rdx d G P) vs xs) (ho:P o):Rdx (d+1) G P (.map o) (.fmp ks xs):=by
 obtain ⟨ids,h1,h2⟩:=h.peekL
 refine ⟨o::ids,fun k=>?_,fun i hi=>(List.mem_cons.1 hi).elim (fun h=>h▸ho) (h2 i)⟩
 rw [<-Nat.add_assoc,Go.Abs.peek,hG]
 simp only [h1]
theorem Rdx.ptr {d o off:Nat} {P:Nat->Prop} {G:Nat->Obj} {xs:List IV} {vs:List AV} {fr:Bool} (hG:G o = .box vs fr) (h:All2 (Rdx d G P) vs xs) (ho:P o):Rdx (d+1) G P (.ptr o off) (.fptr xs off):=by
 obtain ⟨ids,h1,h2⟩:=h.peekL
 refine ⟨o::ids,fun k=>?_,fun i hi=>(List.mem_cons.1 hi).elim (fun h=>h▸ho) (h2 i)⟩
 rw [<-Nat.add_assoc,Go.Abs.peek,hG]
 simp only [h1]
theorem ret376 {p:Pgm} (hp:p.Fits) (hpr:progR p=true):Ret CC 76 [p.iv] (knIV p (lagsR p)):=by
 have hg:=progR_good hpr
 have htl:(tosR p).length=p.defs.length:=hg.steps.2.1
 have h437:=ret437 hp hpr
 have h436:=ret436
 obtain ⟨hgl,hgs⟩:=order_small hpr
 have hsm:=progR_small hpr
 have h6:=hsm.len
 have h4:=hsm.srcs
 have hnd:(p.srcs++p.defs.map Dfn.name).Nodup:=(progR_parts hpr).1
 have hdm:(p.defs.map Dfn.iv).length=p.defs.length:=List.length_map ..
 have hss:(p.srcs.map sv).length=p.srcs.length:=List.length_map ..
 refine Ret.of (fn:=Go.Proofs.Tryz.f76) (by kernel_rfl) rfl rfl ?_
 refine BB ?_
 refine D.op1 (O.makeSlice (ke:=ty432) rfl inferInstance rfl rfl ⟨by omega,Int.le_refl _,by unfold most;omega⟩ (by decide) rfl (by decide)) rfl rfl ?_
 rw [hdm,Int.toNat_natCast]
 refine BB ?_
 have hnumK:∀ (n:Nat),((List.range n).map natIV).map AV.imm++[.imm (natIV n)]=((List.range (n+1)).map natIV).map AV.imm:=fun n=>by rw [List.range_succ];simp
 refine W.loop (X:=Nat) (fun i=>[(1, .ptr 0 0),(3, .ptr 10 0),(30, .imm (.lst (p.srcs.map sv))),(31, .imm (.int .i64 (p.srcs.map sv).length)),(32, .imm (.int .i64 i))])
  (fun i nx G=>11<=nx/\i<=p.srcs.length/\G 0 = .box [.imm (.lst (p.srcs.map sv)), .imm (.lst (p.defs.map Dfn.iv))] false/\G 3 = .mp ((p.srcs.take i).map sv) (((List.range i).map natIV).map .imm) false /\
   G 10 = .box [.imm (.lst (p.srcs.map sv)), .imm (.lst (p.defs.map Dfn.iv)), .map 3, .row 7 p.defs.length, .imm (.fmp wayKs wayVs)] false/\G 7 = .row 132 1 (List.replicate p.defs.length .nils) false)
  (fun i=>p.srcs.length-i) 0 .auto ⟨by omega,Nat.zero_le _,rfl,rfl,rfl,rfl⟩ ?_
 rintro i nx G ⟨hnx,hi,g0,g3,g10,g7⟩
 refine BN ?_
 refine W.cond rfl (fun h1=>?_) (fun h1=>?_)
 ·have hlt:i < p.srcs.length:=by have:=of_decide_eq_true h1;rw [hss] at this;omega
  have hmu:p.srcs.length-(i+1) < p.srcs.length-i:=by omega
  obtain ⟨s,hs⟩:=at_lt hlt
  have hsi:=at_map sv hs
  have hnew:=not_take (List.nodup_append.1 hnd).1 hs
  refine BN ?_
  refine R.opN1 (O.mapNew rfl inferInstance rfl rfl rfl g3 rfl (strNew hnew)) ?_
  refine BN ?_
  refine W.skipLop (i+1) hmu .auto ⟨by omega,hlt,(upd_ne _ _ _ _ (by omega)).trans g0,?_,(upd_ne _ _ _ _ (by omega)).trans g10,(upd_ne _ _ _ _ (by omega)).trans g7⟩
  rw [upd_same,<-hnumK i,List.take_add_one,hs,List.map_append]
  rfl
 ·have hge:i=p.srcs.length:=by have:=of_decide_eq_false h1;rw [hss] at this;omega
  subst hge
  rw [List.take_length] at g3
  refine BN ?_
  refine W.loop (X:=Nat) (fun i=>[(1, .ptr 0 0),(3, .ptr 10 0),(45, .imm (.lst (p.defs.map Dfn.iv))),(46, .imm (.int .i64 (p.defs.map Dfn.iv).length)),(47, .imm (.int .i64 i))])
   (fun i nx G=>11<=nx/\i<=p.defs.length/\G 0 = .box [.imm (.lst (p.srcs.map sv)), .imm (.lst (p.defs.map Dfn.iv))] false/\G 3 = .mp ((p.srcs++(p.defs.map Dfn.name).take i).map sv) (((List.range p.srcs.length++List.range i).map natIV).map .imm) false /\
    G 10 = .box [.imm (.lst (p.srcs.map sv)), .imm (.lst (p.defs.map Dfn.iv)), .map 3, .row 7 p.defs.length, .imm (.fmp wayKs wayVs)] false /\
    ∃ ws,ws.length=i/\G 7 = .row 132 1 (ws++List.replicate (p.defs.length-ws.length) .nils) false/\All2 (RowL 153 11 nx G) ws (List.replicate i (List.replicate p.srcs.length Lg.z)))
   (fun i=>p.defs.length-i) 0 .auto ⟨by omega,Nat.zero_le _,g0,by simpa using g3,g10,[],rfl,g7,trivial⟩ ?_
  clear g0 g3 g10 g7
  rintro i nx2 G2 ⟨hnx2,hi,g0,g3,g10,ws,hwl,g7,hall2⟩
  have hwl2:(ws++List.replicate (p.defs.length-ws.length) AV.nils).length=p.defs.length:=by simp;omega
  refine BN ?_
  refine W.cond rfl (fun h2=>?_) (fun h2=>?_)
  ·have hlt:i < p.defs.length:=by have:=of_decide_eq_true h2;rw [hdm] at this;omega
   have hmu:p.defs.length-(i+1) < p.defs.length-i:=by omega
   obtain ⟨x,hx⟩:=at_lt hlt
   have hxi:=at_map Dfn.iv hx
   have hnm:(p.srcs++p.defs.map Dfn.name)[p.srcs.length+i]? = some x.name:=by rw [List.getElem?_append_right (by omega),Nat.add_sub_cancel_left,List.getElem?_map,hx];rfl
   have hnew:=not_take hnd hnm
   rw [List.take_append,List.take_of_length_le (by omega),Nat.add_sub_cancel_left] at hnew
   have hnt:(p.defs.map Dfn.name).take (i+1)=(p.defs.map Dfn.name).take i++[x.name]:=by rw [List.take_add_one,List.getElem?_map,hx];rfl
   have hxc:=x.cells_len
   obtain ⟨nm,⟨o',s',n',f',c',k'⟩⟩:=x
   refine BN ?_
   refine D.opN1 (O.mapNew rfl inferInstance rfl rfl rfl at_upd rfl (strNew hnew)) rfl ?_
   refine BB ?_
   refine D.op1 (O.makeL (n:=p.srcs.length) (fun _=>Lg.z) rfl inferInstance ⟨rfl,rfl,by decide⟩ rfl rfl (by omega) (by omega)) rfl rfl ?_
   refine D.op0 (O.addrRX rfl inferInstance rfl rfl (at_upd:_=Obj.row 132 1 (ws++List.replicate (p.defs.length-ws.length) AV.nils) false) hwl2 (by omega) rfl) rfl rfl ?_
   refine D.opN1 (O.storeR rfl rfl rfl rfl at_upd hwl2 (by rw [Int.toNat_natCast,<-hwl];exact rep_at (by omega)) rfl rfl) rfl ?_
   refine BB ?_
   have hz:mixL p.srcs.length 0 (fun _=>Lg.z) (fun _=>Lg.z)=List.replicate p.srcs.length Lg.z:=by rw [mixL_zero,List.map_const',List.length_range]
   refine W.skipLop (i+1) hmu .auto ⟨by omega,hlt,at_upd,?_,at_upd,ws++[.row (nx2+1+6+8+8) p.srcs.length],by simp [hwl],?_,?_⟩
   ·refine (upd_ne _ _ _ _ (by omega)).trans ((upd_ne _ _ _ _ (by omega)).trans ((upd_same ..).trans ?_))
    rw [hnt,<-List.append_assoc,List.range_succ,<-List.append_assoc]
    simp [natIV]
   ·rw [upd_same,Int.toNat_natCast,<-hwl,rep_set (by omega)]
   ·rw [List.replicate_succ']
    refine All2.append (hall2.imp fun _ _ h=>h.frame (Nat.le_refl _) (by omega) fun o ho1 ho2 _=>at_upd) ⟨⟨nx2+1+6+8+8,false,by omega,by omega,by simp,?_⟩,trivial⟩
    rw [upd_ne _ _ _ _ (by omega),upd_same,hz]
  ·have hge:i=p.defs.length:=by have:=of_decide_eq_false h2;rw [hdm] at this;omega
   subst hge
   rw [hwl,Nat.sub_self,List.replicate_zero,List.append_nil] at g7
   rw [List.take_of_length_le (by simp)] at g3
   have hrows:RowsL 153 132 7 11 nx2 G2 (lagsTo p ((orderR (tosR p)).take 0)):=by
    rw [List.take_zero]
    exact ⟨ws,by rw [hwl];exact (List.length_replicate ..).symm,g7,hall2⟩
   have hexp:=fun (E:List (List Lg)) (hW:Wide p E) (hI:InL 40000000 E) (d:Nat) (hd:d < p.defs.length) G nx lo hi kv=>@cal382 p hp hpr E 40000000 (by omega) hW hI 1000 (expAt p d) (hsm.cnt d) (Nat.le_refl _) (progR_nodeP hpr hd) G nx lo hi kv
   have hw:=fun g i k=>lags3_wide hpr g i k
   have hin:=fun g i k=>lags3_in hpr (g:=g) (i:=i) (k:=k)
   have hstl:=fun g r=>lags3_still hpr (g:=g) (r:=r)
   have hmst:=fun g r=>lags3_must hpr (g:=g) (r:=r)
   unfold lagsR
   generalize hgsE:orderR (tosR p)=gs at *
   have hgm:(gs.map natsIV).length=gs.length:=List.length_map ..
   clear hall2 g7 hwl2
   refine BN ?_
   refine W.loop (X:=Nat) (fun g=>[(1, .ptr 0 0),(3, .ptr 10 0),(75, .imm (.lst (gs.map natsIV))),(76, .imm (.int .i64 (gs.map natsIV).length)),(77, .imm (.int .i64 g))])
    (fun g nx G=>11<=nx/\g<=gs.length/\G 0 = .box [.imm (.lst (p.srcs.map sv)), .imm (.lst (p.defs.map Dfn.iv))] false/\G 3 = .mp (numKs p) ((numVs p).map .imm) false /\
     G 10 = .box [.imm (.lst (p.srcs.map sv)), .imm (.lst (p.defs.map Dfn.iv)), .map 3, .row 7 p.defs.length, .imm (.fmp wayKs wayVs)] false/\RowsL 153 132 7 11 nx G (lagsTo p (gs.take g)))
    (fun g=>gs.length-g) 0 .auto ⟨by omega,Nat.zero_le _,g0,g3,g10,hrows.frame rfl (Nat.le_refl _) (by omega) fun _ _ _ _=>rfl⟩ ?_
   clear hrows g0 g3 g10
   rintro g nx3 G3 ⟨hnx3,hgi,g0,g3,g10,hrows⟩
   refine BN ?_
   refine W.cond rfl (fun h3=>?_) (fun h3=>?_)
   ·have hlt:g < gs.length:=by have:=of_decide_eq_true h3;rw [hgm] at this;omega
    have hmu:gs.length-(g+1) < gs.length-g:=by omega
    have hgr:gs[g]? = some (gs.getD g []):=by rw [List.getD_eq_getElem?_getD,List.getElem?_eq_getElem hlt];rfl
    obtain ⟨hg6,hgd,hgi2⟩:=hgs _ (List.mem_of_getElem? hgr)
    have hgat:=at_map natsIV hgr
    have hrnd:=fun i=>lags3_round (p:=p) (gs:=gs) (g:=g) (i:=i)
    have hnxt:=fun i k d (h:(gs.getD g [])[k]? = some d)=>lags3_next (p:=p) (gs:=gs) (g:=g) (i:=i) (k:=k) h
    have hstep:=fun r k d (h:(gs.getD g [])[k]? = some d) (hl:d < (lags3 p gs g r k).length)=>still_step (p:=p) (ring:=ringB (tosR p) (gs.getD g [])) (E:=rndsL p (ringB (tosR p) (gs.getD g [])) (gs.getD g []) r (lagsTo p (gs.take g))) hgi2.nodup h hl
    rw [<-lags3_zero] at hrows
    have hw:=fun i k=>hw g i k
    have hin:=fun i k hi=>hin g i k hlt hi
    have hstl:=fun r=>hstl g r hlt
    have hmst:=fun r=>hmst g r hlt
    have hD0:∀ r,rndsL p (ringB (tosR p) (gs.getD g [])) (gs.getD g []) r (lagsTo p (gs.take g))=lags3 p gs g r 0:=fun r=>by unfold lags3;rw [List.take_zero];rfl
    have hDk:∀ r k,rndL p (ringB (tosR p) (gs.getD g [])) ((gs.getD g []).take k) (rndsL p (ringB (tosR p) (gs.getD g [])) (gs.getD g []) r (lagsTo p (gs.take g)))=lags3 p gs g r k:=fun r k=>rfl
    simp only [hDk] at hstep
    simp only [hD0] at hstep
    clear hD0 hDk
    generalize hgrE:gs.getD g []=gr at *
    obtain ⟨f,rest,hfr⟩:=hgi2.ne
    have hf:f∈gr:=by rw [hfr];exact List.mem_cons_self ..
    have hfl:=hgd f hf
    have hf0:(gr.map natIV)[((0:Int)).toNat]? = some (natIV f):=by rw [hfr];rfl
    have hhas:hasR p (f:Int)=true:=by
     unfold hasR
     rw [hpr,decide_eq_true (by omega),decide_eq_true (by omega)];rfl
    have h15:=ret15 p hp (f:Int)
    have hra:reachA p (f:Int)=reachN p f:=by unfold reachA;rw [if_pos hhas,Int.toNat_natCast]
    rw [hra] at h15
    have hrl:(reachN p f).length<=1000:=by
     unfold reachN
     have:=List.length_filter_le (reachB (tosR p) f) (List.range p.defs.length)
     rw [List.length_range] at this
     omega
    have h438:=ret438 hrl f
    have hcon:(reachN p f).contains f=ringB (tosR p) gr:=by
     rw [<-hgi2.ring f hf,Bool.eq_iff_iff,List.contains_iff_mem]
     unfold reachN
     rw [List.mem_filter,List.mem_range]
     exact ⟨fun h=>h.2,fun h=>⟨hfl,h⟩⟩
    rw [hcon] at h438
    generalize srcsA p (f:Int)=sr at *
    generalize errR p (f:Int)=er at *
    generalize reachN p f=rl at *
    have hrm:(gr.map natIV).length=gr.length:=List.length_map ..
    refine BN ?_
    refine W.loop (X:=Nat) (fun _=>[(1, .ptr 0 0),(3, .ptr 10 0),(75, .imm (.lst (gs.map natsIV))),(76, .imm (.int .i64 (gs.map natsIV).length)),(77, .imm (.int .i64 g)),(11, .imm (natsIV gr)),(15, .imm (.bool (ringB (tosR p) gr)))])
     (fun r nx G=>11<=nx/\r<=gr.length/\G 0 = .box [.imm (.lst (p.srcs.map sv)), .imm (.lst (p.defs.map Dfn.iv))] false/\G 3 = .mp (numKs p) ((numVs p).map .imm) false /\
      G 10 = .box [.imm (.lst (p.srcs.map sv)), .imm (.lst (p.defs.map Dfn.iv)), .map 3, .row 7 p.defs.length, .imm (.fmp wayKs wayVs)] false/\RowsL 153 132 7 11 nx G (lags3 p gs g r 0))
     (fun r=>gr.length+1-r) 0 .auto ⟨by omega,Nat.zero_le _,g0,g3,g10,hrows.frame rfl (Nat.le_refl _) (by omega) fun _ _ _ _=>rfl⟩ ?_
    clear hrows g0 g3 g10
    rintro r nx4 G4 ⟨hnx4,hr,g0,g3,g10,hrows⟩
    refine BN ?_
    refine W.loop (X:=Nat×Bool) (fun s=>[(1, .ptr 0 0),(3, .ptr 10 0),(75, .imm (.lst (gs.map natsIV))),(76, .imm (.int .i64 (gs.map natsIV).length)),(77, .imm (.int .i64 g)),(11, .imm (natsIV gr)),(15, .imm (.bool (ringB (tosR p) gr))),(16, .imm (.bool s.2)),(95, .imm (natsIV gr)),(96, .imm (.int .i64 (gr.map natIV).length)),(97, .imm (.int .i64 s.1))])
     (fun s nx G=>11<=nx/\s.1<=gr.length/\(s.2=true↔lags3 p gs g r s.1=lags3 p gs g r 0)/\G 0 = .box [.imm (.lst (p.srcs.map sv)), .imm (.lst (p.defs.map Dfn.iv))] false/\G 3 = .mp (numKs p) ((numVs p).map .imm) false /\
      G 10 = .box [.imm (.lst (p.srcs.map sv)), .imm (.lst (p.defs.map Dfn.iv)), .map 3, .row 7 p.defs.length, .imm (.fmp wayKs wayVs)] false/\RowsL 153 132 7 11 nx G (lags3 p gs g r s.1))
     (fun s=>gr.length-s.1) (0,true) .auto ⟨by omega,Nat.zero_le _,⟨fun _=>rfl,fun _=>rfl⟩,g0,g3,g10,hrows.frame rfl (Nat.le_refl _) (by omega) fun _ _ _ _=>rfl⟩ ?_
    clear hrows g0 g3 g10
    rintro ⟨k,st⟩ nx5 G5 ⟨hnx5,hk,hst,g0,g3,g10,hrows⟩
    dsimp only at hk hst hrows ⊢
    refine BN ?_
    refine W.cond rfl (fun h4=>?_) (fun h4=>?_)
    ·have hkl:k < gr.length:=by have:=of_decide_eq_true h4;omega
     have hmu4:gr.length-(k+1) < gr.length-k:=by omega
     obtain ⟨d,hd⟩:=at_lt hkl
     have hdi:=at_map natIV hd
     have hdl:=hgd d (List.mem_of_getElem? hd)
     obtain ⟨x,hx⟩:=at_lt hdl
     have hxi:=at_map Dfn.iv hx
     have hE:=(hw r k).len
     have hkn:KnV p 11 nx5 G5 (.ptr 10 0) (lags3 p gs g r k) := .inr ⟨10,3,7,⟨by omega,by omega,by omega⟩,rfl,by rw [hE];exact g10,g3,hrows⟩
     have hc:=fun nx6 (h:nx5<=nx6)=>hexp (lags3 p gs g r k) (hw r k) (hin r k (by omega)) d hdl G5 nx6 11 nx5 (.ptr 10 0) hkn h
     have hnx:=hnxt r k d hd
     have hsp:=hstep r k d hd (by omega)
     rw [expAt_at hx] at hc
     have hrow:rowL p (ringB (tosR p) gr) (lags3 p gs g r k) d=(allL p (lags3 p gs g r k) x.exp).map (ringL (ringB (tosR p) gr)):=by unfold rowL;rw [expAt_at hx]
     have hri:=rowL_in hsm (by omega) (hin r k (by omega)) (ringB (tosR p) gr) hdl
     have hin5:=hin r k (by omega)
     have hall_len:(allL p (lags3 p gs g r k) x.exp).length=p.srcs.length:=by simp [allL]
     have hsp1:1<=p.srcs.length:=(progR_parts hpr).2.1.1
     rw [hrow] at hsp hri
     generalize allL p (lags3 p gs g r k) x.exp=al at *
     generalize lags3 p gs g r k=E at *
     generalize hrb:ringB (tosR p) gr=rb at *
     have hxc:=x.cells_len
     obtain ⟨nm,⟨o',s',n',f',c',k'⟩⟩:=x
     refine BN ?_
     refine R.callB rfl rfl rfl rfl rfl ((hc _ (by omega)).mono fun v G6 nx6 hv=>?_)
     obtain ⟨hv,hn6,hG6⟩:=hv
     have c6:∀ o,o < nx5->G6 o=G5 o:=fun o ho=>(hG6 o (by omega)).trans rfl
     refine BN ?_
     refine W.unseq (W.cut (X:=AV) (fun v=>[(1, .ptr 0 0),(3, .ptr 10 0),(75, .imm (.lst (gs.map natsIV))),(76, .imm (.int .i64 (gs.map natsIV).length)),(77, .imm (.int .i64 g)),(11, .imm (natsIV gr)),(15, .imm (.bool rb)),(16, .imm (.bool st)),(95, .imm (natsIV gr)),(96, .imm (.int .i64 (gr.map natIV).length)),(97, .imm (.int .i64 k)),(18, .imm (natIV d)),(19,v)])
      (fun v nx G=>nx5<=nx/\(∀ o,o < nx5->G o=G5 o)/\RowL 153 nx5 nx G v (al.map (ringL rb))) ?_ ?_)
     ·cases rb with
      |true=>
       refine BN ?_
       refine R.callB rfl rfl rfl rfl rfl ((cal439 (l:=al) (g:=fun _ a=>(a.thru true 0 0).iv) rfl rfl (fun _ _=>rfl) (.inr hv) (by omega) (by omega) fun i a _ G' nx' _ _=>cal440).mono fun v2 G7 nx7 hv2=>?_)
       obtain ⟨ho,hn7,hG7⟩:=hv2
       rw [mapIdx_map fun a=>a.thru true 0 0] at ho
       refine BN ?_
       exact W.skipCut v2 .auto ⟨by omega,fun o ho=>(hG7 o (by omega)).trans (c6 o ho),(ho.rowL fun hc=>by have:=congrArg List.length hc;rw [List.length_map,List.length_nil] at this;omega).frame (by omega) (by omega) fun _ _ _ _=>rfl⟩
      |false=>
       refine BN ?_
       exact W.skipCut v .auto ⟨by omega,c6,by rw [show al.map (ringL false)=al from List.map_id' al];exact hv.frame (by omega) (by omega) fun _ _ _ _=>rfl⟩
     ·rintro v2 nx7 G7 ⟨hnx7,c7,hv2⟩
      have g07:=(c7 0 (by omega)).trans g0
      have g37:=(c7 3 (by omega)).trans g3
      have g107:=(c7 10 (by omega)).trans g10
      have hrows7:=hrows.frame (G':=G7) (hi':=nx7) (c7 7 (by omega)) (Nat.le_refl _) (by omega) fun o _ ho _=>c7 o ho
      obtain ⟨ws,hwl,h7,hset⟩:=hrows7.set (hv2.frame (by omega) (Nat.le_refl _) fun _ _ _ _=>rfl) d
      obtain ⟨ws2,hw21,hw22,hw23⟩:=hrows7
      have hwe:ws2=ws:=by rw [h7] at hw22;cases hw22;rfl
      subst hwe
      have hwl':ws2.length=p.defs.length:=by omega
      obtain ⟨ld,hld⟩:∃ r,E[d]? = some r:=at_lt (by omega)
      have hld':E.getD d []=ld:=by rw [List.getD_eq_getElem?_getD,hld];rfl
      obtain ⟨wd,hwd1,hwd2⟩:=hw23.at hld
      have hldi:∀ a∈ld,a.In 4294967296:=fun a ha=>(hin5 ld (List.mem_of_getElem? hld) a ha).mono (by omega)
      have hali:∀ a∈al.map (ringL rb),a.In 4294967296:=fun a ha=>(hri a ha).mono (by omega)
      have h442:=ret442 hali hldi (by rw [List.length_map];omega)
      obtain ⟨q1,_,_,hq1⟩:=hv2.peek
      obtain ⟨q2,_,_,hq2⟩:=hwd2.peek
      obtain ⟨o2,fr2,ho21,ho22,rfl,ho23⟩:=hwd2
      have hwi:ws2[(d:Int).toNat]? = some (.row o2 ld.length):=by rw [Int.toNat_natCast];exact hwd1
      rw [hld'] at hsp
      have hnew:(st&&lagsEq (al.map (ringL rb)) ld)=true↔lags3 p gs g r (k+1)=lags3 p gs g r 0:=by
       rw [Bool.and_eq_true,lagsEq_iff,hst];exact hsp.symm
      have hv2f:=hv2.fits
      obtain ⟨ov,frv,hv21,hv22,rfl,hv23⟩:=hv2
      generalize lagsEq (al.map (ringL rb)) ld=eq at *
      cases st with
      |true=>
       refine BN ?_
       refine R.op0 (O.callG rfl (peeks_one hq1 (peeks_one hq2 peeks_nil)) h442 rfl) rfl ?_
       refine BN ?_
       refine R.opN1 (O.storeR rfl rfl rfl rfl h7 hwl' hwi rfl rfl) ?_
       refine BN ?_
       exact W.skipLop (k+1,eq) hmu4 .auto ⟨by omega,hkl,hnew,(upd_ne _ _ _ _ (by omega)).trans g07,(upd_ne _ _ _ _ (by omega)).trans g37,(upd_ne _ _ _ _ (by omega)).trans g107,by rw [hnx];unfold setL;rw [hrow];exact hset.frame rfl (Nat.le_refl _) (by omega) fun _ _ _ _=>rfl⟩
      |false=>
       refine BN ?_
       refine R.opN1 (O.storeR rfl rfl rfl rfl h7 hwl' hwi rfl rfl) ?_
       refine BN ?_
       exact W.skipLop (k+1,false) hmu4 .auto ⟨by omega,hkl,hnew,(upd_ne _ _ _ _ (by omega)).trans g07,(upd_ne _ _ _ _ (by omega)).trans g37,(upd_ne _ _ _ _ (by omega)).trans g107,by rw [hnx];unfold setL;rw [hrow];exact hset.frame rfl (Nat.le_refl _) (by omega) fun _ _ _ _=>rfl⟩
    ·have hge:k=gr.length:=by have:=of_decide_eq_false h4;omega
     subst hge
     cases st with
     |true=>
      rw [hst.1 rfl,hstl r (hst.1 rfl)] at hrows
      refine BN ?_
      exact W.skipLop (g+1) hmu .auto ⟨by omega,hlt,g0,g3,g10,hrows.frame rfl (Nat.le_refl _) (by omega) fun _ _ _ _=>rfl⟩
     |false=>
      have hrl:r < gr.length:=Classical.byContradiction fun hc=>by
       have:=hst.2 (hmst r (by omega))
       cases this
      rw [hrnd r] at hrows
      have hmu5:gr.length+1-(r+1) < gr.length+1-r:=by omega
      refine BN ?_
      exact W.skipLop (r+1) hmu5 .auto ⟨by omega,hrl,g0,g3,g10,hrows.frame rfl (Nat.le_refl _) (by omega) fun _ _ _ _=>rfl⟩
   ·have hge:gs.length<=g:=by have:=of_decide_eq_false h3;rw [hgm] at this;omega
    rw [List.take_of_length_le hge] at hrows
    have hl:=((lags_so hpr gs.length).wide).len
    rw [hgsE,List.take_of_length_le (Nat.le_refl _)] at hl
    have hrd:=hrows.rdx
    rw [hl] at hrd
    refine BN ?_
    have hkn:Rdx 3 G3 (fun _=>True) (.ptr 10 0) (knIV p (lagsTo p gs)):=Rdx.ptr g10 ⟨Rdx.imm _ _ _ _,Rdx.imm _ _ _ _,(Rdx.map g3 (All2.imms 1 _ _ _) trivial),hrd,Rdx.imm _ _ _ _,trivial⟩ trivial
    exact W.retFin1 rfl (hkn.peek (by decide))
end Go.Abs

/- The reference: marks that are needed; which times meet. -/
open Go Go.Abs
namespace Go.Abs
set_option maxRecDepth 100000
set_option maxHeartbeats 4000000
def meetsB (a:Lg) (t w:Int):Bool:=a.on&&decide (w<=t+a.ahead)&&(a.ever||decide (w>=t-a.back))
end Go.Abs

/- Which answers an event touches. -/
open Go Go.Abs
namespace Go.Abs
set_option maxRecDepth 100000
set_option maxHeartbeats 4000000
instance fnis380:FnIs CC 80:=⟨rfl,fun _=>rfl⟩
instance fnis339:FnIs CC 39:=⟨rfl,fun _=>rfl⟩
theorem ret380 {p:Pgm} (hp:p.Fits) (d:Int):Ret CC 80 [p.iv, .int .i64 d] (.bool (hasR p d)):=by
 have h29:=ret29 p hp
 have hdm:(p.defs.map Dfn.iv).length=p.defs.length:=List.length_map ..
 unfold hasR
 cases hpr:progR p with
 |false=>
  rw [hpr] at h29
  obtain ⟨srcs,defs⟩:=p
  have bz:((2:Int)==0)=false:=rfl
  refine Ret.of (fn:=Go.Proofs.Tryz.f80) (by kernel_rfl) rfl rfl ?_
  refine BB ?_
  exact W.retFin1 rfl ⟨[],rfl⟩
 |true=>
  rw [hpr] at h29
  obtain ⟨srcs,defs⟩:=p
  have bz:((0:Int)==0)=true:=rfl
  simp only [Bool.true_and]
  rw [<-hdm]
  refine Ret.of (fn:=Go.Proofs.Tryz.f80) (by kernel_rfl) rfl rfl ?_
  cases h0:decide (d>=0) with
  |false=>
   refine BB ?_
   exact W.retFin1 rfl ⟨[],rfl⟩
  |true=>
   refine BB ?_
   exact W.retFin1 rfl ⟨[],rfl⟩
def touchF (a:Lg) (w:Int):Int:=mxI 0 (w-a.ahead)
def touchL (a:Lg) (w:Int):Int:=if a.ever then 200 else mnI 200 (w+a.back)
def touchT (a:Lg) (w:Int):Int×Int×Int:=if a.on then (if decide (touchF a w > touchL a w) then (0,0,5) else (touchF a w,touchL a w,0)) else (0,0,5)
noncomputable def touchA (p:Pgm) (d src w:Int):Int×Int×Int:=
 if hasR p d && !decide (src < 0) && !decide (src>=(p.srcs.length:Int)) && !decide (w < 0) && !decide (w > 200) then touchT (((lagsR p).getD d.toNat []).getD src.toNat Lg.z) w else (0,0,2)
def trip (x:Int×Int×Int):IV := .tup [.int .i64 x.1, .int .i64 x.2.1, .int .i64 x.2.2]
theorem lagsR_far {p:Pgm} (hp:progR p=true):Wide p (lagsR p)/\InL 40000000 (lagsR p):=by
 have h:=lags_so hp (orderR (tosR p)).length
 rw [List.take_length] at h
 have h6:=(order_small hp).1
 exact ⟨h.wide,h.low.mono (by omega)⟩
theorem lagsR_row {p:Pgm} (hp:progR p=true) {d:Nat} (hd:d < p.defs.length):((lagsR p).map lagsIV)[(d:Int).toNat]? = some (lagsIV ((lagsR p).getD d []))/\((lagsR p).getD d []).length=p.srcs.length/\∀ a∈(lagsR p).getD d [],a.In 40000000/\a.Ok:=by
 obtain ⟨h1,h2⟩:=lagsR_far hp
 have hlt:d < (lagsR p).length:=by rw [h1.len];exact hd
 rw [List.getD_eq_getElem?_getD,List.getElem?_eq_getElem hlt]
 refine ⟨by rw [Int.toNat_natCast,List.getElem?_map,List.getElem?_eq_getElem hlt];rfl,h1.row _ (List.getElem_mem hlt),fun a ha=>⟨h2 _ (List.getElem_mem hlt) a ha,h1.ok _ (List.getElem_mem hlt) a ha⟩⟩
theorem ret339 {p:Pgm} (hp:p.Fits) (d src w:Int):Ret CC 39 [p.iv, .int .i64 d, .int .i64 src, .int .i64 w] (trip (touchA p d src w)):=by
 have h380:=ret380 hp d
 have hss:(p.srcs.map sv).length=p.srcs.length:=List.length_map ..
 unfold touchA
 cases hh:hasR p d with
 |false=>
  rw [hh] at h380
  obtain ⟨srcs,defs⟩:=p
  have bt:(!false)=true:=rfl
  refine Ret.of (fn:=Go.Proofs.Tryz.f39) (by kernel_rfl) rfl rfl ?_
  refine BB ?_
  exact W.retFin rfl rfl ⟨[],rfl⟩
 |true=>
  obtain ⟨hpr,n,x,rfl,hx⟩:=hasR_at hh
  have hdl:=(List.getElem?_eq_some_iff.1 hx).1
  have h376:=ret376 hp hpr
  obtain ⟨hrow,hrl,hri⟩:=lagsR_row hpr hdl
  rw [Int.toNat_natCast]
  unfold knIV at h376
  generalize (lagsR p).getD n []=row at *
  generalize (lagsR p).map lagsIV=E at *
  rw [hh] at h380
  rw [<-hss]
  have bf:(!true)=false:=rfl
  cases h1:decide (src < 0) with
  |true=>
   refine Ret.of (fn:=Go.Proofs.Tryz.f39) (by kernel_rfl) rfl rfl ?_
   refine BB ?_
   exact W.retFin rfl rfl ⟨[],rfl⟩
  |false=>
   cases h2:decide (src>=((p.srcs.map sv).length:Int)) with
   |true=>
    refine Ret.of (fn:=Go.Proofs.Tryz.f39) (by kernel_rfl) rfl rfl ?_
    refine BB ?_
    exact W.retFin rfl rfl ⟨[],rfl⟩
   |false=>
    cases h3:decide (w < 0) with
    |true=>
     refine Ret.of (fn:=Go.Proofs.Tryz.f39) (by kernel_rfl) rfl rfl ?_
     refine BB ?_
     exact W.retFin rfl rfl ⟨[],rfl⟩
    |false=>
     cases h4:decide (w > 200) with
     |true=>
      refine Ret.of (fn:=Go.Proofs.Tryz.f39) (by kernel_rfl) rfl rfl ?_
      refine BB ?_
      exact W.retFin rfl rfl ⟨[],rfl⟩
     |false=>
      have g1:=of_decide_eq_false h1
      have g2:=of_decide_eq_false h2
      have g3:=of_decide_eq_false h3
      have g4:=of_decide_eq_false h4
      obtain ⟨s,rfl⟩:=Int.eq_ofNat_of_zero_le (show 0<=src by omega)
      have hsl:s < row.length:=by omega
      have hat:=lag_ivat hsl
      have hai:=getD_in (K:=40000000) (by omega) (fun a ha=>(hri a ha).1) s
      rw [Int.toNat_natCast]
      generalize row.getD s Lg.z=a at *
      have hb:=hai.back
      have ha:=hai.ahead
      obtain ⟨on,e,b,f⟩:=a
      simp only at ha hb
      rw [Lg.iv_mk] at *
      have hneg:w-f=w + -f:=Int.sub_eq_add_neg
      refine Ret.of (fn:=Go.Proofs.Tryz.f39) (by kernel_rfl) rfl rfl ?_
      cases on with
      |false=>
       cases e
       all_goals
        refine BB ?_
        exact W.retFin rfl rfl ⟨[],rfl⟩
      |true=>
       unfold touchT
       rcases Bool.eq_false_or_eq_true (decide (touchF ⟨true,e,b,f⟩ w > touchL ⟨true,e,b,f⟩ w)) with hd|hd
       all_goals
        rw [hd]
        unfold touchF touchL mxI mnI at *
        simp only [hneg] at *
        cases e
        all_goals
         simp only [Bool.false_eq_true,if_false,if_true] at hd ⊢
         refine BB ?_
         exact W.retFin rfl rfl ⟨[],rfl⟩
end Go.Abs

/- Which answers an event touches: the reference. -/
open Go Go.Abs
namespace Go.Abs
set_option maxRecDepth 100000
set_option maxHeartbeats 4000000
theorem meets_iff {a:Lg} {t w:Int}:meetsB a t w=true↔a.on=true/\w-a.ahead<=t/\(a.ever=true\/t<=w+a.back):=by
 unfold meetsB
 simp only [Bool.and_eq_true,Bool.or_eq_true,decide_eq_true_eq]
 constructor
 ·rintro ⟨⟨h1,h2⟩,h3⟩
  exact ⟨h1,by omega,h3.imp id fun h=>by omega⟩
 ·rintro ⟨h1,h2,h3⟩
  exact ⟨⟨h1,by omega⟩,h3.imp id fun h=>by omega⟩
end Go.Abs

/- What expressions come to; and that this depends on nothing but what is told. -/
open Go Go.Abs
namespace Go.Abs
set_option maxRecDepth 100000
mutual
def evalF (sb db:Str->List Bi) (top:Int):Exp->Option (List Bi)
 | .mk op name n f calcs kids=>match evalsF sb db top kids with
  |none=>none
  |some ks=>if fitsB (cutB (ofF (nodeF sb db op name n f calcs ks)) 0 top)=true then some (cutB (ofF (nodeF sb db op name n f calcs ks)) 0 top) else none
def evalsF (sb db:Str->List Bi) (top:Int):List Exp->Option (List (List Bi))
 |[]=>some []
 |x::r=>match evalF sb db top x with
  |none=>none
  |some k=>match evalsF sb db top r with
   |none=>none
   |some ks=>some (k::ks)
end
mutual
/-- The numbers of a term are small. -/
def nT:Trm->Bool
 | .mk _ n kids=>decide (-1000000000<=n)&&decide (n<=1000000000)&&nTs kids
def nTs:List Trm->Bool
 |[]=>true
 |c::r=>nT c&&nTs r
end
structure NodeM (srcs names:List Str) (x:Exp):Prop where
 ni:NIs x.op x.n
 op:1<=x.op/\x.op<=15
 two:x.op=2->x.n=0
 src:x.op=1->x.name∈srcs
 ref:x.op=2\/x.op=3->x.name∈names
 kids:x.kids.length=(if x.op=1\/x.op=2\/x.op=3 then 0 else if x.op=4\/x.op=12\/x.op=13\/x.op=14 then 2 else 1)
 calcs:x.calcs.length=(if x.op=6 then 2 else if x.op=5\/x.op=12\/x.op=13 then 1 else 0)
 cs:∀ c∈x.calcs,okT c=true/\nT c=true
theorem NodeM.two_kids {srcs names:List Str} {x:Exp} (h:NodeM srcs names x):x.kids.length<=2:=by
 rw [h.kids]
 split
 ·omega
 ·split<;>omega
def ZIn (n:Int):Prop := -1000000000<=n/\n<=1000000000
theorem combZ_in (op a b:Int):ZIn (combZ op a b):=by
 unfold combZ ZIn
 repeat' split
 all_goals first|exact clampZ_in _|omega
theorem calcZ_wf {r:Rc} {o:Int} (hr:r.Ok) (ho:wf64 o):∀ c,nT c=true->wf64 (calcZ r o c)
 | .mk op n kids,h=>by
  rw [nT,Bool.and_eq_true,Bool.and_eq_true,decide_eq_true_eq,decide_eq_true_eq] at h
  rw [calcZ]
  repeat' split
  ·exact wf64_in (by omega) (by omega)
  ·exact hr.a
  ·exact hr.k
  ·exact hr.v
  ·exact ho
  ·have:=combZ_in op ((calcZs r o kids).getD 0 0) ((calcZs r o kids).getD 1 0)
   unfold ZIn at this
   exact wf64_in (by omega) (by omega)
theorem getD_n {cs:List Trm} (h:∀ c∈cs,okT c=true/\nT c=true) (i:Nat):nT (cs.getD i Trm.zz)=true:=by
 rw [List.getD_eq_getElem?_getD]
 cases hc:cs[i]? with
 |none=>rfl
 |some c=>exact (h c (List.mem_of_getElem? hc)).2
theorem wf_1:wf64 1:=wf64_in (by decide) (by decide)
theorem adds_mem:∀ (l o:List Bi) {y:Bi},y∈l.foldl addB o->y∈l\/y∈o
 |[],o,y,h => .inr h
 |x::l,o,y,h=>by
  rw [List.foldl_cons] at h
  rcases adds_mem l _ h with h|h
  ·exact .inl (List.mem_cons_of_mem _ h)
  ·unfold addB at h
   split at h
   ·exact .inr h
   ·rcases List.mem_append.1 h with h|h
    ·exact .inr h
    ·rw [List.mem_singleton.1 h];exact .inl (List.mem_cons_self ..)
theorem best_mem:∀ (l:List Bi) {o:Option Bi} {y:Bi},l.foldl bestS o=some y->y∈l\/o=some y
 |[],o,y,h => .inr h
 |x::l,o,y,h=>by
  rw [List.foldl_cons] at h
  rcases best_mem l h with h|h
  ·exact .inl (List.mem_cons_of_mem _ h)
  ·unfold bestS at h
   split at h
   ·cases h;exact .inl (List.mem_cons_self ..)
   ·split at h
    ·cases h;exact .inl (List.mem_cons_self ..)
    ·exact .inr h
theorem lastF_mem {b:List Bi} {r:Rc} {y:Bi} (h:lastF b r=some y):y∈b:=by
 unfold lastF at h
 rcases best_mem _ h with h|h
 ·exact (List.mem_filter.1 h).1
 ·cases h
def OkB (b:List Bi):Prop:=∀ y∈b,y.Ok
theorem later_ok {b:List Bi} {n:Int} (h:OkB b):OkB (laterF b n):=fun y hy=>by
 unfold laterF at hy
 obtain ⟨x,hx,rfl⟩:=List.mem_map.1 hy
 have:=h x hx
 exact ⟨w64_wf _,this.k,this.v,this.n⟩
theorem node_ok {sb db:Str->List Bi} {op n f:Int} {name:Str} {calcs:List Trm} {ks:List (List Bi)} (hs:OkB (sb name)) (hd:OkB (db name)) (hk:∀ i,OkB (ks.getD i [])) (hc:∀ c∈calcs,okT c=true/\nT c=true):OkB (nodeF sb db op name n f calcs ks):=by
 have k0:=hk 0
 have k1:=hk 1
 unfold nodeF
 generalize ks.getD 0 []=a at *
 generalize ks.getD 1 []=b at *
 repeat' split
 ·exact hs
 ·exact hd
 ·exact later_ok hd
 ·exact fun y hy=>(List.mem_append.1 hy).elim (k0 y) (k1 y)
 ·exact later_ok k0
 ·intro y hy
  unfold foldsF at hy
  rcases adds_mem _ _ hy with hy|hy
  ·obtain ⟨x,hx,rfl⟩:=List.mem_map.1 hy
   exact ⟨winF_wf (k0 x hx).a,(k0 x hx).k,foldZ_wf _ _,wf_1⟩
  ·cases hy
 ·intro y hy
  unfold restsF at hy
  rcases adds_mem _ _ hy with hy|hy
  ·obtain ⟨x,hx,rfl⟩:=List.mem_map.1 hy
   exact ⟨w64_wf _,(k0 x (List.mem_filter.1 hx).1).k,foldZ_wf _ _,wf_1⟩
  ·cases hy
 ·intro y hy
  unfold pairsF at hy
  obtain ⟨x,hx,hy⟩:=List.mem_flatMap.1 hy
  obtain ⟨l,hl,rfl⟩:=List.mem_map.1 hy
  have hx:=k0 x hx
  have hl:=k1 l (List.mem_filter.1 hl).1
  have ha:wf64 (if l.r.a > x.r.a then l.r.a else x.r.a):=by
   split
   ·exact hl.a
   ·exact hx.a
  have hz:=calcZ_wf (r:=⟨if l.r.a > x.r.a then l.r.a else x.r.a,x.r.k,x.r.v⟩) ⟨ha,hx.k,hx.v⟩ hl.v _ (getD_n hc 0)
  exact ⟨ha,hx.k,hz,w64_wf _⟩
 ·intro y hy
  obtain ⟨x,hx,hy⟩:=List.mem_filterMap.1 hy
  have hx:=k0 x hx
  unfold filtB at hy
  split at hy
  ·split at hy
   ·cases hy;exact hx
   ·cases hy
  ·split at hy
   ·cases hy
    exact ⟨hx.a,calcZ_wf hx.rc (wf64_in (by decide) (by decide)) _ (getD_n hc 0),calcZ_wf hx.rc (wf64_in (by decide) (by decide)) _ (getD_n hc 1),hx.n⟩
   ·split at hy
    ·split at hy
     ·cases hy
     ·rename_i z hz
      cases hy
      exact ⟨hx.a,hx.k,calcZ_wf hx.rc (k1 z (lastF_mem hz)).v _ (getD_n hc 0),hx.n⟩
    ·split at hy
     ·split at hy
      ·cases hy;exact hx
      ·cases hy
     ·cases hy;exact ⟨hx.a,hx.k,hx.v,wf_1⟩
theorem BagIs.nil:BagIs []:=⟨List.Pairwise.nil,by simp,by simp⟩
theorem cut_is {l:List Bi} (h:OkB l) {top:Int} (ht:top<=200):BagIs (cutB (ofF l) 0 top):=⟨(ofF_srt l).cut _ _,fun y hy=>ofF_ok h y (mem_cut.1 hy).1,fun y hy=>⟨(mem_cut.1 hy).2.1,by have:=(mem_cut.1 hy).2.2;omega⟩⟩
section
variable {srcs names:List Str}
mutual
theorem eval_is {sb db:Str->List Bi} (hs:∀ s,BagIs (sb s)) (hd:∀ s,BagIs (db s)) {top:Int} (ht:top<=200):∀ (e:Exp),(∀ x∈allE e,NodeM srcs names x)->∀ {u},evalF sb db top e=some u->BagIs u/\fitsB u=true
 | .mk op name n f calcs kids,hm,u,h=>by
  rw [evalF] at h
  have hb:=hm (.mk op name n f calcs kids) (by rw [allE];exact List.mem_cons_self ..)
  split at h
  ·cases h
  ·rename_i ks hks
   have hk:=evals_is hs hd ht kids (fun x hx=>hm x (by rw [allE];exact List.mem_cons_of_mem _ hx)) hks
   split at h
   ·rename_i hf
    cases h
    exact ⟨cut_is (node_ok (hs _).ok (hd _).ok (fun i=>(hk.2 i).1.ok) hb.cs) ht,hf⟩
   ·cases h
theorem evals_is {sb db:Str->List Bi} (hs:∀ s,BagIs (sb s)) (hd:∀ s,BagIs (db s)) {top:Int} (ht:top<=200):∀ (l:List Exp),(∀ x∈allEs l,NodeM srcs names x)->∀ {ks},evalsF sb db top l=some ks->ks.length=l.length/\∀ i,BagIs (ks.getD i [])/\fitsB (ks.getD i [])=true
 |[],_,ks,h=>by
  rw [evalsF] at h;cases h
  exact ⟨rfl,fun i=>by rw [List.getD_eq_getElem?_getD];exact ⟨BagIs.nil,rfl⟩⟩
 |x::r,hm,ks,h=>by
  rw [evalsF] at h
  split at h
  ·cases h
  ·rename_i k hk
   split at h
   ·cases h
   ·rename_i kr hkr
    cases h
    have h1:=eval_is hs hd ht x (fun y hy=>hm y (by rw [allEs];exact List.mem_append_left _ hy)) hk
    have h2:=evals_is hs hd ht r (fun y hy=>hm y (by rw [allEs];exact List.mem_append_right _ hy)) hkr
    refine ⟨by rw [List.length_cons,List.length_cons,h2.1],fun i=>?_⟩
    cases i with
    |zero=>exact h1
    |succ i=>rw [List.getD_cons_succ];exact h2.2 i
end
theorem evals_at {sb db:Str->List Bi} {top:Int}:∀ {l:List Exp} {ks},evalsF sb db top l=some ks->∀ {i x},l[i]? = some x->∃ k,evalF sb db top x=some k/\ks.getD i []=k
 |[],_,_,i,x,hx=>by simp at hx
 |y::r,ks,h,i,x,hx=>by
  rw [evalsF] at h
  split at h
  ·cases h
  ·rename_i k hk
   split at h
   ·cases h
   ·rename_i kr hkr
    cases h
    cases i with
    |zero=>cases hx;exact ⟨k,hk,rfl⟩
    |succ i=>rw [List.getD_cons_succ];exact evals_at hkr (by simpa using hx)
/-! what is told -/
theorem meets_both {a b:Lg} {t w:Int} (h:meetsB a t w=true\/meetsB b t w=true):meetsB (a.both b) t w=true:=by
 rw [meets_iff,meets_iff] at h
 rw [meets_iff]
 unfold Lg.both
 cases ha:a.on with
 |false=>
  rw [if_neg (by decide)]
  rcases h with h|h
  ·rw [ha] at h;exact absurd h.1 (by decide)
  ·exact h
 |true=>
  rw [if_pos rfl]
  cases hb:b.on with
  |false=>
   rw [if_neg (by decide)]
   rcases h with h|h
   ·exact h
   ·rw [hb] at h;exact absurd h.1 (by decide)
  |true=>
   rw [if_pos rfl]
   refine ⟨rfl,?_,?_⟩
   ·show w-mxI a.ahead b.ahead<=t
    rw [mxI_eq];omega
   ·show (a.ever||b.ever)=true\/t<=w+(if (a.ever||b.ever)=true then (0:Int) else mxI a.back b.back)
    by_cases he:(a.ever||b.ever)=true
    ·exact .inl he
    ·rw [if_neg he,mxI_eq]
     rw [Bool.or_eq_true] at he
     right
     rcases h with ⟨_,_,h|h⟩|⟨_,_,h|h⟩
     ·exact absurd (.inl h) he
     ·omega
     ·exact absurd (.inr h) he
     ·omega
theorem meets_thru {a:Lg} {ev:Bool} {bk ah t t' w:Int} (h1:t'<=t+ah) (h2:ev=true\/t-bk<=t') (h:meetsB a t' w=true):meetsB (a.thru ev bk ah) t w=true:=by
 rw [meets_iff] at h ⊢
 obtain ⟨ha,h3,h4⟩:=h
 unfold Lg.thru
 rw [if_pos ha]
 refine ⟨rfl,?_,?_⟩
 ·show w-(a.ahead+ah)<=t;omega
 ·show (a.ever||ev)=true\/t<=w+(if (a.ever||ev)=true then (0:Int) else a.back+bk)
  by_cases he:(a.ever||ev)=true
  ·exact .inl he
  ·rw [if_neg he]
   rw [Bool.or_eq_true] at he
   right
   have h4:=h4.resolve_left fun h=>he (.inl h)
   have h2:=h2.resolve_left fun h=>he (.inr h)
   omega
theorem meets_kid {op n:Int} {i:Nat} {a:Lg} {t t' w:Int} (hi:i < 2) (ht:(spanF op n t i).1<=t'/\t'<=(spanF op n t i).2) (h:meetsB a t' w=true):meetsB (kidL op n i a) t w=true:=by
 unfold spanF at ht
 unfold kidL
 by_cases o7:op=7
 ·simp only [o7,if_true] at ht ⊢
  exact meets_thru (by omega) (.inr (by omega)) h
 simp only [o7,if_false] at ht ⊢
 by_cases o8:op=8
 ·simp only [o8,if_true] at ht ⊢
  exact meets_thru (by omega) (.inr (by omega)) h
 simp only [o8,if_false] at ht ⊢
 by_cases o9:op=9\/op=12
 ·simp only [o9,if_true] at ht ⊢
  exact meets_thru (by omega) (.inr (by omega)) h
 simp only [o9,if_false] at ht ⊢
 by_cases o10:op=10\/op=11
 ·simp only [o10,if_true] at ht ⊢
  exact meets_thru (by omega) (.inl rfl) h
 simp only [o10,if_false] at ht ⊢
 by_cases o13:op=13
 ·simp only [o13,if_true] at ht ⊢
  by_cases i1:i=1
  ·subst i1
   exact meets_thru (by simp at ht;omega) (.inl rfl) h
  ·rw [if_neg i1] at ht
   exact meets_thru (by simp at ht;omega) (.inr (by simp at ht;omega)) h
 simp only [o13,if_false] at ht ⊢
 by_cases o14:op=14
 ·simp only [o14,if_true] at ht ⊢
  exact meets_thru (by omega) (.inr (by omega)) h
 simp only [o14,if_false] at ht ⊢
 obtain rfl:t'=t:=by omega
 exact h
theorem meets_out {v:Nat->Lg} {s:Nat} {op n t w:Int}:∀ (l:List Exp) (i:Nat) {out:Lg},meetsB out t w=true->meetsB (kidsG srcs names v s op n l i out) t w=true
 |[],_,_,h=>by rw [kidsG];exact h
 |x::r,i,out,h=>by rw [kidsG];exact meets_out r (i+1) (meets_both (.inl h))
theorem meets_kids {v:Nat->Lg} {s:Nat} {op n t w:Int}:∀ (l:List Exp) (i:Nat) {out:Lg} {j:Nat} {x:Exp},l[j]? = some x->meetsB (kidL op n (i+j) (expG srcs names v s x)) t w=true->meetsB (kidsG srcs names v s op n l i out) t w=true
 |[],_,_,j,x,hx,_=>by simp at hx
 |y::r,i,out,j,x,hx,h=>by
  rw [kidsG]
  cases j with
  |zero=>cases hx;exact meets_out r (i+1) (meets_both (.inr h))
  |succ j=>exact meets_kids r (i+1) (j:=j) (by simpa using hx) (by rwa [show i+1+j=i+(j+1) by omega])
def Told (k:Nat) (sA sB:Nat->List Bi) (G:Nat->Lg) (t:Int):Prop:=∀ s,s < k->∀ w,meetsB (G s) t w=true->AtEq w (sA s) (sB s)
theorem at_out {u v:List Bi} (hu:∀ y∈u,Tin y.r.a) (hv:∀ y∈v,Tin y.r.a) {t:Int} (ht:¬ Tin t):AtEq t u v:=fun z hz=>by
 subst hz
 exact ⟨fun h=>absurd (hu z h) ht,fun h=>absurd (hv z h) ht⟩
theorem eval_at {sA sB dA dB:Nat->List Bi} (hsA:∀ s,BagIs (sA s)) (hsB:∀ s,BagIs (sB s)) (hdA:∀ s,BagIs (dA s)) (hdB:∀ s,BagIs (dB s)) {L:Nat->Nat->Lg} (hD:∀ d t,Told srcs.length sA sB (fun s=>L s d) t->AtEq t (dA d) (dB d)) {top:Int} (htop:top<=200) :
  ∀ (m:Nat) (e:Exp),SizeOf.sizeOf e < m->(∀ x∈allE e,NodeM srcs names x)->∀ {u v},evalF (fun x=>sA (idxN srcs x)) (fun x=>dA (idxN names x)) top e=some u->evalF (fun x=>sB (idxN srcs x)) (fun x=>dB (idxN names x)) top e=some v ->
   ∀ t,Told srcs.length sA sB (fun s=>expG srcs names (L s) s e) t->AtEq t u v
 |0,_,h0,_,_,_,_,_,_,_=>absurd h0 (Nat.not_lt_zero _)
 |m+1, .mk op name n f calcs kids,h0,hm,u,v,hu,hv,t,hT=>by
  have hb:=hm (.mk op name n f calcs kids) (by rw [allE];exact List.mem_cons_self ..)
  have hmk:∀ x∈allEs kids,NodeM srcs names x:=fun x hx=>hm x (by rw [allE];exact List.mem_cons_of_mem _ hx)
  have hni:NIs op n:=hb.ni
  have hBu:=(eval_is (fun _=>hsA _) (fun _=>hdA _) htop _ hm hu).1
  have hBv:=(eval_is (fun _=>hsB _) (fun _=>hdB _) htop _ hm hv).1
  by_cases ht:Tin t
  case neg=>exact at_out hBu.tin hBv.tin ht
  rw [evalF] at hu hv
  split at hu
  ·cases hu
  rename_i ks hks
  split at hu
  case isFalse=>cases hu
  cases hu
  split at hv
  ·cases hv
  rename_i ks' hks'
  split at hv
  case isFalse=>cases hv
  cases hv
  obtain ⟨hkl,hk⟩:=evals_is (fun _=>hsA _) (fun _=>hdA _) htop kids hmk hks
  obtain ⟨hkl',hk'⟩:=evals_is (fun _=>hsB _) (fun _=>hdB _) htop kids hmk hks'
  have hnk:kids.length<=2:=hb.two_kids
  have okA:=node_ok (sb:=fun x=>sA (idxN srcs x)) (db:=fun x=>dA (idxN names x)) (op:=op) (name:=name) (n:=n) (f:=f) (calcs:=calcs) (ks:=ks) (hsA _).ok (hdA _).ok (fun i=>(hk i).1.ok) hb.cs
  have okB:=node_ok (sb:=fun x=>sB (idxN srcs x)) (db:=fun x=>dB (idxN names x)) (op:=op) (name:=name) (n:=n) (f:=f) (calcs:=calcs) (ks:=ks') (hsB _).ok (hdB _).ok (fun i=>(hk' i).1.ok) hb.cs
  refine AtEq.cut (ofF_at okA okB ?_) 0 top
  have hleaf:op=2\/op=3->∀ t',t'=t-n->AtEq t' (dA (idxN names name)) (dB (idxN names name)):=fun o t' ht'=>hD _ _ fun s hs w hw=>hT s hs w (by
   show meetsB (expG srcs names (L s) s _) t w=true
   rw [expG,if_neg (by omega),if_pos o]
   exact meets_thru (by omega) (.inr (by omega)) hw)
  refine node_at hni ht (fun o=>?_) (fun o=>?_) (fun o=>?_) (hdA _).tin (hdB _).tin (fun i=>(hk i).1.tin) (fun i=>(hk' i).1.tin) (fun o1 o2 o3 i hi=>?_)
  ·refine cut_eq (hsA _).srt (hsB _).srt fun t' h1 h2=>?_
   obtain rfl:t'=t:=by omega
   refine hT _ (idxN_lt (hb.src o)) t' ?_
   show meetsB (expG srcs names (L _) _ _) t' t'=true
   rw [expG,if_pos o,if_pos (show idxN srcs name=idxN srcs (Exp.mk op name n f calcs kids).name from rfl),meets_iff]
   exact ⟨rfl,by show t'-0<=t';omega, .inr (by show t'<=t'+0;omega)⟩
  ·have hn0:n=0:=hb.two o
   refine cut_eq (hdA _).srt (hdB _).srt fun t' h1 h2=>hleaf (.inl o) t' (by omega)
  ·refine cut_eq (hdA _).srt (hdB _).srt fun t' h1 h2=>hleaf (.inr o) t' (by omega)
  ·refine cut_eq (hk i).1.srt (hk' i).1.srt fun t' h1 h2=>?_
   rcases Nat.lt_or_ge i kids.length with hlt|hge
   ·obtain ⟨x,hx⟩:=at_lt hlt
    obtain ⟨k,e1,e2⟩:=evals_at hks hx
    obtain ⟨k',e1',e2'⟩:=evals_at hks' hx
    rw [e2,e2']
    have hxm:=List.mem_of_getElem? hx
    have hsz:SizeOf.sizeOf x < m:=by
     have:=List.sizeOf_lt_of_mem hxm
     simp only [Exp.mk.sizeOf_spec] at h0;omega
    refine eval_at hsA hsB hdA hdB hD htop m x hsz (fun y hy=>hmk y (allEs_mem hxm hy)) e1 e1' t' fun s hs w hw=>hT s hs w ?_
    show meetsB (expG srcs names (L s) s _) t w=true
    rw [expG,if_neg o1,if_neg (by omega)]
    refine meets_kids kids 0 hx ?_
    rw [Nat.zero_add]
    exact meets_kid hi ⟨h1,h2⟩ hw
   ·have e:∀ l:List (List Bi),l.length<=i->l.getD i []=[]:=fun l hl=>by rw [List.getD_eq_getElem?_getD,List.getElem?_eq_none hl];rfl
    rw [e ks (by omega),e ks' (by omega)]
    exact fun _ _ => .rfl
end
end Go.Abs

/- The reference: the last item of a key. -/
open Go Go.Abs
namespace Go.Abs
set_option maxRecDepth 100000
set_option maxHeartbeats 4000000
instance lenApp {a b:List Oper} {m n:Nat} [ha:Len a m] [hb:Len b n]:Len (List.append a b) (m+n):=⟨(List.length_append ..).trans (by rw [ha.eq,hb.eq])⟩
def beatsI (b:List Bi) (o:Int) (x:Bi):Bool:=decide (o < 0)||(match b[o.toNat]? with
 |some y=>decide (x.r.a > y.r.a)||(x.r.a==y.r.a&&decide (x.r.v > y.r.v))
 |none=>false)
def lastI (b:List Bi) (r:Rc):Nat->Int
 |0 => -1
 |i+1=>match b[i]? with
  |some x=>if lastP r x&&beatsI b (lastI b r i) x then i else lastI b r i
  |none=>lastI b r i
def LastAt (b:List Bi) (o:Int) (u:Option Bi):Prop:=(o = -1/\u=none)\/∃ (j:Nat) (y:Bi),o=j/\b[j]? = some y/\u=some y
theorem lastI_at (b:List Bi) (r:Rc):∀ i,i<=b.length->LastAt b (lastI b r i) (((b.take i).filter (lastP r)).foldl bestS none)
 |0,_ => .inl ⟨rfl,rfl⟩
 |i+1,h=>by
  have ih:=lastI_at b r i (by omega)
  obtain ⟨x,hx⟩:=at_lt (show i < b.length by omega)
  rw [lastI,hx,List.take_add_one,hx,List.filter_append,List.foldl_append]
  simp only [Option.toList,List.filter_cons,List.filter_nil]
  cases hp:lastP r x with
  |false=>simpa using ih
  |true=>
   simp only [Bool.true_and,if_true,List.foldl_cons,List.foldl_nil]
   rcases ih with ⟨e1,e2⟩|⟨j,y,e1,e2,e3⟩
   ·rw [e1,e2]
    exact .inr ⟨i,x,rfl,hx,rfl⟩
   ·rw [e1,e3]
    have hb:beatsI b (j:Int) x=(decide (x.r.a > y.r.a)||(x.r.a==y.r.a&&decide (x.r.v > y.r.v))):=by
     unfold beatsI
     rw [decide_eq_false (by omega),Int.toNat_natCast,e2];rfl
    rw [hb]
    unfold bestS
    simp only
    split
    ·exact .inr ⟨i,x,rfl,hx,rfl⟩
    ·exact .inr ⟨j,y,rfl,e2,rfl⟩
theorem last_is (b:List Bi) (r:Rc):LastAt b (lastI b r b.length) (lastF b r):=by
 have:=lastI_at b r b.length (Nat.le_refl _)
 rwa [List.take_length] at this
instance fnis512:FnIs CC 212:=⟨rfl,fun _=>rfl⟩
theorem ret512 {b:List Bi} (hl:b.length<=4294967296) (r:Rc):Ret CC 212 [bagIV b,r.iv] (.int .i64 (lastI b r b.length)):=by
 have hbm:(b.map Bi.iv).length=b.length:=List.length_map ..
 have hat:=lastI_at b r
 obtain ⟨ra,rk,rv⟩:=r
 refine Ret.of (fn:=Go.Proofs.Tryz.f212) (by kernel_rfl) rfl rfl ?_
 refine BB ?_
 refine W.loop (X:=Nat×Int) (fun s=>[(0, .imm (bagIV b)),(3, .ptr 0 0),(5, .imm (.int .i64 s.2)),(6, .imm (.int .i64 s.1))])
  (fun s nx G=>1<=nx/\G 0 = .box [.imm (.int .i64 ra), .imm (.int .i64 rk), .imm (.int .i64 rv)] false/\s.1<=b.length/\s.2=lastI b ⟨ra,rk,rv⟩ s.1) (fun s=>b.length-s.1) (0, -1) .auto ⟨by omega,rfl,Nat.zero_le _,rfl⟩ ?_
 rintro ⟨i,o⟩ nx G ⟨hnx,g0,hi,he⟩
 dsimp only at hi he ⊢
 refine BN ?_
 refine W.cond rfl (fun h1=>?_) (fun h1=>?_)
 ·have hlt:i < b.length:=by have:=of_decide_eq_true h1;rw [hbm] at this;omega
  obtain ⟨x,hx⟩:=at_lt hlt
  have hxi:=bag_at hx
  have hmu:b.length-(i+1) < b.length-i:=by omega
  have hst:lastI b ⟨ra,rk,rv⟩ (i+1)=if lastP ⟨ra,rk,rv⟩ x&&beatsI b o x then (i:Int) else o:=by rw [lastI,hx,he]
  have hLA:=hat i hi
  rw [<-he] at hLA
  clear hat
  obtain ⟨⟨xa,xk,xv⟩,xn⟩:=x
  unfold lastP at hst
  simp only at hst
  rcases Bool.eq_false_or_eq_true (xk==rk) with c1|c1
  case inr=>
   rw [c1] at hst
   refine BN ?_
   exact W.skipLop (i+1,o) hmu .auto ⟨by omega,g0,hlt,hst.symm⟩
  rcases Bool.eq_false_or_eq_true (decide (xa<=ra)) with c2|c2
  case inr=>
   rw [c1,c2] at hst
   refine BN ?_
   exact W.skipLop (i+1,o) hmu .auto ⟨by omega,g0,hlt,hst.symm⟩
  rw [c1,c2] at hst
  rcases hLA with ⟨rfl, -⟩|⟨j,⟨⟨ya,yk,yv⟩,yn⟩,rfl,hy, -⟩
  ·have c3:decide ((-1:Int) < 0)=true:=rfl
   refine BN ?_
   exact W.skipLop (i+1,(i:Int)) hmu .auto ⟨by omega,g0,hlt,hst.symm⟩
  ·have c3:decide ((j:Int) < 0)=false:=decide_eq_false (by omega)
   have hyi:=bag_at hy
   have hb:beatsI b (j:Int) ⟨⟨xa,xk,xv⟩,xn⟩=(decide (xa > ya)||(xa==ya&&decide (xv > yv))):=by
    unfold beatsI
    rw [c3,Int.toNat_natCast,hy];rfl
   rw [hb] at hst
   rcases Bool.eq_false_or_eq_true (decide (xa > ya)) with c4|c4
   ·rw [c4] at hst
    refine BN ?_
    exact W.skipLop (i+1,(i:Int)) hmu .auto ⟨by omega,g0,hlt,hst.symm⟩
   rcases Bool.eq_false_or_eq_true (xa==ya) with c5|c5
   case inr=>
    rw [c4,c5] at hst
    refine BN ?_
    exact W.skipLop (i+1,(j:Int)) hmu .auto ⟨by omega,g0,hlt,hst.symm⟩
   rcases Bool.eq_false_or_eq_true (decide (xv > yv)) with c6|c6
   ·rw [c4,c5,c6] at hst
    refine BN ?_
    exact W.skipLop (i+1,(i:Int)) hmu .auto ⟨by omega,g0,hlt,hst.symm⟩
   ·rw [c4,c5,c6] at hst
    refine BN ?_
    exact W.skipLop (i+1,(j:Int)) hmu .auto ⟨by omega,g0,hlt,hst.symm⟩
 ·have hge:i=b.length:=by have:=of_decide_eq_false h1;rw [hbm] at this;omega
  subst hge
  subst he
  refine BN ?_
  exact W.retFin1 rfl ⟨[],rfl⟩
end Go.Abs

/- The reference: events, formed or not; the bags of sources; what is seen of them. -/
open Go Go.Abs
namespace Go.Abs
set_option maxRecDepth 100000
set_option maxHeartbeats 4000000
def ty365:TyI:={ d:=TyD.sl 83,sz:=1,bytes:=24,zero:=AV.nils }
instance tyis365:TyIs CC 65 ty365:=⟨by kernel_rfl⟩
def ty372:TyI:={ d:=TyD.sl 77,sz:=1,bytes:=24,zero:=AV.nils }
instance tyis372:TyIs CC 72 ty372:=⟨by kernel_rfl⟩
def ty383:TyI:={ d:=TyD.st [(0,1),(1,1),(2,3)],sz:=5,bytes:=40,zero:=AV.imm (IV.agg [IV.int IntKind.i64 (0),IV.int IntKind.i64 (0),IV.int IntKind.i64 (0),IV.int IntKind.i64 (0),IV.int IntKind.i64 (0)]) }
instance tyis383:TyIs CC 83 ty383:=⟨by kernel_rfl⟩
structure Evt where
 s:Int
 id:Int
 r:Rc
def Evt.iv (x:Evt):IV := .agg [.int .i64 x.s, .int .i64 x.id, .int .i64 x.r.a, .int .i64 x.r.k, .int .i64 x.r.v]
def evsIV (l:List Evt):IV := .lst (l.map Evt.iv)
theorem ev_at {b:List Evt} {i:Nat} {x:Evt} (h:b[i]? = some x):(b.map Evt.iv)[((i:Nat):Int).toNat]? = some x.iv:=at_map Evt.iv h
instance fnis485:FnIs CC 185:=⟨rfl,fun _=>rfl⟩
instance fnis486:FnIs CC 186:=⟨rfl,fun _=>rfl⟩
instance fnis487:FnIs CC 187:=⟨rfl,fun _=>rfl⟩
instance fnis459:FnIs CC 159:=⟨rfl,fun _=>rfl⟩
instance fnis460:FnIs CC 160:=⟨rfl,fun _=>rfl⟩
theorem ret485 (n low high:Int):Ret CC 185 [.int .i64 n, .int .i64 low, .int .i64 high] (.bool (inR n low high)):=by
 unfold inR
 refine Ret.of (fn:=Go.Proofs.Tryz.f185) (by kernel_rfl) rfl rfl ?_
 rcases Bool.eq_false_or_eq_true (decide (n>=low)) with c1|c1
 ·rw [c1,Bool.true_and]
  refine BB ?_
  exact W.retFin1 rfl ⟨[],rfl⟩
 ·rw [c1,Bool.false_and]
  refine BB ?_
  exact W.retFin1 rfl ⟨[],rfl⟩
def recB (r:Rc):Bool:=inR r.a 0 200&&inR r.k (-1000000000) 1000000000&&inR r.v (-1000000000) 1000000000
theorem ret486 (r:Rc):Ret CC 186 [r.iv] (.bool (recB r)):=by
 obtain ⟨a,k,v⟩:=r
 unfold recB
 simp only
 have h1:=ret485 a 0 200
 have h2:=ret485 k (-1000000000) 1000000000
 have h3:=ret485 v (-1000000000) 1000000000
 refine Ret.of (fn:=Go.Proofs.Tryz.f186) (by kernel_rfl) rfl rfl ?_
 rcases Bool.eq_false_or_eq_true (inR a 0 200) with c1|c1
 ·rw [c1] at h1 ⊢
  rcases Bool.eq_false_or_eq_true (inR k (-1000000000) 1000000000) with c2|c2
  ·rw [c2] at h2 ⊢
   rw [Bool.true_and,Bool.true_and]
   refine BB ?_
   exact W.retFin1 rfl ⟨[],rfl⟩
  ·rw [c2] at h2 ⊢
   refine BB ?_
   exact W.retFin1 rfl ⟨[],rfl⟩
 ·rw [c1] at h1 ⊢
  refine BB ?_
  exact W.retFin1 rfl ⟨[],rfl⟩
def beforeB (x y:Evt):Bool:=if x.r.a != y.r.a then decide (x.r.a < y.r.a) else if x.s != y.s then decide (x.s < y.s) else decide (x.id < y.id)
theorem ret487 (x y:Evt):Ret CC 187 [x.iv,y.iv] (.bool (beforeB x y)):=by
 obtain ⟨s,i,⟨a,k,v⟩⟩:=x
 obtain ⟨s2,i2,⟨a2,k2,v2⟩⟩:=y
 unfold beforeB
 simp only
 refine Ret.of (fn:=Go.Proofs.Tryz.f187) (by kernel_rfl) rfl rfl ?_
 rcases Bool.eq_false_or_eq_true (a != a2) with c1|c1
 ·rw [c1,if_pos rfl]
  refine BB ?_
  exact W.retFin1 rfl ⟨[],rfl⟩
 ·rw [c1,if_neg (by decide)]
  rcases Bool.eq_false_or_eq_true (s != s2) with c2|c2
  ·rw [c2,if_pos rfl]
   refine BB ?_
   exact W.retFin1 rfl ⟨[],rfl⟩
  ·rw [c2,if_neg (by decide)]
   refine BB ?_
   exact W.retFin1 rfl ⟨[],rfl⟩
def evOk (n:Int) (l:List Evt) (i:Nat):Bool:=match l[i]? with
 |some x=>inR x.s 0 (w64 (n-1))&&inR x.id 0 999&&recB x.r&&(decide ((i:Int) > 0)==false||(match l[i-1]? with
  |some y=>beforeB y x
  |none=>true))&&(List.range i).all fun k=>match l[k]? with
   |some y => !(y.s==x.s&&y.id==x.id)
   |none=>true
 |none=>true
def eventsB (n:Int) (l:List Evt):Bool:=inR n 1 4 && !decide ((l.length:Int) > 60)&&(List.range l.length).all (evOk n l)
def saidB (l:List Evt) (s:Int):List Bi:=(l.filter fun x=>x.s==s).map fun x=>⟨x.r,1⟩
def saysB (l:List Evt) (s:Int):List Bi:=ofF (saidB l s)
theorem said_step {l:List Evt} {s:Int} {i:Nat} {x:Evt} (hx:l[i]? = some x) {c:Bool} (hc:(x.s==s)=c):(saidB (l.take (i+1)) s).map Bi.iv=(saidB (l.take i) s).map Bi.iv++(if c then [.agg [.int .i64 x.r.a, .int .i64 x.r.k, .int .i64 x.r.v, .int .i64 1]] else []):=by
 unfold saidB
 rw [List.take_add_one,hx,List.filter_append,List.map_append,List.map_append]
 congr 1
 show ((List.filter _ [x]).map _).map _=_
 rw [List.filter_cons,hc]
 cases c<;>rfl
theorem said_len (l:List Evt) (s:Int):(saidB l s).length<=l.length:=by
 unfold saidB
 rw [List.length_map]
 exact List.length_filter_le ..
structure Evt.Ok (x:Evt):Prop where
 s:wf64 x.s
 id:wf64 x.id
 r:x.r.Ok
theorem said_ok {l:List Evt} (h:∀ x∈l,x.Ok) (s:Int):∀ y∈saidB l s,y.Ok:=fun y hy=>by
 unfold saidB at hy
 obtain ⟨x,hx,rfl⟩:=List.mem_map.1 hy
 have:=(h x (List.mem_filter.1 hx).1).r
 exact ⟨this.a,this.k,this.v,wf64_in (by show (-9223372036854775808:Int)<=1;decide) (by show (1:Int)<=_;decide)⟩
theorem ret460 {l:List Evt} (hl:l.length<=1000000000) (hok:∀ x∈l,x.Ok) (s:Int):Ret CC 160 [evsIV l, .int .i64 s] (bagIV (saysB l s)):=by
 have hlm:(l.map Evt.iv).length=l.length:=List.length_map ..
 have h488:=ret488 (l:=saidB l s) (by have:=said_len l s;omega) (said_ok hok s)
 unfold saysB
 refine Ret.of (fn:=Go.Proofs.Tryz.f160) (by kernel_rfl) rfl rfl ?_
 refine BB ?_
 refine W.loop (X:=Nat×AV) (fun t=>[(0, .imm (evsIV l)),(1, .imm (.int .i64 s)),(5,t.2),(6, .imm (.int .i64 t.1))])
  (fun t nx G=>t.1<=l.length/\Own 169 4 0 nx ((saidB (l.take t.1) s).map Bi.iv) G t.2) (fun t=>l.length-t.1) (0, .nils) .auto ⟨Nat.zero_le _, .nil ..⟩ ?_
 rintro ⟨i,w⟩ nx G ⟨hi,ho⟩
 dsimp only at hi ho ⊢
 refine BN ?_
 refine W.cond rfl (fun h1=>?_) (fun h1=>?_)
 ·have hlt:i < l.length:=by have:=of_decide_eq_true h1;rw [hlm] at this;omega
  obtain ⟨x,hx⟩:=at_lt hlt
  have hxi:=ev_at hx
  have hmu:l.length-(i+1) < l.length-i:=by omega
  have hlen:((saidB (l.take i) s).map Bi.iv).length<=i:=by rw [List.length_map];have:=said_len (l.take i) s;rw [List.length_take] at this;omega
  have htk:=fun c=>said_step (s:=s) hx (c:=c)
  obtain ⟨xs,xi,⟨a,k,v⟩⟩:=x
  simp only at htk
  rcases Bool.eq_false_or_eq_true (xs==s) with c1|c1
  ·have htk2:=htk true c1
   rw [if_pos rfl] at htk2
   refine BN ?_
   refine R.app1 ho at_upd (by simp only [most];omega) fun v' G' ho' hG'=>?_
   refine BN ?_
   refine W.skipLop (i+1,v') hmu .auto ⟨hlt,?_⟩
   show Own _ _ _ _ ((saidB (l.take (i+1)) s).map Bi.iv) _ _
   rw [htk2]
   exact ho'.up (by omega)
  ·have htk2:=htk false c1
   rw [if_neg (by decide),List.append_nil] at htk2
   refine BN ?_
   exact W.skipLop (i+1,w) hmu .auto ⟨hlt,by rw [htk2];exact ho.up (by omega)⟩
 ·have hge:l.length<=i:=by have:=of_decide_eq_false h1;rw [hlm] at this;omega
  rw [List.take_of_length_le hge] at ho
  have hpk:=ho.rdx
  generalize saidB l s=Q at *
  refine BN ?_
  obtain ⟨ids,hids, -⟩:=hpk
  refine R.opU (O.callFz (ids:=ids++[]) rfl (peeks_one (hids 99) peeks_nil) h488 rfl) rfl ?_
  refine BN ?_
  exact W.retFin1 rfl ⟨[],rfl⟩
end Go.Abs

/- The reference: the items of an expression, by the bags of its Kids. -/
open Go Go.Abs
namespace Go.Abs
set_option maxRecDepth 100000
set_option maxHeartbeats 4000000
def ty467:TyI:={ d:=TyD.st [(0,2),(2,1),(3,1)],sz:=4,bytes:=96,zero:=AV.agg [AV.nils,AV.nils,AV.nils,AV.nils] }
instance tyis467:TyIs CC 167 ty467:=⟨by kernel_rfl⟩
def BagV (v:AV) (b:List Bi):Prop:=v = .imm (bagIV b)\/(v = .nils/\b=[])
theorem BagV.rdx {v:AV} {b:List Bi} (h:BagV v b) {G:Nat->Obj} {P:Nat->Prop}:Rdx 1 G P v (bagIV b):=by
 rcases h with rfl|⟨rfl,rfl⟩
 ·exact Rdx.imm ..
 ·exact Rdx.nils ..
theorem O.callPk {C:Cfg} {id:Nat} {l:Env} {G:Nat->Obj} {nx:Nat} {df:List (AV×List AV)} {pk:Pk} {f:FuncId} {ar:List Operand} {ats:Array TypeId} {vs:List AV} {ivs:List IV} {x:IV} [hf:FnIs C f] (ha:looks l ar=some vs) (hi:peeks G vs=some (ivs,[])) (hr:Ret C f ivs x) :
  OpV C id l G nx df pk (.call { callee := .value (.func f),args:=⟨ar⟩,argTypes:=ats }) (.imm x) []:=by
 obtain ⟨n,v,G',nx',pk',ids,h1,h2⟩:=hr
 refine ⟨fun t ht=>⟨n,?_⟩⟩
 simp only [opA,ev,aCall,fnOf,List.map_nil,List.append_nil,callA,hf.byref,Bool.false_eq_true,if_false,ht.evs ha,hi,hf.orc,h1,h2,give_nil]
section
variable {nt:Nat} {ol r:List Oper} {base i:Nat} {l:Env} {G:Nat->Obj} {nx:Nat} {df:List (AV×List AV)} {pk:Pk} {Φ:Out->Prop} {fs:List Fp} {x y:Operand} {t et rt ty1 ty2:TypeId} {pos1 pos2:String} {af1 af2:Array Edge} {d1 d2 lo hi s o n:Nat} {v w:AV} {k ke:TyI} {xs:List AV} {fr:Bool} {i0:Int} {ks:List (List Bi)} {b:List Bi}
theorem D.elemAt (hG:G o = .row rt 1 xs fr) (hm:xs.length=n) (hu:xs[s]? = some v) (hv:v.cells=[v]) [hk:TyIs CC t k] (ht:k.d = .sl rt) [he:TyIs CC rt ke] (hke:ke.d.isAgg=false/\ke.sz=1) (hx:lookO l x=some (.row o n)) (hy:lookO l y=some (.imm (.int .i64 i0))) (hi:i0=(s:Int)) (hd1:Nat.ble (d1+1) nt=true) (hd2:Nat.ble (d2+1) nt=true)
  (next:D CC nt ol base (i+1+1) r ((d2,v)::(d1, .rptr o n s 0)::l) G nx df pk (⟨i+1,[o],[],[]⟩::⟨i,[o],[],[]⟩::fs) Φ) :
  D CC nt ol base i (⟨some d1, .indexAddr t x y,ty1,pos1,af1,none⟩::⟨some d2, .load rt (.tmp d1),ty2,pos2,af2,none⟩::r) l G nx df pk fs Φ:=by
 subst hi
 have hs:=(List.getElem?_eq_some_iff.1 hu).1
 exact D.op0 (O.addrRX ht he hx hy hG hm (by omega) hke.2.symm) (rd_index hx hy) hd1 (D.op0 (O.loadRX look_hd hG hm hu hv hke.1 hke.2) (rd_load look_hd) hd2 next)
theorem R.elemAt (hG:G o = .row rt 1 xs fr) (hm:xs.length=n) (hu:xs[s]? = some v) (hv:v.cells=[v]) [hk:TyIs CC t k] (ht:k.d = .sl rt) [he:TyIs CC rt ke] (hke:ke.d.isAgg=false/\ke.sz=1) (hx:lookO l x=some (.row o n)) (hy:lookO l y=some (.imm (.int .i64 i0))) (hi:i0=(s:Int)) (hd1:Nat.ble (d1+1) nt=true) (hd2:Nat.ble (d2+1) nt=true)
  (next:R CC nt ol base (i+1+1) r ((d2,v)::(d1, .rptr o n s 0)::l) G nx df pk Φ) :
  R CC nt ol base i (⟨some d1, .indexAddr t x y,ty1,pos1,af1,none⟩::⟨some d2, .load rt (.tmp d1),ty2,pos2,af2,none⟩::r) l G nx df pk Φ:=by
 subst hi
 have hs:=(List.getElem?_eq_some_iff.1 hu).1
 exact R.op0 (O.addrRX ht he hx hy hG hm (by omega) hke.2.symm) hd1 (R.op0 (O.loadRX look_hd hG hm hu hv hke.1 hke.2) hd2 next)
end
def KidRow (o:Nat) (ks:List (List Bi)) (G:Nat->Obj):Prop:=G o = .row 77 1 ((ks.map bagIV).map .imm) false
theorem kid_at {ks:List (List Bi)} {i:Nat} {b:List Bi} (h:ks[i]? = some b):((ks.map bagIV).map AV.imm)[i]? = some (.imm (bagIV b)):=by
 rw [List.getElem?_map,List.getElem?_map,h];rfl
theorem kid_len (ks:List (List Bi)):((ks.map bagIV).map AV.imm).length=ks.length:=by simp
structure WorldIs (p:Pgm) (S E:List (List Bi)) (wo so dd:Nat) (G:Nat->Obj):Prop where
 box:G wo = .box [.imm (.lst (p.srcs.map sv)), .imm (.lst (p.defs.map Dfn.iv)), .row so S.length, .row dd E.length] false
 srcs:G so = .row 77 1 ((S.map bagIV).map .imm) false
 defs:∃ ws,G dd = .row 77 1 ws false/\All2 BagV ws E
theorem WorldIs.frame {p:Pgm} {S E:List (List Bi)} {wo so dd:Nat} {G G':Nat->Obj} (h:WorldIs p S E wo so dd G) (h1:G' wo=G wo) (h2:G' so=G so) (h3:G' dd=G dd):WorldIs p S E wo so dd G' where
 box:=h1.trans h.box
 srcs:=h2.trans h.srcs
 defs:=by obtain ⟨ws,e,a⟩:=h.defs;exact ⟨ws,h3.trans e,a⟩
def OutB (b:List Bi) (nx:Nat) (v:AV) (G':Nat->Obj) (nx':Nat) (G:Nat->Obj):Prop:=Rdx 1 G' (fun i=>nx<=i/\i < nx') v (bagIV b)/\nx<=nx'/\∀ q,q < nx->G' q=G q
section
variable {p:Pgm} {S E:List (List Bi)} {wo so dd:Nat} {G:Nat->Obj} {nx:Nat}
theorem cal489a (hp:p.Fits) (hpr:progR p=true) (hW:WorldIs p S E wo so dd G) (hS:S.length=p.srcs.length) (hE:E.length=p.defs.length) (hlt:wo < nx/\so < nx/\dd < nx) {op n f:Int} {name:Str} {calcs:List Trm} {kids:List Exp} {kv:AV} (hb:NodeM p.srcs (p.defs.map Dfn.name) (.mk op name n f calcs kids)) (hop:op=1\/op=2\/op=3) (hds:∀ b∈E,b.length<=1000) :
  Cal CC 189 [.ptr wo 0, .imm (Exp.mk op name n f calcs kids).iv,kv] G nx fun v G' nx'=>OutB (nodeF (fun x=>S.getD (idxN p.srcs x) []) (fun x=>E.getD (idxN (p.defs.map Dfn.name) x) []) op name n f calcs []) nx v G' nx' G:=by
 obtain ⟨gw,gs,ws,gd,hws⟩:=hW
 have hwl:=hws.length
 have h6:=(progR_small hpr).len
 have h4:=(progR_small hpr).srcs
 have h96:=ret96 p hp.defs
 rw [(countR_parts (progR_count hpr)).2.2.1] at h96
 have hsrc:=hb.src
 have href:=hb.ref
 simp only [Exp.op,Exp.name] at hsrc href
 generalize hnames:p.defs.map Dfn.name=names at *
 have hnl:names.length=p.defs.length:=by rw [<-hnames,List.length_map]
 obtain ⟨srcs,defs⟩:=p
 simp only at *
 unfold nodeF
 dsimp only
 rcases Classical.em (op=1) with rfl|h1
 ·have h69:=ret69 srcs name (by omega)
  have hs:=hsrc rfl
  rw [idxFrom_idxN hs,Nat.zero_add] at h69
  have hlt2:=idxN_lt hs
  rw [if_pos rfl]
  generalize idxN srcs name=j at *
  obtain ⟨b,hbj⟩:=at_lt (show j < S.length by omega)
  have hgb:S.getD j []=b:=by rw [List.getD_eq_getElem?_getD,hbj];rfl
  rw [hgb]
  have bA:((1:Int)==1)=true:=rfl
  refine Cal.of (fn:=Go.Proofs.Tryz.f189) (by kernel_rfl) rfl rfl ?_
  refine BN ?_
  refine D.elemAt (Eq.trans at_upd gs) (kid_len S) (kid_at hbj) rfl rfl ⟨rfl,rfl⟩ rfl rfl rfl rfl rfl ?_
  refine BD ?_
  refine D.skip (by kernel_rfl) ?_
  refine BN ?_
  exact W.retFin1 rfl ⟨Rdx.imm ..,by omega,fun q hq=>at_upd⟩
 have b1:(op==1)=false:=by simpa using h1
 rw [if_neg h1]
 have hs:=href (by omega)
 have h69:=ret69 names name (by omega)
 rw [idxFrom_idxN hs,Nat.zero_add] at h69
 have hlt2:=idxN_lt hs
 generalize idxN names name=j at *
 obtain ⟨b,hbj⟩:=at_lt (show j < E.length by omega)
 have hgb:E.getD j []=b:=by rw [List.getD_eq_getElem?_getD,hbj];rfl
 rw [hgb]
 have hbl:=hds b (List.mem_of_getElem? hbj)
 obtain ⟨w,hw1,hw2⟩:=hws.at' hbj
 rcases Classical.em (op=2) with rfl|h2
 ·rw [if_pos rfl]
  have bB:((2:Int)==2)=true:=rfl
  refine Cal.of (fn:=Go.Proofs.Tryz.f189) (by kernel_rfl) rfl rfl ?_
  refine BN ?_
  refine D.elemAt (Eq.trans at_upd gd) hwl hw1 (by rcases hw2 with rfl|⟨rfl, -⟩<;>rfl) rfl ⟨rfl,rfl⟩ rfl rfl rfl rfl rfl ?_
  refine BD ?_
  refine D.skip (by kernel_rfl) ?_
  refine BN ?_
  exact W.retFin1 rfl ⟨hw2.rdx,by omega,fun q hq=>at_upd⟩
 obtain rfl:op=3:=by omega
 rw [if_neg h2,if_pos rfl]
 have b2:((3:Int)==2)=false:=rfl
 have b3:((3:Int)==3)=true:=rfl
 have h507:=ret507 (b:=b) (by omega) n
 rcases hw2 with rfl|⟨rfl,rfl⟩
 ·refine Cal.of (fn:=Go.Proofs.Tryz.f189) (by kernel_rfl) rfl rfl ?_
  refine BN ?_
  refine D.elemAt (Eq.trans at_upd gd) hwl hw1 rfl rfl ⟨rfl,rfl⟩ rfl rfl rfl rfl rfl ?_
  refine BD ?_
  refine D.skip (by kernel_rfl) ?_
  refine BN ?_
  exact W.retFin1 rfl ⟨Rdx.imm ..,by omega,fun q hq=>at_upd⟩
 ·have h507':Ret CC 207 [.lst [], .int .i64 n] (bagIV (laterF [] n)):=h507
  have hpn:∀ G:Nat->Obj,peeks G [.nils, .imm (.int .i64 n)]=some ([.lst [], .int .i64 n],[]):=fun G=>rfl
  refine Cal.of (fn:=Go.Proofs.Tryz.f189) (by kernel_rfl) rfl rfl ?_
  refine BN ?_
  refine D.elemAt (Eq.trans at_upd gd) hwl hw1 rfl rfl ⟨rfl,rfl⟩ rfl rfl rfl rfl rfl ?_
  refine BD ?_
  refine D.op0 (O.callPk rfl (hpn _) h507') rfl rfl ?_
  refine BD ?_
  refine D.skip (by kernel_rfl) ?_
  refine BN ?_
  exact W.retFin1 rfl ⟨Rdx.imm ..,by omega,fun q hq=>at_upd⟩
end
end Go.Abs

/- The reference: pairs of items. -/
open Go Go.Abs
namespace Go.Abs
set_option maxRecDepth 100000
set_option maxHeartbeats 4000000
instance fnis510:FnIs CC 210:=⟨rfl,fun _=>rfl⟩
theorem ret510 {a b:List Bi} (hla:a.length<=1000) (hlb:b.length<=1000) {op n f:Int} {name:Str} {c:Trm} {calcs:List Trm} {kids:List Exp} (hc:calcs[0]? = some c) (hct:okT c=true):Ret CC 210 [Exp.iv (.mk op name n f calcs kids),bagIV a,bagIV b] (bagIV (pairsF n c a b)):=by
 have ham:(a.map Bi.iv).length=a.length:=List.length_map ..
 have h513:=fun r=>ret513 (b:=b) (by omega) r n
 have h511:=fun (r:Rc) (o:Int)=>ret511 r o c hct
 have hcs:(Trm.ivs calcs)[(0:Int).toNat]? = some c.iv:=by rw [Trm.ivs_map];show (calcs.map Trm.iv)[0]? = _;rw [List.getElem?_map,hc];rfl
 refine Ret.of (fn:=Go.Proofs.Tryz.f210) (by kernel_rfl) rfl rfl ?_
 refine BB ?_
 refine W.loop (X:=Nat×AV) (fun s=>[(1, .imm (bagIV a)),(2, .imm (bagIV b)),(3, .ptr 0 0),(7,s.2),(8, .imm (.int .i64 s.1))])
  (fun s nx G=>1<=nx/\G 0 = .box ((Exp.mk op name n f calcs kids).iv.cells.map .imm) false/\s.1<=a.length/\(pairsF n c (a.take s.1) b).length<=s.1*1000/\Own 169 4 1 nx ((pairsF n c (a.take s.1) b).map Bi.iv) G s.2) (fun s=>a.length-s.1) (0, .nils) .auto ⟨by omega,rfl,Nat.zero_le _,by simp [pairsF], .nil ..⟩ ?_
 rintro ⟨i,w⟩ nx G ⟨hnx,g0,hi,hol,ho⟩
 dsimp only at hi hol ho ⊢
 refine BN ?_
 refine W.cond rfl (fun h1=>?_) (fun h1=>?_)
 ·have hlt:i < a.length:=by have:=of_decide_eq_true h1;rw [ham] at this;omega
  obtain ⟨y,hy⟩:=at_lt hlt
  have hyi:=bag_at hy
  have hmu:a.length-(i+1) < a.length-i:=by omega
  have hst:pairsF n c (a.take (i+1)) b=pairsF n c (a.take i) b++(nearF b y.r n).map (pairB c y):=by
   unfold pairsF
   rw [List.take_add_one,hy,List.flatMap_append];simp
  have hnl:(nearF b y.r n).length<=1000:=by
   unfold nearF
   exact Nat.le_trans (List.length_filter_le ..) hlb
  have h513':=h513 y.r
  generalize nearF b y.r n=L at *
  have hLm:(L.map Bi.iv).length=L.length:=List.length_map ..
  obtain ⟨⟨ya,yk,yv⟩,yn⟩:=y
  generalize pairsF n c (a.take i) b=O0 at *
  refine BN ?_
  refine W.loop (X:=Nat×AV) (fun s=>[(1, .imm (bagIV a)),(2, .imm (bagIV b)),(3, .ptr 0 0),(7,s.2),(8, .imm (.int .i64 i)),(9, .imm (bagIV L)),(10, .imm (.int .i64 s.1))])
   (fun s nx1 G1=>nx<=nx1/\G1 0 = .box ((Exp.mk op name n f calcs kids).iv.cells.map .imm) false/\s.1<=L.length/\Own 169 4 1 nx1 ((O0++(L.take s.1).map (pairB c ⟨⟨ya,yk,yv⟩,yn⟩)).map Bi.iv) G1 s.2) (fun s=>L.length-s.1) (0,w) .auto ⟨by omega,g0,Nat.zero_le _,by simpa using ho.up (by omega)⟩ ?_
  clear ho
  rintro ⟨k,w⟩ nx1 G1 ⟨hn1,g1,hk,ho⟩
  dsimp only at hk ho ⊢
  refine BN ?_
  refine W.cond rfl (fun h2=>?_) (fun h2=>?_)
  ·have hkl:k < L.length:=by have:=of_decide_eq_true h2;rw [hLm] at this;omega
   obtain ⟨z,hz⟩:=at_lt hkl
   have hzi:=bag_at hz
   have hmk:L.length-(k+1) < L.length-k:=by omega
   have hst2:(O0++(L.take (k+1)).map (pairB c ⟨⟨ya,yk,yv⟩,yn⟩)).map Bi.iv=(O0++(L.take k).map (pairB c ⟨⟨ya,yk,yv⟩,yn⟩)).map Bi.iv++[(pairB c ⟨⟨ya,yk,yv⟩,yn⟩ z).iv]:=by
    rw [List.take_add_one,hz];simp
   have hlen:((O0++(L.take k).map (pairB c ⟨⟨ya,yk,yv⟩,yn⟩)).map Bi.iv).length<=1001000:=by
    simp only [List.length_map,List.length_append,List.length_take];omega
   obtain ⟨⟨za,zk,zv⟩,zn⟩:=z
   have h511':=h511 ⟨if za > ya then za else ya,yk,yv⟩ zv
   generalize (O0++(L.take k).map (pairB c ⟨⟨ya,yk,yv⟩,yn⟩)).map Bi.iv=O1 at *
   obtain ⟨cop,cn,cks⟩:=c
   have hcs':=fun _:Unit=>hcs
   clear hcs
   generalize hcz:calcZ ⟨if za > ya then za else ya,yk,yv⟩ zv (.mk cop cn cks)=cz at *
   refine BN ?_
   refine D.op0 (O.addrL (u:=Trm.iv (.mk cop cn cks)) rfl rfl rfl (by decide) (hcs' ()) rfl) rfl rfl ?_
   have hcs:=hcs' ()
   refine BD ?_
   refine D.done (by kernel_rfl) ?_
   refine BN ?_
   refine D.op0 (O.int (u := .int .i64 (w64 (yn*zn))) rfl rfl rfl) rfl rfl ?_
   refine BD ?_
   have hfr:=fun (G2:Nat->Obj) (h:∀ o,o < nx1->G2 o=G1 o)=>ho.fr (G':=G2) (hh:=Nat.le_refl _) (hG:=fun q _ h2=>h q h2)
   refine D.app1 (z := .agg [.int .i64 (if za > ya then za else ya), .int .i64 yk, .int .i64 cz, .int .i64 (w64 (yn*zn))]) (hfr _ fun o h=>at_upd) at_upd (by simp only [most];omega) fun v' G' rd o' ho' hG' hlo=>?_
   refine BD ?_
   refine D.skip (by kernel_rfl) ?_
   refine BN ?_
   refine W.skipLop (k+1,v') hmk .auto ⟨by omega,(hG' 0 (by omega)).trans (Eq.trans at_upd g1),hkl,?_⟩
   show Own _ _ _ _ ((O0++(L.take (k+1)).map (pairB (.mk cop cn cks) ⟨⟨ya,yk,yv⟩,yn⟩)).map Bi.iv) _ _
   rw [hst2]
   subst hcz
   exact Own.up ho' (by omega)
  ·have hge:L.length<=k:=by have:=of_decide_eq_false h2;rw [hLm] at this;omega
   rw [List.take_of_length_le hge,<-hst] at ho
   refine BN ?_
   refine W.skipLop (i+1,w) hmu .auto ⟨by omega,g1,hlt,?_,ho.up (by omega)⟩
   show (pairsF n c (a.take (i+1)) b).length<=_
   rw [hst,List.length_append,List.length_map];simp only;omega
 ·have hge:a.length<=i:=by have:=of_decide_eq_false h1;rw [ham] at this;omega
  rw [List.take_of_length_le hge] at ho
  refine BN ?_
  exact W.retFin1 rfl (ho.peek (k:=99))
end Go.Abs

/- The reference: the items of an expression, by the bags of its Kids: sums, spans, pairs. -/
open Go Go.Abs
namespace Go.Abs
set_option maxRecDepth 100000
set_option maxHeartbeats 4000000
theorem op_beq {m n:Int} (h:m≠n):(m==n)=false:=by simpa using h
theorem fits_bag (b:List Bi):((b.map Bi.iv).map AV.imm).all (AV.fits 4)=true:=fits_all fun y hy=>by obtain ⟨z,_,rfl⟩:=List.mem_map.1 hy;rfl
section
variable {p:Pgm} {wo:Nat} {G:Nat->Obj} {nx:Nat} {sb db:Str->List Bi}
theorem cal489b {op n f:Int} {name:Str} {calcs:List Trm} {kids:List Exp} {o:Nat} {ks:List (List Bi)} (hK:KidRow o ks G) (ho:o < nx) (hb:NodeM p.srcs (p.defs.map Dfn.name) (.mk op name n f calcs kids)) (hkl:ks.length=kids.length) (hks:∀ b∈ks,BagIs b/\b.length<=1000)
  (hop:op=4\/op=7\/op=8\/op=9\/op=10\/op=11\/op=12) :
  Cal CC 189 [.ptr wo 0, .imm (Exp.mk op name n f calcs kids).iv, .row o ks.length] G nx fun v G' nx'=>OutB (nodeF sb db op name n f calcs ks) nx v G' nx' G:=by
 have hkn:kids.length=(if op=1\/op=2\/op=3 then 0 else if op=4\/op=12\/op=13\/op=14 then 2 else 1):=hb.kids
 have hcn:calcs.length=(if op=6 then 2 else if op=5\/op=12\/op=13 then 1 else 0):=hb.calcs
 have hni:NIs op n:=hb.ni
 have hcs:∀ c∈calcs,okT c=true/\nT c=true:=hb.cs
 have h0:∃ a,ks[0]? = some a:=by
  refine at_lt ?_
  rw [hkl,hkn,if_neg (by omega)]
  split<;>omega
 obtain ⟨a,ha⟩:=h0
 have hga:ks.getD 0 []=a:=by rw [List.getD_eq_getElem?_getD,ha];rfl
 obtain ⟨hai,hal⟩:=hks a (List.mem_of_getElem? ha)
 have hka:=kid_at ha
 have b1:(op==1)=false:=op_beq (by omega)
 have b2:(op==2)=false:=op_beq (by omega)
 have b3:(op==3)=false:=op_beq (by omega)
 unfold nodeF
 rw [if_neg (show ¬ op=1 by omega),if_neg (show ¬ op=2 by omega),if_neg (show ¬ op=3 by omega),hga]
 unfold KidRow at hK
 have hkml:=kid_len ks
 rcases Classical.em (op=4) with rfl|h4
 ·have b4:((4:Int)==4)=true:=rfl
  obtain ⟨b,hb1⟩:=at_lt (show 1 < ks.length by rw [hkl,hkn,if_neg (by omega),if_pos (.inl rfl)];omega)
  have hgb:ks.getD 1 []=b:=by rw [List.getD_eq_getElem?_getD,hb1];rfl
  have hbl:=(hks b (List.mem_of_getElem? hb1)).2
  have hkb:=kid_at hb1
  rw [if_pos rfl,hgb]
  have hfa:=fits_bag a
  have hfb:=fits_bag b
  have hla:((a.map Bi.iv).map AV.imm).length=a.length:=by simp
  have hlb:((b.map Bi.iv).map AV.imm).length=b.length:=by simp
  refine Cal.of (fn:=Go.Proofs.Tryz.f189) (by kernel_rfl) rfl rfl ?_
  refine BN ?_
  refine D.elemAt (Eq.trans at_upd hK) hkml hka rfl rfl ⟨rfl,rfl⟩ rfl rfl rfl rfl rfl ?_
  refine D.op1 (O.appNilU rfl rfl rfl rfl (ys:=(a.map Bi.iv).map AV.imm) rfl (by decide) (by decide) rfl hfa (by simp only [most];omega)) rfl rfl ?_
  refine BD ?_
  refine D.elemAt (Eq.trans at_upd hK) hkml hkb rfl rfl ⟨rfl,rfl⟩ rfl rfl rfl rfl rfl ?_
  refine D.op1 (O.appRowU rfl rfl rfl at_upd rfl rfl (ys:=(b.map Bi.iv).map AV.imm) rfl (by decide) (by decide) rfl hfb (by simp only [most];omega)) rfl rfl ?_
  refine BD ?_
  refine D.auto ?_
  refine BN ?_
  exact W.retFin1 rfl ⟨Rdx.row (e:=169) (sz:=4) (xs:=(a++b).map Bi.iv) at_upd rfl (by rw [<-List.map_append,<-List.map_append];exact All2.imms ..) ⟨by omega,by omega⟩,by omega,fun q hq=>at_upd⟩
 have b4:(op==4)=false:=op_beq h4
 rw [if_neg h4]
 rcases Classical.em (op=7) with rfl|h7
 ·have b7:((7:Int)==7)=true:=rfl
  rw [if_pos rfl]
  have h507:=ret507 (b:=a) (by omega) n
  refine Cal.of (fn:=Go.Proofs.Tryz.f189) (by kernel_rfl) rfl rfl ?_
  refine BN ?_
  refine D.elemAt (Eq.trans at_upd hK) hkml hka rfl rfl ⟨rfl,rfl⟩ rfl rfl rfl rfl rfl ?_
  refine BD ?_
  refine D.skip (by kernel_rfl) ?_
  refine BN ?_
  exact W.retFin1 rfl ⟨Rdx.imm ..,by omega,fun q hq=>at_upd⟩
 have b7:(op==7)=false:=op_beq h7
 rw [if_neg h7]
 rcases Classical.em (op=8\/op=9\/op=10) with h8|h8
 ·rw [if_pos h8]
  have h508:=ret508 (b:=a) (by omega) hai.ok (op:=op) (n:=n) (f:=f) (name:=name) (calcs:=calcs) (kids:=kids) (fun e=>by have:=hni.one (.inl e);omega)
  rcases h8 with rfl|rfl|rfl
  ·have b8:((8:Int)==8)=true:=rfl
   refine Cal.of (fn:=Go.Proofs.Tryz.f189) (by kernel_rfl) rfl rfl ?_
   refine BN ?_
   refine D.elemAt (Eq.trans at_upd hK) hkml hka rfl rfl ⟨rfl,rfl⟩ rfl rfl rfl rfl rfl ?_
   refine BD ?_
   refine D.skip (by kernel_rfl) ?_
   refine BN ?_
   exact W.retFin1 rfl ⟨Rdx.imm ..,by omega,fun q hq=>at_upd⟩
  ·have b8:((9:Int)==8)=false:=rfl
   have b9:((9:Int)==9)=true:=rfl
   refine Cal.of (fn:=Go.Proofs.Tryz.f189) (by kernel_rfl) rfl rfl ?_
   refine BN ?_
   refine D.elemAt (Eq.trans at_upd hK) hkml hka rfl rfl ⟨rfl,rfl⟩ rfl rfl rfl rfl rfl ?_
   refine BD ?_
   refine D.skip (by kernel_rfl) ?_
   refine BN ?_
   exact W.retFin1 rfl ⟨Rdx.imm ..,by omega,fun q hq=>at_upd⟩
  ·have b8:((10:Int)==8)=false:=rfl
   have b9:((10:Int)==9)=false:=rfl
   have b10:((10:Int)==10)=true:=rfl
   refine Cal.of (fn:=Go.Proofs.Tryz.f189) (by kernel_rfl) rfl rfl ?_
   refine BN ?_
   refine D.elemAt (Eq.trans at_upd hK) hkml hka rfl rfl ⟨rfl,rfl⟩ rfl rfl rfl rfl rfl ?_
   refine BD ?_
   refine D.skip (by kernel_rfl) ?_
   refine BN ?_
   exact W.retFin1 rfl ⟨Rdx.imm ..,by omega,fun q hq=>at_upd⟩
 have b8:(op==8)=false:=op_beq fun e=>h8 (.inl e)
 have b9:(op==9)=false:=op_beq fun e=>h8 (.inr (.inl e))
 have b10:(op==10)=false:=op_beq fun e=>h8 (.inr (.inr e))
 rw [if_neg h8]
 rcases Classical.em (op=11) with rfl|h11
 ·have b11:((11:Int)==11)=true:=rfl
  rw [if_pos rfl]
  have h509:=ret509 (b:=a) (by omega) hai.ok hai.tin (op:=11) (n:=n) (f:=f) (name:=name) (calcs:=calcs) (kids:=kids)
  refine Cal.of (fn:=Go.Proofs.Tryz.f189) (by kernel_rfl) rfl rfl ?_
  refine BN ?_
  refine D.elemAt (Eq.trans at_upd hK) hkml hka rfl rfl ⟨rfl,rfl⟩ rfl rfl rfl rfl rfl ?_
  refine BD ?_
  refine D.skip (by kernel_rfl) ?_
  refine BN ?_
  exact W.retFin1 rfl ⟨Rdx.imm ..,by omega,fun q hq=>at_upd⟩
 have b11:(op==11)=false:=op_beq h11
 obtain rfl:op=12:=by omega
 have b12:((12:Int)==12)=true:=rfl
 rw [if_neg h11,if_pos rfl]
 obtain ⟨b,hb1⟩:=at_lt (show 1 < ks.length by rw [hkl,hkn,if_neg (by omega),if_pos (.inr (.inl rfl))];omega)
 have hgb:ks.getD 1 []=b:=by rw [List.getD_eq_getElem?_getD,hb1];rfl
 have hbl:=(hks b (List.mem_of_getElem? hb1)).2
 have hkb:=kid_at hb1
 rw [hgb]
 obtain ⟨c,hc⟩:=at_lt (show 0 < calcs.length by rw [hcn,if_neg (by omega),if_pos (.inr (.inl rfl))];omega)
 have hgc:calcs.getD 0 Trm.zz=c:=by rw [List.getD_eq_getElem?_getD,hc];rfl
 rw [hgc]
 have h510:=ret510 (a:=a) (b:=b) hal hbl (op:=12) (n:=n) (f:=f) (name:=name) (calcs:=calcs) (kids:=kids) hc (hcs c (List.mem_of_getElem? hc)).1
 refine Cal.of (fn:=Go.Proofs.Tryz.f189) (by kernel_rfl) rfl rfl ?_
 refine BN ?_
 refine D.elemAt (Eq.trans at_upd hK) hkml hka rfl rfl ⟨rfl,rfl⟩ rfl rfl rfl rfl rfl ?_
 refine BD ?_
 refine D.elemAt (Eq.trans at_upd hK) hkml hkb rfl rfl ⟨rfl,rfl⟩ rfl rfl rfl rfl rfl ?_
 refine BD ?_
 refine D.skip (by kernel_rfl) ?_
 refine BN ?_
 exact W.retFin1 rfl ⟨Rdx.imm ..,by omega,fun q hq=>at_upd⟩
end
end Go.Abs

/- The reference: the items of an expression, one by one. -/
open Go Go.Abs
namespace Go.Abs
set_option maxRecDepth 100000
set_option maxHeartbeats 4000000
theorem fm_step {g:Bi->Option Bi} {b:List Bi} {i:Nat} {x:Bi} (hx:b[i]? = some x) {is:Bool} {y:Bi} (hg:g x=if is then some y else none):((b.take (i+1)).filterMap g).map Bi.iv=((b.take i).filterMap g).map Bi.iv++(if is then [y.iv] else []):=by
 rw [List.take_add_one,hx,List.filterMap_append,List.map_append]
 congr 1
 simp only [Option.toList,List.filterMap_cons,hg]
 cases is<;>rfl
theorem fm_take_len {g:Bi->Option Bi} {b:List Bi} {i:Nat}:(((b.take i).filterMap g).map Bi.iv).length<=i:=by
 rw [List.length_map]
 have:=List.length_filterMap_le g (b.take i)
 rw [List.length_take] at this
 omega
section
variable {p:Pgm} {wo:Nat} {G:Nat->Obj} {nx:Nat} {sb db:Str->List Bi}
theorem cal489c {op n f:Int} {name:Str} {calcs:List Trm} {kids:List Exp} {o:Nat} {ks:List (List Bi)} (hK:KidRow o ks G) (ho:o < nx) (hb:NodeM p.srcs (p.defs.map Dfn.name) (.mk op name n f calcs kids)) (hkl:ks.length=kids.length) (hks:∀ b∈ks,BagIs b/\b.length<=1000)
  (hop:op=5\/op=6\/op=13\/op=14\/op=15) :
  Cal CC 189 [.ptr wo 0, .imm (Exp.mk op name n f calcs kids).iv, .row o ks.length] G nx fun v G' nx'=>OutB (nodeF sb db op name n f calcs ks) nx v G' nx' G:=by
 have hkn:kids.length=(if op=1\/op=2\/op=3 then 0 else if op=4\/op=12\/op=13\/op=14 then 2 else 1):=hb.kids
 have hcn:calcs.length=(if op=6 then 2 else if op=5\/op=12\/op=13 then 1 else 0):=hb.calcs
 have hni:NIs op n:=hb.ni
 have hcs:∀ c∈calcs,okT c=true/\nT c=true:=hb.cs
 have h0:∃ a,ks[0]? = some a:=by
  refine at_lt ?_
  rw [hkl,hkn,if_neg (by omega)]
  split<;>omega
 obtain ⟨a,ha⟩:=h0
 have hga:ks.getD 0 []=a:=by rw [List.getD_eq_getElem?_getD,ha];rfl
 obtain ⟨hai,hal⟩:=hks a (List.mem_of_getElem? ha)
 have hka:=kid_at ha
 have b1:(op==1)=false:=op_beq (by omega)
 have b2:(op==2)=false:=op_beq (by omega)
 have b3:(op==3)=false:=op_beq (by omega)
 have b4:(op==4)=false:=op_beq (by omega)
 have b7:(op==7)=false:=op_beq (by omega)
 have b8:(op==8)=false:=op_beq (by omega)
 have b9:(op==9)=false:=op_beq (by omega)
 have b10:(op==10)=false:=op_beq (by omega)
 have b11:(op==11)=false:=op_beq (by omega)
 have b12:(op==12)=false:=op_beq (by omega)
 unfold nodeF
 rw [if_neg (show ¬ op=1 by omega),if_neg (show ¬ op=2 by omega),if_neg (show ¬ op=3 by omega),if_neg (show ¬ op=4 by omega),if_neg (show ¬ op=7 by omega),if_neg (show ¬ (op=8\/op=9\/op=10) by omega),if_neg (show ¬ op=11 by omega),if_neg (show ¬ op=12 by omega),hga]
 generalize hB:ks.getD 1 []=b
 have hkb:op=13\/op=14->ks[1]? = some b/\b.length<=1000:=fun h=>by
  obtain ⟨b',hb'⟩:=at_lt (show 1 < ks.length by rw [hkl,hkn,if_neg (by omega),if_pos (by omega)];omega)
  obtain rfl:b'=b:=by rw [<-hB,List.getD_eq_getElem?_getD,hb'];rfl
  exact ⟨hb',(hks b' (List.mem_of_getElem? hb')).2⟩
 have hc0:op=5\/op=6\/op=13->∃ c,calcs[0]? = some c/\calcs.getD 0 Trm.zz=c/\okT c=true:=fun h=>by
  obtain ⟨c,hc⟩:=at_lt (show 0 < calcs.length by
   rw [hcn]
   rcases h with rfl|rfl|rfl<;>decide)
  exact ⟨c,hc,by rw [List.getD_eq_getElem?_getD,hc];rfl,(hcs c (List.mem_of_getElem? hc)).1⟩
 have hc1:op=6->∃ c,calcs[1]? = some c/\calcs.getD 1 Trm.zz=c/\okT c=true:=fun h=>by
  obtain ⟨c,hc⟩:=at_lt (show 1 < calcs.length by rw [hcn,if_pos h];omega)
  exact ⟨c,hc,by rw [List.getD_eq_getElem?_getD,hc];rfl,(hcs c (List.mem_of_getElem? hc)).1⟩
 clear hB hb hks hkn hcn hcs
 unfold KidRow at hK
 have hkml:=kid_len ks
 have ham:(a.map Bi.iv).length=a.length:=List.length_map ..
 refine Cal.of (fn:=Go.Proofs.Tryz.f189) (by kernel_rfl) rfl rfl ?_
 refine BN ?_
 refine W.loop (X:=Nat×AV) (fun s=>[(2, .row o ks.length),(4, .ptr (nx+0) 0),(7,s.2),(8, .imm (.int .i64 s.1))])
  (fun s nx1 G1=>nx+4<=nx1/\s.1<=a.length/\G1 (nx+0) = .box ((Exp.mk op name n f calcs kids).iv.cells.map .imm) false/\Own 169 4 (nx+1) nx1 (((a.take s.1).filterMap (filtB op n calcs b)).map Bi.iv) G1 s.2/\∀ q,q < nx->G1 q=G q)
  (fun s=>a.length-s.1) (0, .nils) .auto ⟨by omega,Nat.zero_le _,at_upd, .nil ..,fun q hq=>at_upd⟩ ?_
 rintro ⟨i,w⟩ nx1 G1 ⟨hnx,hi,g0,hO,hG1⟩
 dsimp only at hi hO ⊢
 have hK1:=(hG1 o ho).trans hK
 refine BN ?_
 refine R.elemAt (Eq.trans at_upd hK1) hkml hka rfl rfl ⟨rfl,rfl⟩ rfl rfl rfl rfl rfl ?_
 refine BN ?_
 refine W.cond rfl (fun h1=>?_) (fun h1=>?_)
 ·have hlt:i < a.length:=by have:=of_decide_eq_true h1;rw [ham] at this;omega
  obtain ⟨x,hx⟩:=at_lt hlt
  have hxi:=bag_at hx
  have hmu:a.length-(i+1) < a.length-i:=by omega
  have hfl:=fm_take_len (g:=filtB op n calcs b) (b:=a) (i:=i)
  have hst:=fun is y=>fm_step (g:=filtB op n calcs b) hx (is:=is) (y:=y)
  refine BN ?_
  refine R.elemAt (Eq.trans at_upd hK1) hkml hka rfl rfl ⟨rfl,rfl⟩ rfl rfl rfl rfl rfl ?_
  obtain ⟨⟨xa,xk,xv⟩,xn⟩:=x
  refine BN ?_
  refine W.join (X:=Bool×Bi) (fun s=>[(2, .row o ks.length),(4, .ptr (nx+0) 0),(7,w),(8, .imm (.int .i64 i)),(9, .ptr (nx1+6+6) 0),(10, .imm (.bool s.1))])
   (fun s nx' G'=>nx1+14<=nx'/\G' (nx1+6+6) = .box [.imm (.int .i64 s.2.r.a), .imm (.int .i64 s.2.r.k), .imm (.int .i64 s.2.r.v), .imm (.int .i64 s.2.n)] false/\(∀ q,q < nx1->G' q=G1 q)/\filtB op n calcs b ⟨⟨xa,xk,xv⟩,xn⟩=if s.1 then some s.2 else none) ?_ ?_
  ·have hz:∀ {i:Nat} {c:Trm},calcs[i]? = some c->(Trm.ivs calcs)[((i:Nat):Int).toNat]? = some c.iv:=fun {i c} hc=>by rw [Trm.ivs_map,Int.toNat_natCast,List.getElem?_map,hc];rfl
   rcases Classical.em (op=5) with rfl|o5
   ·have b5:((5:Int)==5)=true:=rfl
    obtain ⟨c,hc,hgc,hct⟩:=hc0 (.inl rfl)
    have h511:=ret511 ⟨xa,xk,xv⟩ 0 c hct
    have hcs':=fun _:Unit=>hz hc
    clear hz
    obtain ⟨cop,cn,cks⟩:=c
    generalize hcz:calcZ ⟨xa,xk,xv⟩ 0 (.mk cop cn cks)=cz at *
    refine BN ?_
    refine D.op0 (O.addrL (u:=Trm.iv (.mk cop cn cks)) rfl rfl rfl (by decide) (hcs' ()) rfl) rfl rfl ?_
    have hcs:=hcs' ()
    refine BD ?_
    refine D.skip (by kernel_rfl) ?_
    exact W.skipCut (cz != 0,⟨⟨xa,xk,xv⟩,xn⟩) .auto ⟨by omega,at_upd,fun q hq=>at_upd,by unfold filtB;rw [if_pos rfl,hgc,hcz]⟩
   have b5:(op==5)=false:=op_beq o5
   rcases Classical.em (op=6) with rfl|o6
   ·have b6:((6:Int)==6)=true:=rfl
    obtain ⟨c,hc,hgc,hct⟩:=hc0 (.inr (.inl rfl))
    obtain ⟨d,hd,hgd,hdt⟩:=hc1 rfl
    have h511:=ret511 ⟨xa,xk,xv⟩ 0 c hct
    have h511d:=ret511 ⟨xa,xk,xv⟩ 0 d hdt
    have hcs':=fun _:Unit=>hz hc
    have hds':=fun _:Unit=>hz hd
    clear hz
    obtain ⟨cop,cn,cks⟩:=c
    obtain ⟨dop,dn,dks⟩:=d
    generalize hcz:calcZ ⟨xa,xk,xv⟩ 0 (.mk cop cn cks)=cz at *
    generalize hdz:calcZ ⟨xa,xk,xv⟩ 0 (.mk dop dn dks)=dz at *
    refine BN ?_
    refine D.op0 (O.addrL (u:=Trm.iv (.mk cop cn cks)) rfl rfl rfl (by decide) (hcs' ()) rfl) rfl rfl ?_
    have hcs:=hcs' ()
    refine BD ?_
    clear hcs
    refine D.op0 (O.addrL (u:=Trm.iv (.mk dop dn dks)) rfl rfl rfl (by decide) (hds' ()) rfl) rfl rfl ?_
    have hds:=hds' ()
    refine BD ?_
    refine D.skip (by kernel_rfl) ?_
    exact W.skipCut (true,⟨⟨xa,cz,dz⟩,xn⟩) .auto ⟨by omega,at_upd,fun q hq=>at_upd,by unfold filtB;rw [if_neg o5,if_pos rfl,hgc,hgd,hcz,hdz];rfl⟩
   have b6:(op==6)=false:=op_beq o6
   rcases Classical.em (op=13) with rfl|o13
   ·have b13:((13:Int)==13)=true:=rfl
    obtain ⟨hkb1,hbl⟩:=hkb (.inl rfl)
    have hkb2:=kid_at hkb1
    have hLA:=last_is b ⟨xa,xk,xv⟩
    have h512:=ret512 (b:=b) (by omega) ⟨xa,xk,xv⟩
    generalize lastI b ⟨xa,xk,xv⟩ b.length=li at *
    rcases hLA with ⟨rfl,hu⟩|⟨j,⟨⟨ya,yk,yv⟩,yn⟩,rfl,hyj,hu⟩
    ·have c3:decide ((-1:Int)>=0)=false:=rfl
     refine BN ?_
     refine D.elemAt (Eq.trans at_upd hK1) hkml hkb2 rfl rfl ⟨rfl,rfl⟩ rfl rfl rfl rfl rfl ?_
     refine BD ?_
     refine D.done (by kernel_rfl) ?_
     refine BN ?_
     exact W.skipCut (false,⟨⟨xa,xk,xv⟩,xn⟩) .auto ⟨by omega,at_upd,fun q hq=>at_upd,by unfold filtB;rw [if_neg o5,if_neg o6,if_pos rfl,hu];rfl⟩
    ·have c3:decide ((j:Int)>=0)=true:=decide_eq_true (by omega)
     have hyi:=bag_at hyj
     obtain ⟨c,hc,hgc,hct⟩:=hc0 (.inr (.inr rfl))
     have h511:=ret511 ⟨xa,xk,xv⟩ yv c hct
     have hcs':=fun _:Unit=>hz hc
     clear hz
     obtain ⟨cop,cn,cks⟩:=c
     generalize hcz:calcZ ⟨xa,xk,xv⟩ yv (.mk cop cn cks)=cz at *
     refine BN ?_
     refine D.elemAt (Eq.trans at_upd hK1) hkml hkb2 rfl rfl ⟨rfl,rfl⟩ rfl rfl rfl rfl rfl ?_
     refine BD ?_
     refine D.done (by kernel_rfl) ?_
     refine BN ?_
     refine D.op0 (O.addrL (u:=Trm.iv (.mk cop cn cks)) rfl rfl rfl (by decide) (hcs' ()) rfl) rfl rfl ?_
     have hcs:=hcs' ()
     refine BD ?_
     refine D.elemAt (Eq.trans at_upd hK1) hkml hkb2 rfl rfl ⟨rfl,rfl⟩ rfl rfl rfl rfl rfl ?_
     refine BD ?_
     refine D.skip (by kernel_rfl) ?_
     exact W.skipCut (true,⟨⟨xa,xk,cz⟩,xn⟩) .auto ⟨by omega,at_upd,fun q hq=>at_upd,by unfold filtB;rw [if_neg o5,if_neg o6,if_pos rfl,hu];simp only;rw [hgc,hcz];rfl⟩
   have b13:(op==13)=false:=op_beq o13
   rcases Classical.em (op=14) with rfl|o14
   ·have b14:((14:Int)==14)=true:=rfl
    obtain ⟨hkb1,hbl⟩:=hkb (.inr rfl)
    have hkb2:=kid_at hkb1
    have h513:=ret513 (b:=b) (by omega) ⟨xa,xk,xv⟩ n
    generalize hN:nearF b ⟨xa,xk,xv⟩ n=N at *
    refine BN ?_
    refine D.elemAt (Eq.trans at_upd hK1) hkml hkb2 rfl rfl ⟨rfl,rfl⟩ rfl rfl rfl rfl rfl ?_
    refine BD ?_
    refine D.skip (by kernel_rfl) ?_
    refine W.skipCut ((((N.map Bi.iv).length:Int)==0),⟨⟨xa,xk,xv⟩,xn⟩) .auto ⟨by omega,at_upd,fun q hq=>at_upd,?_⟩
    unfold filtB
    rw [if_neg o5,if_neg o6,if_neg o13,if_pos rfl,hN]
    cases N with
    |nil=>rfl
    |cons y r=>
     have:(((y::r).map Bi.iv).length:Int)≠0:=by simp only [List.map_cons,List.length_cons];omega
     rw [op_beq this];rfl
   have b14:(op==14)=false:=op_beq o14
   obtain rfl:op=15:=by omega
   refine BN ?_
   exact W.skipCut (true,⟨⟨xa,xk,xv⟩,1⟩) .auto ⟨by omega,at_upd,fun q hq=>at_upd,by unfold filtB;rw [if_neg o5,if_neg o6,if_neg o13,if_neg o14];rfl⟩
  ·rintro ⟨is,⟨⟨ya,yk,yv⟩,yn⟩⟩ nx' G' ⟨hn',gx,hG',hf⟩
   dsimp only at gx hf ⊢
   have hst:=hst _ _ hf
   have hO':=hO.fr (G':=G') (hi':=nx') (by omega) (fun q _ h2=>hG' q h2)
   have g0':=(hG' (nx+0) (by omega)).trans g0
   have hGn:∀ q,q < nx->G' q=G q:=fun q hq=>(hG' q (by omega)).trans (hG1 q hq)
   clear hO g0 hG' hK1 hf
   cases is with
   |false=>
    rw [if_neg (by decide),List.append_nil] at hst
    refine BN ?_
    exact W.skipLop (i+1,w) hmu .auto ⟨by omega,hlt,g0',by rw [hst];exact hO'.up (by omega),hGn⟩
   |true=>
    rw [if_pos rfl] at hst
    refine BN ?_
    refine R.app1 (z := .agg [.int .i64 ya, .int .i64 yk, .int .i64 yv, .int .i64 yn]) hO' at_upd (by simp only [most];omega) fun v' G2 ho2 hG2=>?_
    refine BN ?_
    refine W.skipLop (i+1,v') hmu .auto ⟨by omega,hlt,(hG2 _ (by omega)).trans (Eq.trans at_upd g0'),?_,fun q hq=>(hG2 _ (by omega)).trans (Eq.trans at_upd (hGn q hq))⟩
    show Own _ _ _ _ (((a.take (i+1)).filterMap (filtB op n calcs b)).map Bi.iv) _ _
    rw [hst]
    exact ho2.up (by omega)
 ·have hge:a.length<=i:=by have:=of_decide_eq_false h1;rw [ham] at this;omega
  rw [List.take_of_length_le hge] at hO
  refine BN ?_
  exact W.retFin1 rfl ⟨hO.rdx.frame (fun _ _=>rfl) (fun q hq=>⟨by omega,by omega⟩),by omega,hG1⟩
theorem cal489 {S E:List (List Bi)} {so dd:Nat} (hp:p.Fits) (hpr:progR p=true) (hW:WorldIs p S E wo so dd G) (hS:S.length=p.srcs.length) (hE:E.length=p.defs.length) (hlt:wo < nx/\so < nx/\dd < nx) {op n f:Int} {name:Str} {calcs:List Trm} {kids:List Exp} {kv:AV} {lo hi:Nat} {ks:List (List Bi)} (hb:NodeM p.srcs (p.defs.map Dfn.name) (.mk op name n f calcs kids))
  (hO:Own 77 1 lo hi (ks.map bagIV) G kv) (hh:hi<=nx) (hkl:ks.length=kids.length) (hks:∀ b∈ks,BagIs b/\b.length<=1000) (hds:∀ b∈E,b.length<=1000) :
  Cal CC 189 [.ptr wo 0, .imm (Exp.mk op name n f calcs kids).iv,kv] G nx fun v G' nx'=>OutB (nodeF (fun x=>S.getD (idxN p.srcs x) []) (fun x=>E.getD (idxN (p.defs.map Dfn.name) x) []) op name n f calcs ks) nx v G' nx' G:=by
 have h15:1<=op/\op<=15:=hb.op
 by_cases h3:op=1\/op=2\/op=3
 ·have hkn:kids.length=(if op=1\/op=2\/op=3 then 0 else if op=4\/op=12\/op=13\/op=14 then 2 else 1):=hb.kids
  rw [if_pos h3] at hkn
  obtain rfl:ks=[]:=List.eq_nil_of_length_eq_zero (by omega)
  exact cal489a hp hpr hW hS hE hlt hb h3 hds
 ·have hkn:kids.length=(if op=1\/op=2\/op=3 then 0 else if op=4\/op=12\/op=13\/op=14 then 2 else 1):=hb.kids
  rw [if_neg h3] at hkn
  have hne:ks.length≠0:=by
   rw [hkl,hkn]
   split<;>omega
  rcases hO with ⟨h,_⟩|⟨o,_,ho2,rfl,hG⟩
  ·rw [List.map_eq_nil_iff] at h
   rw [h] at hne;exact absurd rfl hne
  ·rw [List.length_map]
   by_cases hl:op=5\/op=6\/op=13\/op=14\/op=15
   ·exact cal489c hG (by omega) hb hkl hks hl
   ·exact cal489b hG (by omega) hb hkl hks (by omega)
end
end Go.Abs

/- The answers of a program, by definition. -/
open Go Go.Abs
namespace Go.Abs
set_option maxRecDepth 100000
theorem fits_len {b:List Bi} (h:fitsB b=true):b.length<=300:=by
 unfold fitsB at h
 split at h
 ·cases h
 ·rename_i hc
  have:=of_decide_eq_false (Bool.eq_false_iff.2 hc);omega
abbrev sB (p:Pgm) (S:List (List Bi)):Str->List Bi:=fun x=>S.getD (idxN p.srcs x) []
abbrev dB (p:Pgm) (E:List (List Bi)):Str->List Bi:=fun x=>E.getD (idxN (p.defs.map Dfn.name) x) []
theorem getD_bags {P:List Bi->Prop} (h0:P []) {L:List (List Bi)} (h:∀ b∈L,P b) (i:Nat):P (L.getD i []):=by
 rw [List.getD_eq_getElem?_getD]
 cases hc:L[i]? with
 |none=>exact h0
 |some b=>exact h b (List.mem_of_getElem? hc)
def foldO {α β:Type} (f:α->β->Option α):List β->α->Option α
 |[],a=>some a
 |x::l,a=>(f a x).bind (foldO f l)
def evalD (p:Pgm) (S:List (List Bi)) (t:Nat) (E:List (List Bi)) (d:Nat):Option (List (List Bi)):=(evalF (sB p S) (dB p E) t (expAt p d)).map fun b=>E.set d b
noncomputable def firstT (p:Pgm) (gr:List Nat):Nat:=if ringB (tosR p) gr then 0 else 200
def topsL (first:Nat):List Nat:=(List.range (201-first)).map (first + ·)
def topM (p:Pgm) (S:List (List Bi)) (gr:List Nat) (E:List (List Bi)) (t:Nat):Option (List (List Bi)):=foldO (evalD p S t) gr E
noncomputable def grpM (p:Pgm) (S:List (List Bi)) (E:List (List Bi)) (gr:List Nat):Option (List (List Bi)):=foldO (topM p S gr) (topsL (firstT p gr)) E
noncomputable def meanM (p:Pgm) (S:List (List Bi)):Option (List (List Bi)):=foldO (grpM p S) (orderR (tosR p)) (List.replicate p.defs.length [])
def srcsM (p:Pgm) (l:List Evt):List (List Bi):=(List.range p.srcs.length).map fun s=>saysB l (s:Nat)
theorem tops_at {first j:Nat} (h:first+j<=200):(topsL first).drop j=(first+j)::(topsL first).drop (j+1):=by
 have hl:(topsL first).length=201-first:=by simp [topsL]
 rw [List.drop_eq_getElem_cons (by omega)]
 congr 1
 simp [topsL]
theorem drop_at {α:Type} {l:List α} {i:Nat} {x:α} (h:l[i]? = some x):l.drop i=x::l.drop (i+1):=by
 obtain ⟨h1,rfl⟩:=List.getElem?_eq_some_iff.1 h
 exact List.drop_eq_getElem_cons h1
def BagsIs (E:List (List Bi)):Prop:=∀ b∈E,BagIs b/\b.length<=1000
theorem bags_set {E:List (List Bi)} (h:BagsIs E) {b:List Bi} (hb:BagIs b/\b.length<=1000) (d:Nat):BagsIs (E.set d b):=fun x hx=>by
 rcases List.mem_or_eq_of_mem_set hx with hx|rfl
 ·exact h x hx
 ·exact hb
theorem says_is {l:List Evt} (hok:∀ x∈l,x.Ok) (ht:∀ x∈l,Tin x.r.a) (s:Int):BagIs (saysB l s)/\(saysB l s).length<=l.length:=by
 have hl:(saysB l s).length<=(saidB l s).length:=by
  unfold saysB ofF
  refine Nat.le_trans (List.length_filter_le ..) ?_
  have:=mergeB_len (sortedF (saidB l s)) []
  rw [show (sortedF (saidB l s)).length=(saidB l s).length from sortF_len _ _] at this
  simpa [mergeB] using this
 refine ⟨⟨ofF_srt _,ofF_ok (said_ok hok s),fun y hy=>?_⟩,Nat.le_trans hl (said_len l s)⟩
 have hy:=(ofF_mem (said_ok hok s)).1 hy
 obtain ⟨z,hz,e⟩:=cntZ_has (b:=saidB l s) (r:=y.r) fun h0=>hy.1 (by rw [hy.2,h0];rfl)
 unfold saidB at hz
 obtain ⟨x,hx,rfl⟩:=List.mem_map.1 hz
 rw [<-e]
 exact ht x (List.mem_filter.1 hx).1
end Go.Abs

/- The reference: what expressions come to. -/
open Go Go.Abs
namespace Go.Abs
set_option maxRecDepth 100000
set_option maxHeartbeats 4000000
def EvalOut (r:Option (List Bi)) (v:AV):Prop:=match r with
 |some b=>v = .imm (.tup [bagIV b, .bool true])
 |none=>v = .tup [.nils, .imm (.bool false)]\/∃ u,v = .imm (.tup [u, .bool false])
theorem adds_len:∀ (l o:List Bi),(l.foldl addB o).length<=o.length+l.length
 |[],o=>Nat.le_refl _
 |x::l,o=>by
  have h1:=adds_len l (addB o x)
  have h2:=addB_len o x
  rw [List.foldl_cons,List.length_cons];omega
theorem fm_len {g:Bi->Option Bi}:∀ b:List Bi,(b.filterMap g).length<=b.length
 |[]=>Nat.le_refl _
 |x::b=>by
  have:=fm_len (g:=g) b
  rw [List.filterMap_cons,List.length_cons]
  split
  ·omega
  ·rw [List.length_cons];omega
theorem pairs_len {n:Int} {c:Trm} {b:List Bi} (hb:b.length<=1000):∀ a:List Bi,(pairsF n c a b).length<=a.length*1000
 |[]=>Nat.le_refl _
 |y::a=>by
  have h1:=pairs_len (n:=n) (c:=c) hb a
  have h2:(nearF b y.r n).length<=b.length:=List.length_filter_le ..
  unfold pairsF at h1 ⊢
  rw [List.flatMap_cons,List.length_append,List.length_map,List.length_cons];omega
theorem node_len {sb db:Str->List Bi} {op n f:Int} {name:Str} {calcs:List Trm} {ks:List (List Bi)} (hs:(sb name).length<=1000) (hd:(db name).length<=1000) (hk:∀ i,(ks.getD i []).length<=1000):(nodeF sb db op name n f calcs ks).length<=1000000:=by
 have k0:=hk 0
 have k1:=hk 1
 unfold nodeF
 generalize ks.getD 0 []=a at *
 generalize ks.getD 1 []=b at *
 repeat' split
 ·omega
 ·omega
 ·unfold laterF;rw [List.length_map];omega
 ·rw [List.length_append];omega
 ·unfold laterF;rw [List.length_map];omega
 ·unfold foldsF
  have:=adds_len (a.map (foldB op n f a)) []
  rw [List.length_map,List.length_nil] at this;omega
 ·unfold restsF
  have:=adds_len ((a.filter (restP n a)).map (restB n f a)) []
  rw [List.length_map,List.length_nil] at this
  have h2:(a.filter (restP n a)).length<=a.length:=List.length_filter_le ..
  omega
 ·have:=pairs_len (n:=n) (c:=calcs.getD 0 Trm.zz) k1 a;omega
 ·exact Nat.le_trans (fm_len _) (by omega)
theorem evals_snoc {sb db:Str->List Bi} {top:Int} {x:Exp}:∀ (l:List Exp),evalsF sb db top (l++[x])=match evalsF sb db top l with
  |none=>none
  |some ks=>match evalF sb db top x with
   |none=>none
   |some k=>some (ks++[k])
 |[]=>by
  rw [List.nil_append,evalsF,evalsF]
  cases evalF sb db top x<;>simp [evalsF]
 |y::l=>by
  rw [List.cons_append,evalsF,evalsF,evals_snoc l]
  cases evalF sb db top y with
  |none=>rfl
  |some k=>
   simp only
   cases evalsF sb db top l with
   |none=>rfl
   |some ks=>
    simp only
    cases evalF sb db top x<;>rfl
theorem evals_none {sb db:Str->List Bi} {top:Int} {x:Exp} {l:List Exp} (h:evalF sb db top x=none) (hx:x∈l):evalsF sb db top l=none:=by
 induction l with
 |nil=>cases hx
 |cons y l ih=>
  rw [evalsF]
  rcases List.mem_cons.1 hx with rfl|hx
  ·rw [h]
  ·rw [ih hx]
   cases evalF sb db top y<;>rfl
theorem ofF_len (l:List Bi):(ofF l).length<=l.length:=by
 unfold ofF
 refine Nat.le_trans (List.length_filter_le ..) ?_
 have:=mergeB_len (sortedF l) []
 rw [show (sortedF l).length=l.length from sortF_len _ _] at this
 simpa [mergeB] using this
theorem allEs_tk:∀ (l:List Exp) (i:Nat) {x:Exp},x∈allEs (l.take i)->x∈allEs l
 |[],i,x,h=>by rw [List.take_nil] at h;exact h
 |y::l,0,x,h=>by rw [List.take_zero,allEs] at h;cases h
 |y::l,i+1,x,h=>by
  rw [List.take_succ_cons,allEs] at h
  rw [allEs]
  rcases List.mem_append.1 h with h|h
  ·exact List.mem_append_left _ h
  ·exact List.mem_append_right _ (allEs_tk l i h)
theorem bags_of {ks:List (List Bi)} (h:∀ i,BagIs (ks.getD i [])/\fitsB (ks.getD i [])=true):∀ b∈ks,BagIs b/\b.length<=1000:=fun b hb=>by
 obtain ⟨i,hi⟩:=List.mem_iff_getElem?.1 hb
 have:=h i
 rw [List.getD_eq_getElem?_getD,hi] at this
 exact ⟨this.1,Nat.le_trans (fits_len this.2) (by decide)⟩
section
variable {p:Pgm} {S E:List (List Bi)} {wo so dd:Nat}
theorem cal461 (hp:p.Fits) (hpr:progR p=true) (hS:S.length=p.srcs.length) (hE:E.length=p.defs.length) (hBS:∀ b∈S,BagIs b/\b.length<=1000) (hBD:∀ b∈E,BagIs b/\b.length<=1000) {top:Int} (htop:0<=top/\top<=200):∀ (m:Nat) (e:Exp),(allE e).length<=m->(∀ x∈allE e,NodeM p.srcs (p.defs.map Dfn.name) x) ->
  ∀ {G:Nat->Obj} {nx:Nat},WorldIs p S E wo so dd G->wo < nx/\so < nx/\dd < nx ->
  Cal CC 161 [.ptr wo 0, .imm e.iv, .imm (.int .i64 top)] G nx fun v G' nx'=>EvalOut (evalF (sB p S) (dB p E) top e) v/\nx<=nx'/\∀ q,q < nx->G' q=G q
 |0, .mk op name n f calcs kids,h,_,_,_,_,_=>by rw [allE] at h;simp at h
 |m+1, .mk op name n f calcs kids,h,hN,G,nx,hW,hlt=>by
  have hb:=hN (.mk op name n f calcs kids) (by rw [allE];exact List.mem_cons_self ..)
  have hNk:∀ x∈allEs kids,NodeM p.srcs (p.defs.map Dfn.name) x:=fun x hx=>hN x (by rw [allE];exact List.mem_cons_of_mem _ hx)
  have hle:(allEs kids).length<=m:=by rw [allE,List.length_cons] at h;omega
  have hkm:(Exp.ivs kids).length=kids.length:=ivs_len kids
  have hnk:kids.length<=2:=hb.two_kids
  have ih:=fun e h1 h2 G nx=>@cal461 hp hpr hS hE hBS hBD top htop m e h1 h2 G nx
  have hsB:∀ x,BagIs (sB p S x)/\(sB p S x).length<=1000:=fun x=>getD_bags (P:=fun b=>BagIs b/\b.length<=1000) ⟨BagIs.nil,Nat.zero_le _⟩ hBS _
  have hdB:∀ x,BagIs (dB p E x)/\(dB p E x).length<=1000:=fun x=>getD_bags (P:=fun b=>BagIs b/\b.length<=1000) ⟨BagIs.nil,Nat.zero_le _⟩ hBD _
  rw [evalF]
  refine Cal.of (fn:=Go.Proofs.Tryz.f161) (by kernel_rfl) rfl rfl ?_
  refine BN ?_
  refine W.loop (X:=Nat×List (List Bi)×AV) (fun s=>[(0, .ptr wo 0),(2, .imm (.int .i64 top)),(4, .ptr (nx+0) 0),(8,s.2.2),(9, .imm (.int .i64 s.1))])
   (fun s nx1 G1=>nx+4<=nx1/\s.1<=kids.length/\evalsF (sB p S) (dB p E) top (kids.take s.1)=some s.2.1/\G1 (nx+0) = .box ((Exp.mk op name n f calcs kids).iv.cells.map .imm) false/\Own 77 1 (nx+1) nx1 (s.2.1.map bagIV) G1 s.2.2/\∀ o,o < nx->G1 o=G o)
   (fun s=>kids.length-s.1) (0,[], .nils) .auto ⟨by omega,Nat.zero_le _,by rw [List.take_zero];rfl,at_upd, .nil ..,fun o ho=>at_upd⟩ ?_
  rintro ⟨i,ks,kv⟩ nx1 G1 ⟨hnx,hi,hks,g0,hO,hG1⟩
  dsimp only at hi hks hO ⊢
  have hW1:WorldIs p S E wo so dd G1:=hW.frame (hG1 _ hlt.1) (hG1 _ hlt.2.1) (hG1 _ hlt.2.2)
  have hki:=evals_is (fun x=>(hsB x).1) (fun x=>(hdB x).1) htop.2 (kids.take i) (fun x hx=>hNk x (allEs_tk kids i hx)) hks
  refine BN ?_
  refine W.cond rfl (fun h2=>?_) (fun h2=>?_)
  ·have hlt2:i < kids.length:=by have:=of_decide_eq_true h2;omega
   obtain ⟨x,hx⟩:=at_lt hlt2
   have hxi:=ivs_at hx
   have hmu:kids.length-(i+1) < kids.length-i:=by omega
   have hxm:=List.mem_of_getElem? hx
   have hxl:=allE_kid hxm
   have hih:=fun nx2 (h:nx1<=nx2)=>ih x (by omega) (fun y hy=>hNk y (allEs_mem hxm hy)) G1 nx2 hW1 (by omega)
   have hsn:=evals_snoc (sb:=sB p S) (db:=dB p E) (top:=top) (x:=x) (kids.take i)
   rw [hks] at hsn
   have htk:kids.take (i+1)=kids.take i++[x]:=by rw [List.take_add_one,hx];rfl
   rw [<-htk] at hsn
   have hkl:(ks.map bagIV).length=i:=by rw [List.length_map,hki.1,List.length_take];omega
   obtain ⟨o',s',n',f',c',k'⟩:=x
   refine BN ?_
   refine R.callB rfl rfl rfl rfl rfl ((hih _ (by omega)).mono fun v G2 nx2 hv=>?_)
   obtain ⟨hv,hnx2,hG2⟩:=hv
   have g02:=(hG2 (nx+0) (by omega)).trans g0
   have hO2:=hO.fr (G':=G2) (hi':=nx2) (by omega) (fun q _ h2=>hG2 q (by omega))
   have hG2':∀ o,o < nx->G2 o=G o:=fun o ho=>(hG2 o (by omega)).trans (hG1 o ho)
   clear hO g0 hih
   cases he:evalF (sB p S) (dB p E) top (.mk o' s' n' f' c' k') with
   |none=>
    rw [he] at hv
    rw [evals_none he hxm]
    rcases hv with rfl|⟨u,rfl⟩
    all_goals
     have bt:(!false)=true:=rfl
     refine BN ?_
     exact W.retFin rfl rfl ⟨.inl rfl,by omega,hG2'⟩
   |some b=>
    rw [he] at hv hsn
    obtain rfl:v = .imm (.tup [bagIV b, .bool true]):=hv
    simp only at hsn
    have bf:(!true)=false:=rfl
    refine BN ?_
    refine R.app1 hO2 at_upd (by simp only [most];omega) fun v' G' ho' hG'=>?_
    refine BN ?_
    refine W.skipLop (i+1,ks++[b],v') hmu .auto ⟨by omega,hlt2,hsn,(hG' _ (by omega)).trans (Eq.trans at_upd g02),?_,fun o ho=>(hG' _ (by omega)).trans (Eq.trans at_upd (hG2' o ho))⟩
    rw [List.map_append]
    exact ho'.up (by omega)
  ·have hge:kids.length<=i:=by have:=of_decide_eq_false h2;omega
   rw [List.take_of_length_le hge] at hks
   rw [hks]
   simp only
   have hnl:=node_len (op:=op) (n:=n) (f:=f) (calcs:=calcs) (hsB name).2 (hdB name).2 (fun j=>Nat.le_trans (fits_len (hki.2 j).2) (by decide))
   have hno:=node_ok (op:=op) (n:=n) (f:=f) (calcs:=calcs) (hsB name).1.ok (hdB name).1.ok (fun j=>(hki.2 j).1.ok) hb.cs
   have hcal:=fun nx2 (h:nx1<=nx2)=>cal489 hp hpr hW1 hS hE (nx:=nx2) (by omega) hb hO (by omega) (by rw [hki.1,List.length_take];omega) (bags_of hki.2) (fun b hb=>(hBD b hb).2)
   generalize nodeF (sB p S) (dB p E) op name n f calcs ks=N at *
   have h488:=ret488 (l:=N) (by omega) hno
   have hol:=ofF_len N
   have h346:=ret346 (b:=ofF N) (by omega) 0 top
   have hcl:(cutB (ofF N) 0 top).length<=(ofF N).length:=List.length_filter_le ..
   have h490:=ret490 (b:=cutB (ofF N) 0 top) (by show _<=9223372036854775807;omega)
   refine BN ?_
   refine R.callB rfl rfl rfl rfl rfl ((hcal _ (by omega)).mono fun v G2 nx2 hv=>?_)
   obtain ⟨⟨ids,hids,hin⟩,hnx2,hG2⟩:=hv
   refine R.opU (O.callFz (ids:=ids++[]) rfl (peeks_one (hids 99) peeks_nil) h488 rfl) rfl ?_
   have hfz:∀ q,q < nx->updL G2 (frz (ids++[])) q=G q:=fun q hq=>by
    rw [updL_frz,if_neg fun hc=>?_]
    ·exact (hG2 q (by omega)).trans (hG1 q hq)
    ·have:=hin q (by simpa using hc);omega
   generalize cutB (ofF N) 0 top=U at *
   cases hfb:fitsB U with
   |true=>
    rw [hfb] at h490
    rw [if_pos rfl]
    refine BN ?_
    exact W.retFin rfl rfl ⟨rfl,by omega,hfz⟩
   |false=>
    rw [hfb] at h490
    rw [if_neg (by decide)]
    refine BN ?_
    exact W.retFin rfl rfl ⟨.inr ⟨_,rfl⟩,by omega,hfz⟩
end
end Go.Abs

/- What each node of a formed program is, with its terms. -/
open Go Go.Abs
namespace Go.Abs
set_option maxRecDepth 100000
theorem kidsOf_is {op n:Int} {other:Bool} {k:Nat} (h:kidsOf op n other=some k):(1<=op/\op<=5/\k=0/\(op=1 -> -1000000000<=n/\n<=1000000000))\/(6<=op/\op<=10/\k=2):=by
 unfold kidsOf at h
 split at h
 ·rename_i o
  split at h
  ·rename_i hi
   cases h
   unfold inR at hi
   rw [Bool.and_eq_true,decide_eq_true_eq,decide_eq_true_eq] at hi
   exact .inl ⟨by omega,by omega,rfl,fun _=>by omega⟩
  ·cases h
 ·split at h
  ·cases h;exact .inl ⟨by omega,by omega,rfl,fun _=>by omega⟩
  ·split at h
   ·split at h
    ·cases h;exact .inl ⟨by omega,by omega,rfl,fun _=>by omega⟩
    ·cases h
   ·split at h
    ·cases h;exact .inr ⟨by omega,by omega,rfl⟩
    ·cases h
mutual
theorem calcR_ok:∀ (c:Trm) (other:Bool) (depth left:Int),0<=calcR c other depth left->okT c=true/\nT c=true
 | .mk op n kids,other,depth,left,h=>by
  rw [calcR] at h
  split at h
  ·omega
  ·split at h
   ·omega
   ·rename_i k hk
    split at h
    ·omega
    ·rename_i hc
     have h2:=calcRs_ok kids other depth left 1 h
     have hl:kids.length=k:=Classical.byContradiction fun e=>hc (.inl e)
     have hn:op≠1->n=0:=fun e=>Classical.byContradiction fun e2=>hc (.inr ⟨e,e2⟩)
     have hr:decide (-1000000000<=n)=true/\decide (n<=1000000000)=true:=by
      rw [decide_eq_true_eq,decide_eq_true_eq]
      by_cases o:op=1
      ·rcases kidsOf_is hk with h|h
       ·exact h.2.2.2 o
       ·omega
      ·have:=hn o;omega
     rw [okT,nT,hr.1,hr.2,h2.2]
     refine ⟨?_,rfl⟩
     rcases kidsOf_is hk with ⟨a1,a2,_⟩|⟨a1,_,a3⟩
     ·rw [decide_eq_true a1,decide_eq_true a2];rfl
     ·rw [decide_eq_true a1,h2.1,hl,a3];simp
theorem calcRs_ok:∀ (l:List Trm) (other:Bool) (depth left n:Int),0<=calcRs l other depth left n->okTs l=true/\nTs l=true
 |[],_,_,_,_,_=>⟨rfl,rfl⟩
 |k::r,other,depth,left,n,h=>by
  rw [calcRs] at h
  split at h
  ·omega
  ·have h1:=calcR_ok k other (depth+1) (left-n) (by omega)
   have h2:=calcRs_ok r other depth left _ h
   rw [okTs,nTs,h1.1,h1.2,h2.1,h2.2]
   exact ⟨rfl,rfl⟩
end
def OkC (x:Exp):Prop:=∀ c∈x.calcs,okT c=true/\nT c=true
theorem okTs_mem:∀ {l:List Trm},okTs l=true->nTs l=true->∀ c∈l,okT c=true/\nT c=true
 |[],_,_,c,hc=>by cases hc
 |k::r,h1,h2,c,hc=>by
  rw [okTs,Bool.and_eq_true] at h1
  rw [nTs,Bool.and_eq_true] at h2
  rcases List.mem_cons.1 hc with rfl|hc
  ·exact ⟨h1.1,h2.1⟩
  ·exact okTs_mem h1.2 h2.2 c hc
mutual
theorem expR_calc (srcs defs:List Str) (ahead:Nat):∀ (e:Exp) (depth left:Int),0<=expR srcs defs ahead e depth left->∀ x∈allE e,OkC x
 | .mk op name n fold calcs kids,depth,left,h,x,hx=>by
  rw [expR] at h
  rw [allE] at hx
  cases hs:shapeR op with
  |none=>rw [hs] at h;simp at h
  |some s=>
   rw [hs] at h
   dsimp only at h
   split at h
   ·omega
   ·split at h
    ·rename_i hh
     split at h
     ·omega
     ·rename_i hcc
      rcases List.mem_cons.1 hx with he|hx
      ·rw [he]
       have:=calcRs_ok calcs (other op) 0 left 1 (by omega)
       exact okTs_mem this.1 this.2
      ·exact expRs_calc srcs defs ahead kids depth left _ h x hx
    ·omega
theorem expRs_calc (srcs defs:List Str) (ahead:Nat):∀ (l:List Exp) (depth left n:Int),0<=expRs srcs defs ahead l depth left n->∀ x∈allEs l,OkC x
 |[],_,_,_,_,x,hx=>by cases hx
 |k::r,depth,left,n,h,x,hx=>by
  rw [expRs] at h
  rw [allEs] at hx
  split at h
  ·omega
  ·rcases List.mem_append.1 hx with hx|hx
   ·exact expR_calc srcs defs ahead k (depth+1) (left-n) (by omega) x hx
   ·exact expRs_calc srcs defs ahead r depth left _ h x hx
end
theorem countL_calc (srcs names:List Str):∀ (ds:List Dfn) (i:Nat) (n:Int),0<=countL srcs names ds i n->∀ (j:Nat) (d:Dfn),ds[j]? = some d->∀ x∈allE d.exp,OkC x
 |[],_,_,_,j,d,hd=>by simp at hd
 |k::r,i,n,h,j,d,hd=>by
  rw [countL] at h
  split at h
  ·omega
  ·cases j with
   |zero=>
    simp at hd
    subst hd
    exact expR_calc srcs names i k.exp 1 (60-n) (by omega)
   |succ j=>exact countL_calc srcs names r (i+1) _ h j d (by simpa using hd)
theorem countR_calc {p:Pgm} (h:0<=countR p) {i:Nat} {d:Dfn} (hd:p.defs[i]? = some d):∀ x∈allE d.exp,OkC x:=by
 unfold countR at h
 split at h
 ·omega
 ·split at h
  ·exact countL_calc p.srcs (defNames p) p.defs 0 0 h i d hd
  ·omega
theorem NodeIs.nodeM {srcs defs:List Str} {ahead:Nat} {x:Exp} (h:NodeIs srcs defs ahead x) (hc:OkC x):NodeM srcs defs x:=by
 have hB:=h.nodeB
 obtain ⟨s,h1,h2⟩:=h
 unfold headIs at h2
 simp only [Bool.and_eq_true,beq_iff_eq,inR,decide_eq_true_eq] at h2
 obtain ⟨⟨⟨⟨⟨h3,h4⟩,_⟩,h6⟩,_⟩,h8⟩:=h2
 rcases ops15 x.op with h|h|h|h|h|h|h|h|h|h|h|h|h|h|h|h
 case inr.inr.inr.inr.inr.inr.inr.inr.inr.inr.inr.inr.inr.inr.inr=>
  obtain ⟨n1,n2,n3,n4,n5,n6,n7,n8,n9,n10,n11,n12,n13,n14,n15⟩:=h
  simp [shapeR,n1,n2,n3,n4,n5,n6,n7,n8,n9,n10,n11,n12,n13,n14,n15] at h1
 all_goals
  simp [shapeR,h] at h1
  subst h1
  simp only at h3 h4 h6
  exact ⟨⟨by omega,fun o=>by omega,fun o=>by omega⟩,by omega,fun o=>by omega,hB.2.2,fun o=>(hB.2.1 o).2,by rw [h4,h];rfl,by rw [h3,h];rfl,hc⟩
theorem progR_nodeM {p:Pgm} (h:progR p=true) {d:Nat} (hd:d < p.defs.length):∀ x∈allE (expAt p d),NodeM p.srcs (p.defs.map Dfn.name) x:=fun x hx=>by
 obtain ⟨y,hy⟩:=at_lt hd
 have hn:=progR_node h hd x hx
 rw [expAt_at hy] at hx
 exact hn.nodeM (countR_calc (progR_count h) hy x hx)
end Go.Abs
