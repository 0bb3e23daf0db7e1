/- The reference: the answers of a program. -/
import Derived.Test.YtbdoijpclmhbaaaGreatSo13
open Go Go.Abs
namespace Go.Abs
set_option maxRecDepth 100000
set_option maxHeartbeats 4000000
theorem All2.setBag:∀ {ws:List AV} {E:List (List Bi)},All2 BagV ws E->∀ (d:Nat) (b:List Bi),All2 BagV (ws.set d (.imm (bagIV b))) (E.set d b)
 |[],[],_,d,b=>by simp [All2]
 |w::ws,e::E,h,0,b=>⟨.inl rfl,h.2⟩
 |w::ws,e::E,h,d+1,b=>⟨h.1,All2.setBag h.2 d b⟩
theorem bags_nil:∀ n:Nat,All2 BagV (List.replicate n .nils) (List.replicate n [])
 |0=>trivial
 |n+1=>⟨.inr ⟨rfl,rfl⟩,bags_nil n⟩
section
variable {p:Pgm} {l:List Evt}
def KnownOut (p:Pgm) (S:List (List Bi)) (r:Option (List (List Bi))) (nx:Nat) (v:AV) (G':Nat->Obj) (nx':Nat):Prop:=match r with
 |some E=>∃ wo so dd,v = .tup [.ptr wo 0, .imm (.bool true)]/\WorldIs p S E wo so dd G'/\(nx<=dd/\dd < nx')/\BagsIs E/\E.length=p.defs.length
 |none=>v = .imm (.tup [.nilp, .bool false])
theorem cal400 (hp:p.Fits) (hpr:progR p=true) (hl:l.length<=60) (hok:∀ x∈l,x.Ok) (ht:∀ x∈l,Tin x.r.a) {G:Nat->Obj} {nx:Nat} :
  Cal CC 100 [.imm p.iv, .imm (evsIV l)] G nx fun v G' nx'=>KnownOut p (srcsM p l) (meanM p (srcsM p l)) nx v G' nx':=by
 have hg:=progR_good hpr
 have htl:(tosR p).length=p.defs.length:=hg.steps.2.1
 have h445:=ret445 hg hp
 have h53:=hg.ret53 hp
 obtain ⟨hgl,hgs⟩:=order_small hpr
 have hsm:=progR_small hpr
 have h6:=hsm.len
 have h4:=hsm.srcs
 have hdm:(p.defs.map Dfn.iv).length=p.defs.length:=List.length_map ..
 have hss:(p.srcs.map sv).length=p.srcs.length:=List.length_map ..
 have h460:=fun s=>ret460 (l:=l) (by omega) hok s
 unfold meanM
 generalize hgsE:orderR (tosR p)=gs at *
 have hgm:(gs.map natsIV).length=gs.length:=List.length_map ..
 refine Cal.of (fn:=Go.Proofs.Tryz.f100) (by kernel_rfl) rfl rfl ?_
 have hS1:=(progR_parts hpr).2.1.1
 have hsl:(srcsM p l).length=p.srcs.length:=by simp [srcsM]
 have hSB:BagsIs (srcsM p l):=fun b hb=>by
  obtain ⟨s,_,rfl⟩:=List.mem_map.1 hb
  have:=says_is hok ht s
  exact ⟨this.1,by omega⟩
 have hcal:=fun (E:List (List Bi)) (hE:E.length=p.defs.length) (hB:BagsIs E) (so:Nat) (t:Nat) (ht:t<=200) (d:Nat) (hd:d < p.defs.length) G=>@cal461 p (srcsM p l) E (nx+3+6) so (nx+3+4) hp hpr hsl hE hSB hB (t:Nat) ⟨by omega,by omega⟩ 1000 (expAt p d) (hsm.cnt d) (progR_nodeM hpr hd) G
 have hsr:srcsM p l=(List.range p.srcs.length).map fun s=>saysB l (s:Nat):=rfl
 generalize srcsM p l=S at *
 have hE0:BagsIs (List.replicate p.defs.length []):=fun b hb=>by rw [List.eq_of_mem_replicate hb];exact ⟨BagIs.nil,Nat.zero_le _⟩
 generalize hT:foldO (grpM p S) gs (List.replicate p.defs.length [])=T
 refine BN ?_
 refine D.op1 (O.makeSlice (ke:=ty377) rfl inferInstance rfl rfl ⟨by omega,Int.le_refl _,by unfold most;omega⟩ (by decide) rfl (by decide)) rfl rfl ?_
 rw [hdm,Int.toNat_natCast]
 refine BD ?_
 refine D.auto ?_
 refine BN ?_
 refine W.loop (X:=Nat×AV) (fun s=>[(1, .imm (evsIV l)),(2, .ptr (nx+0) 0),(6, .ptr (nx+3+6) 0),(7, .imm (.int .i64 s.1))])
  (fun s nx1 G1=>nx+12<=nx1/\s.1<=p.srcs.length/\G1 (nx+0) = .box [.imm (.lst (p.srcs.map sv)), .imm (.lst (p.defs.map Dfn.iv))] false /\
   G1 (nx+3+6) = .box [.imm (.lst (p.srcs.map sv)), .imm (.lst (p.defs.map Dfn.iv)),s.2, .row (nx+3+4) p.defs.length] false/\G1 (nx+3+4) = .row 77 1 (List.replicate p.defs.length .nils) false /\
   Own 77 1 (nx+11) nx1 (((List.range s.1).map fun s=>saysB l (s:Nat)).map bagIV) G1 s.2)
  (fun s=>p.srcs.length-s.1) (0, .nils) .auto ⟨by omega,Nat.zero_le _,at_upd,at_upd,at_upd, .nil ..⟩ ?_
 rintro ⟨s,w⟩ nx1 G1 ⟨hnx1,hs,g0,gw,gd,hO⟩
 dsimp only at hs gw hO ⊢
 refine BN ?_
 refine W.cond rfl (fun h1=>?_) (fun h1=>?_)
 ·have hlt:s < p.srcs.length:=by have:=of_decide_eq_true h1;omega
  have hmu:p.srcs.length-(s+1) < p.srcs.length-s:=by omega
  have h460':=h460 (s:Nat)
  have hrg:((List.range (s+1)).map fun s=>saysB l (s:Nat)).map bagIV=((List.range s).map fun s=>saysB l (s:Nat)).map bagIV++[bagIV (saysB l (s:Nat))]:=by rw [List.range_succ,List.map_append,List.map_append];rfl
  have hln:(((List.range s).map fun s=>saysB l (s:Nat)).map bagIV).length=s:=by simp
  generalize ((List.range s).map fun s=>saysB l (s:Nat)).map bagIV=Q at *
  generalize saysB l (s:Nat)=b at *
  refine BN ?_
  refine D.app2 hO at_upd (by simp only [most];omega) fun v' G' o' ho' hG' hG2 hlo hlo2=>?_
  have hv1:=ho'.cells1
  have hv2:=ho'.one1
  have g0':=(hG' (nx+0) (by omega)).trans (Eq.trans at_upd g0)
  have gw':=(hG' (nx+3+6) (by omega)).trans (Eq.trans at_upd gw)
  have gd':=(hG' (nx+3+4) (by omega)).trans (Eq.trans at_upd gd)
  refine BD ?_
  refine D.skipN' [nx+3+6,o',nx1+5+8] (by simp;omega) [⟨0,[],[],[]⟩,⟨1,[],[],[]⟩,⟨2,[],[],[]⟩,⟨3,[],[],[]⟩,⟨4,[1],[],[]⟩,⟨5,[],[],[]⟩,⟨6,[],[],[]⟩,⟨7,[],[],[]⟩,⟨8,[],[3],[]⟩,⟨9,[2,3],[2],[]⟩,⟨10,[],[],[]⟩,⟨11,[],[],[]⟩,⟨12,[1],[1],[]⟩] rfl rfl (by kernel_rfl) ?_
  refine BN ?_
  refine W.skipLop (s+1,v') hmu .auto ⟨by omega,hlt,Eq.trans at_upd g0',at_upd,Eq.trans at_upd gd',?_⟩
  show Own _ _ _ _ (((List.range (s+1)).map fun s=>saysB l (s:Nat)).map bagIV) _ _
  rw [hrg]
  exact ho'.fr (hG:=fun q h1 _=>at_upd)
 ·have hge:s=p.srcs.length:=by have:=of_decide_eq_false h1;omega
  subst hge
  rw [<-hsr] at hO
  rcases hO with ⟨h,_⟩|⟨so,hso1,hso2,rfl,hso⟩
  ·rw [List.map_eq_nil_iff] at h
   rw [h] at hsl;simp at hsl;omega
  rw [List.length_map] at gw
  have hW:WorldIs p S (List.replicate p.defs.length []) (nx+3+6) so (nx+3+4) G1:=⟨by rw [List.length_replicate];exact gw,hso,⟨_,gd,bags_nil _⟩⟩
  have hlr:(List.replicate p.defs.length ([]:List Bi)).length=p.defs.length:=List.length_replicate ..
  clear hso gw gd h1 hsr
  generalize List.replicate p.defs.length ([]:List Bi)=E0 at *
  refine BN ?_
  refine W.loop (X:=Nat×List (List Bi)) (fun s=>[(2, .ptr (nx+0) 0),(6, .ptr (nx+3+6) 0),(8, .imm (.lst (gs.map natsIV))),(9, .imm (.lst ((reachR (tosR p)).map boolsIV))),(10, .imm (.int .i64 s.1))])
   (fun s nx2 G2=>nx1<=nx2/\s.1<=gs.length/\G2 (nx+0) = .box [.imm (.lst (p.srcs.map sv)), .imm (.lst (p.defs.map Dfn.iv))] false/\WorldIs p S s.2 (nx+3+6) so (nx+3+4) G2/\BagsIs s.2/\s.2.length=p.defs.length/\foldO (grpM p S) (gs.drop s.1) s.2=T)
   (fun s=>gs.length-s.1) (0,E0) .auto ⟨by omega,Nat.zero_le _,g0,hW.frame rfl rfl rfl,hE0,hlr,hT⟩ ?_
  clear hW g0 hE0 hT hlr
  rintro ⟨g,E⟩ nx2 G2 ⟨hnx2,hgi,g0,hW,hE,hEl,hT⟩
  dsimp only at hgi hW hE hEl hT ⊢
  refine BN ?_
  refine W.cond rfl (fun h2=>?_) (fun h2=>?_)
  ·have hlt:g < gs.length:=by have:=of_decide_eq_true h2;omega
   have hmu:gs.length-(g+1) < gs.length-g:=by omega
   obtain ⟨gr,hgr⟩:=at_lt hlt
   obtain ⟨hg6,hgd,hgi2⟩:=hgs gr (List.mem_of_getElem? hgr)
   have hgat:=at_map natsIV hgr
   have hrm:(gr.map natIV).length=gr.length:=List.length_map ..
   obtain ⟨fd,rr,hfr⟩:=hgi2.ne
   have hfm:fd∈gr:=by rw [hfr];exact List.mem_cons_self ..
   have hfi:(gr.map natIV)[(0:Int).toNat]? = some (natIV fd):=by rw [hfr];rfl
   have hdt:fd < (tosR p).length:=by rw [htl];exact hgd fd hfm
   have hr1:((reachR (tosR p)).map boolsIV)[(fd:Int).toNat]? = some (boolsIV (reachRow (tosR p) (tosR p).length fd)):=by
    rw [Int.toNat_natCast,List.getElem?_map];simp [reachR,hdt]
   have hr2:((reachRow (tosR p) (tosR p).length fd).map IV.bool)[(fd:Int).toNat]? = some (.bool (ringB (tosR p) gr)):=by
    rw [Int.toNat_natCast,List.getElem?_map,<-hgi2.ring fd hfm];simp [reachRow,hdt]
   rw [drop_at hgr,foldO] at hT
   have hfirst:firstT p gr=if ringB (tosR p) gr then 0 else 200:=rfl
   unfold grpM at hT
   generalize hfE:firstT p gr=first at *
   generalize ringB (tosR p) gr=rb at *
   clear hfE
   refine BN ?_
   refine W.join (X:=Unit) (fun _=>[(2, .ptr (nx+0) 0),(6, .ptr (nx+3+6) 0),(8, .imm (.lst (gs.map natsIV))),(9, .imm (.lst ((reachR (tosR p)).map boolsIV))),(10, .imm (.int .i64 g)),(11, .imm (.int .i64 first))])
    (fun _ nx' G'=>nx2<=nx'/\G'=G2) ?_ ?_
   ·cases rb with
    |true=>
     obtain rfl:first=0:=hfirst
     refine BN ?_
     exact W.skipCut () .auto ⟨by omega,rfl⟩
    |false=>
     obtain rfl:first=200:=hfirst
     refine BN ?_
     exact W.skipCut () .auto ⟨by omega,rfl⟩
   ·rintro-nx3 G3 ⟨hnx3,rfl⟩
    have hf2:first<=200:=by rw [hfirst];split<;>omega
    clear hfirst hr1 hr2 hfi
    refine BN ?_
    refine W.loop (X:=Nat×List (List Bi)) (fun s=>[(2, .ptr (nx+0) 0),(6, .ptr (nx+3+6) 0),(8, .imm (.lst (gs.map natsIV))),(9, .imm (.lst ((reachR (tosR p)).map boolsIV))),(10, .imm (.int .i64 g)),(12, .imm (.int .i64 s.1))])
     (fun s nx4 G4=>nx2<=nx4/\(first<=s.1/\s.1<=201)/\G4 (nx+0) = .box [.imm (.lst (p.srcs.map sv)), .imm (.lst (p.defs.map Dfn.iv))] false/\WorldIs p S s.2 (nx+3+6) so (nx+3+4) G4/\BagsIs s.2/\s.2.length=p.defs.length/\(foldO (topM p S gr) ((topsL first).drop (s.1-first)) s.2).bind (foldO (grpM p S) (gs.drop (g+1)))=T)
     (fun s=>201-s.1) (first,E) .auto ⟨by omega,⟨Nat.le_refl _,by omega⟩,g0,hW.frame rfl rfl rfl,hE,hEl,by rw [Nat.sub_self];exact hT⟩ ?_
    clear hW g0 hE hT hEl
    rintro ⟨t,E⟩ nx4 G4 ⟨hnx4,ht4,g0,hW,hE,hEl,hT⟩
    dsimp only at ht4 hW hE hEl hT ⊢
    refine BN ?_
    refine W.cond rfl (fun h3=>?_) (fun h3=>?_)
    ·have ht2:t<=200:=by have:=of_decide_eq_true h3;omega
     have hmu3:201-(t+1) < 201-t:=by omega
     rw [tops_at (by omega),foldO,show first+(t-first)=t by omega] at hT
     unfold topM at hT
     refine BN ?_
     refine W.loop (X:=Nat×List (List Bi)) (fun s=>[(2, .ptr (nx+0) 0),(6, .ptr (nx+3+6) 0),(8, .imm (.lst (gs.map natsIV))),(9, .imm (.lst ((reachR (tosR p)).map boolsIV))),(10, .imm (.int .i64 g)),(12, .imm (.int .i64 t)),(13, .imm (.int .i64 s.1))])
      (fun s nx5 G5=>nx2<=nx5/\s.1<=gr.length/\G5 (nx+0) = .box [.imm (.lst (p.srcs.map sv)), .imm (.lst (p.defs.map Dfn.iv))] false/\WorldIs p S s.2 (nx+3+6) so (nx+3+4) G5/\BagsIs s.2/\s.2.length=p.defs.length/\((foldO (evalD p S t) (gr.drop s.1) s.2).bind (foldO (topM p S gr) ((topsL first).drop (t-first+1)))).bind (foldO (grpM p S) (gs.drop (g+1)))=T)
      (fun s=>gr.length-s.1) (0,E) .auto ⟨by omega,Nat.zero_le _,g0,hW.frame rfl rfl rfl,hE,hEl,hT⟩ ?_
     clear hW g0 hE hT hEl
     rintro ⟨i,E⟩ nx5 G5 ⟨hnx5,hi,g0,hW,hE,hEl,hT⟩
     dsimp only at hi hW hE hEl hT ⊢
     refine BN ?_
     refine W.cond rfl (fun h4=>?_) (fun h4=>?_)
     ·have hil:i < gr.length:=by have:=of_decide_eq_true h4;omega
      have hmu4:gr.length-(i+1) < gr.length-i:=by omega
      obtain ⟨d,hd⟩:=at_lt hil
      have hdi:=at_map natIV hd
      have hdl:=hgd d (List.mem_of_getElem? hd)
      obtain ⟨x,hx⟩:=at_lt hdl
      have hxi:=at_map Dfn.iv hx
      have hc:=fun nx6 (h:nx5<=nx6)=>hcal E hEl hE so t ht2 d hdl G5 (nx:=nx6) hW ⟨by omega,by omega,by omega⟩
      rw [drop_at hd,foldO] at hT
      have hev:evalD p S t E d=(evalF (sB p S) (dB p E) (t:Nat) (expAt p d)).map fun b=>E.set d b:=rfl
      have hui:=fun u (h:evalF (sB p S) (dB p E) (t:Nat) (expAt p d)=some u)=>eval_is (sb:=sB p S) (db:=dB p E) (fun x=>(getD_bags (P:=fun b=>BagIs b/\b.length<=1000) ⟨BagIs.nil,Nat.zero_le _⟩ hSB _).1) (fun x=>(getD_bags (P:=fun b=>BagIs b/\b.length<=1000) ⟨BagIs.nil,Nat.zero_le _⟩ hE _).1) (show ((t:Nat):Int)<=200 by omega) (expAt p d) (progR_nodeM hpr hdl) h
      rw [expAt_at hx] at hc hev hui
      have hxc:=x.cells_len
      obtain ⟨nm,⟨o',s',n',f',c',k'⟩⟩:=x
      refine BN ?_
      refine D.callB rfl rfl rfl rfl rfl (by kernel_rfl) ((hc _ (by omega)).mono fun v G6 nx6 hv=>?_)
      obtain ⟨hv,hnx6,hG6⟩:=hv
      have g06:=(hG6 (nx+0) (by omega)).trans g0
      have hW6:=hW.frame (G':=G6) (hG6 _ (by omega)) (hG6 _ (by omega)) (hG6 _ (by omega))
      clear hc hG6 g0 hW
      cases he:evalF (sB p S) (dB p E) (t:Nat) (Exp.mk o' s' n' f' c' k') with
      |none=>
       simp only [he] at hv hev
       rw [hev] at hT
       obtain rfl:T=none:=hT.symm
       have bt:(!false)=true:=rfl
       rcases hv with rfl|⟨u,rfl⟩
       all_goals
        refine BN ?_
        exact W.retFin rfl rfl rfl
      |some b=>
       have hb:=hui b he
       simp only [he] at hv hev
       rw [hev] at hT
       obtain rfl:v = .imm (.tup [bagIV b, .bool true]):=hv
       have hbb:BagIs b/\b.length<=1000:=⟨hb.1,Nat.le_trans (fits_len hb.2) (by decide)⟩
       have bf:(!true)=false:=rfl
       obtain ⟨hbox,hsr,ws,hgd',hws⟩:=hW6
       have hwl:=hws.length
       obtain ⟨b0,hb0⟩:=at_lt (show d < E.length by omega)
       obtain ⟨w0,hw1,hw2⟩:=hws.at' hb0
       have hwi:ws[(d:Int).toNat]? = some w0:=by rw [Int.toNat_natCast];exact hw1
       have hws2:=hws.setBag d b
       clear hui he hev hb
       rcases hw2 with rfl|⟨rfl, -⟩
       all_goals
        refine BN ?_
        refine D.opN1 (O.storeR rfl rfl rfl rfl hgd' hwl hwi rfl rfl) rfl ?_
        refine D.skip (by kernel_rfl) ?_
        refine BN ?_
        exact W.skipLop (i+1,E.set d b) hmu4 .auto ⟨by omega,hil,Eq.trans at_upd g06,⟨by rw [List.length_set];exact Eq.trans at_upd hbox,Eq.trans at_upd hsr,_,at_upd,hws2⟩,bags_set hE hbb d,by rw [List.length_set];exact hEl,hT⟩
     ·have hge:gr.length<=i:=by have:=of_decide_eq_false h4;omega
      rw [List.drop_of_length_le hge] at hT
      refine BN ?_
      exact W.skipLop (t+1,E) hmu3 .auto ⟨by omega,⟨by omega,by omega⟩,g0,hW.frame rfl rfl rfl,hE,hEl,by rw [show t+1-first=t-first+1 by omega];exact hT⟩
    ·have hge:t=201:=by have:=of_decide_eq_false h3;omega
     subst hge
     rw [List.drop_of_length_le (by simp [topsL])] at hT
     refine BN ?_
     exact W.skipLop (g+1,E) hmu .auto ⟨by omega,hlt,g0,hW.frame rfl rfl rfl,hE,hEl,hT⟩
  ·have hge:gs.length<=g:=by have:=of_decide_eq_false h2;omega
   rw [List.drop_of_length_le hge] at hT
   subst hT
   refine BN ?_
   exact W.retFin rfl rfl ⟨nx+3+6,so,nx+3+4,rfl,hW.frame rfl rfl rfl,⟨by omega,by omega⟩,hE,hEl⟩
end
end Go.Abs

/- Answers depend on nothing but what is told. -/
open Go Go.Abs
namespace Go.Abs
set_option maxRecDepth 100000
theorem foldO_two {α β:Type} {f g:α->β->Option α} (I:α->α->Prop):∀ (l:List β),(∀ x∈l,∀ a b a' b',I a b->f a x=some a'->g b x=some b'->I a' b')->∀ a b a' b',I a b->foldO f l a=some a'->foldO g l b=some b'->I a' b'
 |[],_,a,b,a',b',hI,h1,h2=>by cases h1;cases h2;exact hI
 |x::l,hs,a,b,a',b',hI,h1,h2=>by
  rw [foldO] at h1 h2
  cases hx:f a x with
  |none=>rw [hx] at h1;cases h1
  |some c=>
   cases hy:g b x with
   |none=>rw [hy] at h2;cases h2
   |some d=>
    rw [hx] at h1
    rw [hy] at h2
    exact foldO_two I l (fun y hy=>hs y (List.mem_cons_of_mem _ hy)) c d a' b' (hs x (List.mem_cons_self ..) a b c d hI hx hy) h1 h2
theorem meets_ring {a:Lg} {r:Bool} {t w:Int} (h:meetsB a t w=true):meetsB (ringL r a) t w=true:=by
 unfold ringL
 split
 ·exact meets_thru (by omega) (.inl rfl) h
 ·exact h
section
variable {p:Pgm} {SA SB:List (List Bi)}
def atL (L:List (List Bi)) (i:Nat):List Bi:=L.getD i []
structure Both (p:Pgm) (SA SB EA EB:List (List Bi)):Prop where
 a:BagsIs EA
 b:BagsIs EB
 la:EA.length=p.defs.length
 lb:EB.length=p.defs.length
 same:∀ d t,Told p.srcs.length (atL SA) (atL SB) (fun s=>colD (lagsR p) s d) t->AtEq t (atL EA d) (atL EB d)
theorem atL_is {L:List (List Bi)} (h:BagsIs L) (i:Nat):BagIs (atL L i):=(getD_bags (P:=fun b=>BagIs b/\b.length<=1000) ⟨BagIs.nil,Nat.zero_le _⟩ h i).1
theorem atL_set {L:List (List Bi)} {d:Nat} {b:List Bi} (i:Nat):atL (L.set d b) i=if i=d/\d < L.length then b else atL L i:=by
 unfold atL
 rw [List.getD_eq_getElem?_getD,List.getD_eq_getElem?_getD,List.getElem?_set]
 by_cases h:d=i
 ·subst h
  rw [if_pos rfl]
  by_cases hl:d < L.length
  ·rw [if_pos hl,if_pos ⟨rfl,hl⟩];rfl
  ·rw [if_neg hl,if_neg fun h=>hl h.2,List.getElem?_eq_none (by omega)]
 ·rw [if_neg h,if_neg fun e=>h e.1.symm]
theorem both_step (hpr:progR p=true) (hA:BagsIs SA) (hB:BagsIs SB) {EA EB EA' EB':List (List Bi)} (h:Both p SA SB EA EB) {d t:Nat} (hd:d < p.defs.length) (ht:t<=200) (h1:evalD p SA t EA d=some EA') (h2:evalD p SB t EB d=some EB'):Both p SA SB EA' EB':=by
 unfold evalD at h1 h2
 rw [Option.map_eq_some_iff] at h1 h2
 obtain ⟨u,hu,rfl⟩:=h1
 obtain ⟨v,hv,rfl⟩:=h2
 have hN:=progR_nodeM hpr hd
 have ht':(t:Int)<=200:=by omega
 have hub:=eval_is (fun _=>atL_is hA _) (fun _=>atL_is h.a _) ht' (expAt p d) hN hu
 have hvb:=eval_is (fun _=>atL_is hB _) (fun _=>atL_is h.b _) ht' (expAt p d) hN hv
 refine ⟨bags_set h.a ⟨hub.1,Nat.le_trans (fits_len hub.2) (by decide)⟩ d,bags_set h.b ⟨hvb.1,Nat.le_trans (fits_len hvb.2) (by decide)⟩ d,by rw [List.length_set,h.la],by rw [List.length_set,h.lb],fun d' t' hT=>?_⟩
 rw [atL_set,atL_set]
 by_cases e:d'=d
 ·subst e
  have key:AtEq t' u v:=by
   refine eval_at (sA:=atL SA) (sB:=atL SB) (dA:=atL EA) (dB:=atL EB) (atL_is hA) (atL_is hB) (atL_is h.a) (atL_is h.b) (L:=fun s d=>colD (lagsR p) s d) h.same ht' (SizeOf.sizeOf (expAt p d')+1) (expAt p d') (Nat.lt_succ_self _) hN hu hv t' fun s hs w hw=>hT s hs w ?_
   show meetsB (colD (lagsR p) s d') t' w=true
   rw [lags_eq hpr hd s hs]
   exact meets_ring hw
  rw [if_pos ⟨rfl,by rw [h.la];exact hd⟩,if_pos ⟨rfl,by rw [h.lb];exact hd⟩]
  exact key
 ·rw [if_neg fun h=>e h.1,if_neg fun h=>e h.1]
  exact h.same d' t' hT
theorem mean_two (hpr:progR p=true) (hA:BagsIs SA) (hB:BagsIs SB) {EA EB:List (List Bi)} (h1:meanM p SA=some EA) (h2:meanM p SB=some EB):Both p SA SB EA EB:=by
 unfold meanM at h1 h2
 have h0:BagsIs (List.replicate p.defs.length []):=fun b hb=>by rw [List.eq_of_mem_replicate hb];exact ⟨BagIs.nil,Nat.zero_le _⟩
 refine foldO_two (Both p SA SB) _ (fun gr hgr a b a' b' h ha hb=>?_) _ _ _ _ ⟨h0,h0,List.length_replicate ..,List.length_replicate ..,fun d t _ z _=>Iff.rfl⟩ h1 h2
 refine foldO_two (Both p SA SB) _ (fun t ht a b a' b' h ha hb=>?_) _ _ _ _ h ha hb
 refine foldO_two (Both p SA SB) _ (fun d hd a b a' b' h ha hb=>?_) _ _ _ _ h ha hb
 refine both_step hpr hA hB h ((order_small hpr).2 gr hgr |>.2.1 d hd) ?_ ha hb
 unfold topsL at ht
 obtain ⟨j,hj,rfl⟩:=List.mem_map.1 ht
 rw [List.mem_range] at hj;omega
end
end Go.Abs

/- The theorems of layer 7: what is told, and one event more. -/
open Go Go.Abs
namespace Go.Abs
set_option maxRecDepth 100000
theorem atL_srcs {p:Pgm} {l:List Evt} {s:Nat} (h:s < p.srcs.length):atL (srcsM p l) s=saysB l (s:Nat):=by
 unfold atL srcsM
 rw [List.getD_eq_getElem?_getD,List.getElem?_map,List.getElem?_range h];rfl
theorem cut_mapE {f:Evt->Bi} {lo hi:Int} (b:List Evt):cutB (b.map f) lo hi=(b.filter fun x=>decide ((f x).r.a>=lo)&&decide ((f x).r.a<=hi)).map f:=by
 unfold cutB
 rw [List.filter_map];rfl
section
variable {p:Pgm} {A B:List Evt}
theorem told_one {k:Nat} {x:Evt} (hA:∀ x∈A,x.Ok) (hx:A[k]? = some x) {t:Int} {L:Nat->Lg} (h:∀ s:Nat,(s:Int)=x.s->meetsB (L s) t x.r.a=false):Told p.srcs.length (atL (srcsM p A)) (atL (srcsM p (A.take k++A.drop (k+1)))) L t:=fun s hs w hw=>by
 rw [atL_srcs hs,atL_srcs hs]
 have hlt:=(List.getElem?_eq_some_iff.1 hx).1
 have hsp:A=A.take k++x::A.drop (k+1):=by
  conv=>lhs;rw [<-List.take_append_drop k A,drop_at hx]
 refine ofF_at (said_ok hA _) (said_ok (fun y hy=>hA y ?_) _) ?_
 ·rcases List.mem_append.1 hy with hy|hy
  ·exact List.mem_of_mem_take hy
  ·exact List.mem_of_mem_drop hy
 ·conv=>lhs;rw [hsp]
  unfold saidB
  rw [cut_mapE,cut_mapE,List.filter_filter,List.filter_filter,List.filter_append,List.filter_append,List.filter_cons,if_neg]
  rw [Bool.and_eq_true,Bool.and_eq_true,decide_eq_true_eq,decide_eq_true_eq,beq_iff_eq]
  rintro ⟨⟨h1,h2⟩,h3⟩
  have h4:=h s h3.symm
  have h5:x.r.a=w:=by simp only at h1 h2;omega
  rw [h5,hw] at h4
  cases h4
end
theorem touch_is (a:Lg) (w:Int):((touchT a w).2.2=0/\0<=(touchT a w).1/\(touchT a w).2.1<=200/\(touchT a w).1<=(touchT a w).2.1/\∀ t:Int,0<=t->t<=200->t < (touchT a w).1\/(touchT a w).2.1 < t->meetsB a t w=false)\/((touchT a w).2.2=5/\∀ t:Int,0<=t->t<=200->meetsB a t w=false):=by
 have hm:∀ t:Int,0<=t->t<=200->(meetsB a t w=true↔a.on=true/\touchF a w<=t/\t<=touchL a w):=fun t h0 h1=>by
  rw [meets_iff]
  unfold touchF touchL
  rw [mxI_eq,mnI_eq]
  cases a.ever<;>simp<;>omega
 have hF:0<=touchF a w:=by unfold touchF;rw [mxI_eq];omega
 have hL:touchL a w<=200:=by unfold touchL;rw [mnI_eq];split<;>omega
 unfold touchT
 cases ho:a.on with
 |false=>
  right
  refine ⟨rfl,fun t h0 h1=>Bool.eq_false_iff.2 fun h=>?_⟩
  rw [ho] at hm
  exact absurd ((hm t h0 h1).1 h).1 (by decide)
 |true=>
  rw [if_pos rfl]
  by_cases hlt:touchF a w > touchL a w
  ·rw [decide_eq_true hlt,if_pos rfl]
   right
   refine ⟨rfl,fun t h0 h1=>Bool.eq_false_iff.2 fun h=>?_⟩
   have:=(hm t h0 h1).1 h;omega
  ·rw [decide_eq_false hlt,if_neg (by decide)]
   left
   refine ⟨rfl,hF,hL,by simp only;omega,fun t h0 h1 h2=>Bool.eq_false_iff.2 fun h=>?_⟩
   have:=(hm t h0 h1).1 h
   simp only at h2;omega
end Go.Abs

/- The reference: events, formed or not. -/
open Go Go.Abs
namespace Go.Abs
set_option maxRecDepth 100000
set_option maxHeartbeats 4000000
theorem ret459 {l:List Evt} (hl:l.length<=maxI) (n:Int):Ret CC 159 [evsIV l, .int .i64 n] (.bool (eventsB n l)):=by
 have hl:l.length<=9223372036854775807:=hl
 have hlm:(l.map Evt.iv).length=l.length:=List.length_map ..
 have h485:=fun a b c=>ret485 a b c
 have key:eventsB n l=(inR n 1 4 && !decide (((l.map Evt.iv).length:Int) > 60)&&(List.range l.length).all (evOk n l)):=by unfold eventsB;rw [hlm]
 rw [key]
 clear key
 have hn:=h485 n 1 4
 rcases Bool.eq_false_or_eq_true (inR n 1 4) with c1|c1
 case inr=>
  rw [c1] at hn ⊢
  have bt:(!false)=true:=rfl
  refine Ret.of (fn:=Go.Proofs.Tryz.f159) (by kernel_rfl) rfl rfl ?_
  refine BB ?_
  exact W.retFin1 rfl ⟨[],rfl⟩
 rw [c1] at hn ⊢
 have bf:(!true)=false:=rfl
 rcases Bool.eq_false_or_eq_true (decide (((l.map Evt.iv).length:Int) > 60)) with c2|c2
 ·rw [c2]
  refine Ret.of (fn:=Go.Proofs.Tryz.f159) (by kernel_rfl) rfl rfl ?_
  refine BB ?_
  exact W.retFin1 rfl ⟨[],rfl⟩
 rw [c2]
 have h60:l.length<=60:=by have:=of_decide_eq_false c2;omega
 have key:(true && !false&&(List.range l.length).all (evOk n l))=(List.range l.length).all (evOk n l):=rfl
 rw [key]
 clear key
 generalize hq:(List.range l.length).all (evOk n l)=q
 have bt:(!false)=true:=rfl
 refine Ret.of (fn:=Go.Proofs.Tryz.f159) (by kernel_rfl) rfl rfl ?_
 refine BB ?_
 refine W.loop (X:=Nat) (fun i=>[(0, .imm (evsIV l)),(1, .imm (.int .i64 n)),(5, .imm (.int .i64 i))])
  (fun i _ _=>i<=l.length/\(List.range i).all (evOk n l)=true) (fun i=>l.length-i) 0 .auto ⟨Nat.zero_le _,rfl⟩ ?_
 rintro i nx G ⟨hi,hst⟩
 refine BN ?_
 refine W.cond rfl (fun h1=>?_) (fun h1=>?_)
 ·have hlt:i < l.length:=by have:=of_decide_eq_true h1;rw [hlm] at this;omega
  obtain ⟨x,hx⟩:=at_lt hlt
  have hxi:=ev_at hx
  have hmu:l.length-(i+1) < l.length-i:=by omega
  have hsu:=all_range_succ (f:=evOk n l) (i:=i)
  have hend:=all_range_end (f:=evOk n l) hlt
  rw [hst,Bool.true_and] at hsu
  have hno:evOk n l i=false->q=false:=fun h=>by rw [<-hq];exact hend h
  have hev:evOk n l i=(inR x.s 0 (w64 (n-1))&&inR x.id 0 999&&recB x.r&&(decide ((i:Int) > 0)==false||(match l[i-1]? with
   |some y=>beforeB y x
   |none=>true))&&(List.range i).all fun k=>match l[k]? with
    |some y => !(y.s==x.s&&y.id==x.id)
    |none=>true):=by unfold evOk;simp only [hx];rfl
  have a1:=h485 x.s 0 (w64 (n-1))
  have a2:=h485 x.id 0 999
  have a3:=ret486 x.r
  have hn1:intOp .sub .i64 n 1=some (.int .i64 (w64 (n-1))):=rfl
  generalize w64 (n-1)=n1 at *
  have hq0:evOk n l i=false->q=false:=hno
  clear hno hend hq h485
  obtain ⟨xs,xid,⟨xa,xk,xv⟩⟩:=x
  simp only at a1 a2 a3 hev
  rcases Bool.eq_false_or_eq_true (inR xs 0 n1) with c3|c3
  case inr=>
   rw [c3] at a1 hev
   obtain rfl:=hq0 hev
   refine BN ?_
   refine D.op0 (O.int rfl rfl hn1) rfl rfl ?_
   refine BD ?_
   refine BN ?_
   exact W.retFin1 rfl ⟨[],rfl⟩
  rcases Bool.eq_false_or_eq_true (inR xid 0 999) with c4|c4
  case inr=>
   rw [c3] at a1
   rw [c4] at a2
   rw [c3,c4] at hev
   obtain rfl:=hq0 hev
   refine BN ?_
   refine D.op0 (O.int rfl rfl hn1) rfl rfl ?_
   refine BD ?_
   refine BN ?_
   exact W.retFin1 rfl ⟨[],rfl⟩
  rcases Bool.eq_false_or_eq_true (recB ⟨xa,xk,xv⟩) with c5|c5
  case inr=>
   rw [c3] at a1
   rw [c4] at a2
   rw [c5] at a3
   rw [c3,c4,c5] at hev
   obtain rfl:=hq0 hev
   refine BN ?_
   refine D.op0 (O.int rfl rfl hn1) rfl rfl ?_
   refine BD ?_
   refine BN ?_
   exact W.retFin1 rfl ⟨[],rfl⟩
  rw [c3] at a1
  rw [c4] at a2
  rw [c5] at a3
  rw [c3,c4,c5,Bool.true_and,Bool.true_and,Bool.true_and] at hev
  have hgo:(i=0)\/0 < i:=by omega
  rcases hgo with rfl|hi0
  ·have c6:decide (((0:Nat):Int) > 0)=false:=rfl
   rw [c6] at hev
   have hev:evOk n l 0=true:=hev
   rw [hev] at hsu
   refine BN ?_
   refine D.op0 (O.int rfl rfl hn1) rfl rfl ?_
   refine BD ?_
   refine BN ?_
   refine W.loop (X:=Nat) (fun k=>[(0, .imm (evsIV l)),(1, .imm (.int .i64 n)),(5, .imm (.int .i64 (0:Nat))),(6, .imm (.int .i64 k))])
    (fun k _ _=>k=0) (fun k=>0) 0 .auto rfl ?_
   rintro k nx2 G2 rfl
   have c7:decide (((0:Nat):Int) < ((0:Nat):Int))=false:=rfl
   refine BN ?_
   exact W.skipLop 1 hmu .auto ⟨hlt,hsu⟩
  ·have c6:decide ((i:Int) > 0)=true:=decide_eq_true (by omega)
   obtain ⟨y,hy⟩:=at_lt (show i-1 < l.length by omega)
   have hyi:=ev_at hy
   have hyi:(l.map Evt.iv)[((i:Int)-1).toNat]? = some y.iv:=by rw [show ((i:Int)-1).toNat=i-1 by omega];exact hyi
   have a4:=ret487 y ⟨xs,xid,⟨xa,xk,xv⟩⟩
   rw [c6,hy] at hev
   simp only at hev
   obtain ⟨ys,yid,⟨ya,yk,yv⟩⟩:=y
   rcases Bool.eq_false_or_eq_true (beforeB ⟨ys,yid,⟨ya,yk,yv⟩⟩ ⟨xs,xid,⟨xa,xk,xv⟩⟩) with c7|c7
   case inr=>
    rw [c7] at a4 hev
    obtain rfl:=hq0 hev
    refine BN ?_
    refine D.op0 (O.int rfl rfl hn1) rfl rfl ?_
    refine BD ?_
    refine BN ?_
    exact W.retFin1 rfl ⟨[],rfl⟩
   rw [c7] at a4 hev
   refine BN ?_
   refine D.op0 (O.int rfl rfl hn1) rfl rfl ?_
   refine BD ?_
   refine BN ?_
   refine W.loop (X:=Nat) (fun k=>[(0, .imm (evsIV l)),(1, .imm (.int .i64 n)),(5, .imm (.int .i64 i)),(6, .imm (.int .i64 k))])
    (fun k _ _=>k<=i/\((List.range k).all fun k=>match l[k]? with
     |some y => !(y.s==xs&&y.id==xid)
     |none=>true)=true) (fun k=>i-k) 0 .auto ⟨Nat.zero_le _,rfl⟩ ?_
   rintro k nx2 G2 ⟨hk,hkt⟩
   refine BN ?_
   refine W.cond rfl (fun h2=>?_) (fun h2=>?_)
   ·have hki:k < i:=by have:=of_decide_eq_true h2;omega
    obtain ⟨z,hz⟩:=at_lt (show k < l.length by omega)
    have hzi:=ev_at hz
    have hmk:i-(k+1) < i-k:=by omega
    have hsk:=all_range_succ (f:=fun k=>match l[k]? with
     |some y => !(y.s==xs&&y.id==xid)
     |none=>true) (i:=k)
    have hek:=all_range_end (f:=fun k=>match l[k]? with
     |some y => !(y.s==xs&&y.id==xid)
     |none=>true) hki
    simp only [hkt,hz,Bool.true_and] at hsk hek
    obtain ⟨zs,zid,⟨za,zk,zv⟩⟩:=z
    simp only at hsk hek
    rcases Bool.eq_false_or_eq_true (zs==xs) with d1|d1
    ·rcases Bool.eq_false_or_eq_true (zid==xid) with d2|d2
     ·have hbad:evOk n l i=false:=by
       rw [hev,hek (by rw [d1,d2];rfl)];rfl
      obtain rfl:=hq0 hbad
      refine BN ?_
      exact W.retFin1 rfl ⟨[],rfl⟩
     ·refine BN ?_
      exact W.skipLop (k+1) hmk .auto ⟨hki,by rw [hsk,d1,d2];rfl⟩
    ·refine BN ?_
     exact W.skipLop (k+1) hmk .auto ⟨hki,by rw [hsk,d1];rfl⟩
   ·have hge:k=i:=by have:=of_decide_eq_false h2;omega
    subst hge
    rw [hkt] at hev
    refine BN ?_
    exact W.skipLop (k+1) hmu .auto ⟨hlt,hsu.trans hev⟩
 ·have hge:i=l.length:=by have:=of_decide_eq_false h1;rw [hlm] at this;omega
  subst hge
  rw [hst] at hq
  subst hq
  refine BN ?_
  exact W.retFin1 rfl ⟨[],rfl⟩
end Go.Abs

/- The reference: the answers of a program; what is asked. -/
open Go Go.Abs
namespace Go.Abs
set_option maxRecDepth 100000
set_option maxHeartbeats 4000000
def meanIV:Option (List (List Bi))->IV
 |some E => .tup [.lst (E.map bagIV), .bool true]
 |none => .tup [.lst [], .bool false]
instance fnis344:FnIs CC 44:=⟨rfl,fun _=>rfl⟩
instance fnis397:FnIs CC 97:=⟨rfl,fun _=>rfl⟩
instance fnis341:FnIs CC 41:=⟨rfl,fun _=>rfl⟩
theorem bagV_all {G:Nat->Obj} {P:Nat->Prop}:∀ {ws:List AV} {E:List (List Bi)},All2 BagV ws E->All2 (Rdx 1 G P) ws (E.map bagIV)
 |[],[],_=>trivial
 |_::_,_::_,h=>⟨h.1.rdx,bagV_all h.2⟩
section
variable {p:Pgm} {l:List Evt}
theorem ret344 (hp:p.Fits) (hpr:progR p=true) (hl:l.length<=60) (hok:∀ x∈l,x.Ok) (ht:∀ x∈l,Tin x.r.a):Ret CC 44 [p.iv,evsIV l] (meanIV (meanM p (srcsM p l))):=by
 have hc:=fun G nx=>@cal400 p l hp hpr hl hok ht G nx
 generalize meanM p (srcsM p l)=T at *
 generalize srcsM p l=S at *
 refine Ret.of (fn:=Go.Proofs.Tryz.f44) (by kernel_rfl) rfl rfl ?_
 refine BB ?_
 refine R.callB rfl rfl rfl rfl rfl ((hc _ _).mono fun v G2 nx2 hv=>?_)
 cases T with
 |none=>
  obtain rfl:v = .imm (.tup [.nilp, .bool false]):=hv
  have bt:(!false)=true:=rfl
  refine BN ?_
  exact W.retFin rfl rfl ⟨[],rfl⟩
 |some E=>
  obtain ⟨wo,so,dd,rfl,⟨hbox,hs,ws,hd,hws⟩, -, -, -⟩:=hv
  have bf:(!true)=false:=rfl
  refine BN ?_
  have hr:Rdx 3 G2 (fun _=>True) (.tup [.row dd E.length, .imm (.bool true)]) (.tup [.lst (E.map bagIV), .bool true]):=
   Rdx.tup ⟨Rdx.row hd hws.length (bagV_all hws) trivial,Rdx.imm ..,trivial⟩
  exact W.retFin rfl rfl (hr.peek (by decide))
noncomputable def askedB (p:Pgm) (l:List Evt):Bool:=progR p&&eventsB p.srcs.length l
noncomputable def fineB (p:Pgm) (l:List Evt):Bool:=askedB p l&&(meanM p (srcsM p l)).isSome
theorem ret397 (hp:p.Fits) (hl:l.length<=maxI):Ret CC 97 [p.iv,evsIV l] (.bool (askedB p l)):=by
 have h36:=ret36 p hp
 have hss:(p.srcs.map sv).length=p.srcs.length:=List.length_map ..
 have h459:=ret459 hl (p.srcs.length:Nat)
 unfold askedB
 rw [<-hss] at *
 obtain ⟨srcs,defs⟩:=p
 simp only at *
 refine Ret.of (fn:=Go.Proofs.Tryz.f97) (by kernel_rfl) rfl rfl ?_
 cases hpr:progR ⟨srcs,defs⟩ with
 |false=>
  rw [hpr] at h36
  refine BB ?_
  exact W.retFin1 rfl ⟨[],rfl⟩
 |true=>
  rw [hpr] at h36
  refine BB ?_
  exact W.retFin1 rfl ⟨[],rfl⟩
theorem events_is (h:eventsB (p.srcs.length:Nat) l=true):l.length<=60/\∀ x∈l,Tin x.r.a:=by
 unfold eventsB at h
 rw [Bool.and_eq_true,Bool.and_eq_true,Bool.not_eq_true',decide_eq_false_iff_not,List.all_eq_true] at h
 refine ⟨by omega,fun x hx=>?_⟩
 obtain ⟨i,hi⟩:=List.mem_iff_getElem?.1 hx
 have h1:=h.2 i (List.mem_range.2 (List.getElem?_eq_some_iff.1 hi).1)
 unfold evOk at h1
 rw [hi] at h1
 simp only [Bool.and_eq_true] at h1
 have h2:=h1.1.1.2
 unfold recB inR at h2
 simp only [Bool.and_eq_true,decide_eq_true_eq] at h2
 exact ⟨h2.1.1.1,h2.1.1.2⟩
theorem ret341 (hp:p.Fits) (hl:l.length<=maxI) (hok:∀ x∈l,x.Ok):Ret CC 41 [p.iv,evsIV l] (.bool (fineB p l)):=by
 have h397:=ret397 hp hl
 unfold fineB
 cases ha:askedB p l with
 |false=>
  rw [ha] at h397
  have bt:(!false)=true:=rfl
  refine Ret.of (fn:=Go.Proofs.Tryz.f41) (by kernel_rfl) rfl rfl ?_
  refine BB ?_
  exact W.retFin1 rfl ⟨[],rfl⟩
 |true=>
  rw [ha] at h397
  unfold askedB at ha
  rw [Bool.and_eq_true] at ha
  obtain ⟨h60,htm⟩:=events_is ha.2
  have h344:=ret344 hp ha.1 h60 hok htm
  generalize meanM p (srcsM p l)=T at *
  have bf:(!true)=false:=rfl
  refine Ret.of (fn:=Go.Proofs.Tryz.f41) (by kernel_rfl) rfl rfl ?_
  cases T with
  |none=>
   refine BB ?_
   exact W.retFin1 rfl ⟨[],rfl⟩
  |some E=>
   refine BB ?_
   exact W.retFin1 rfl ⟨[],rfl⟩
end
end Go.Abs

/- Marks that are needed: both sides. -/
open Go Go.Abs
namespace Go.Abs
set_option maxRecDepth 100000
set_option maxHeartbeats 4000000
instance fnis336:FnIs CC 36:=⟨rfl,fun _=>rfl⟩
theorem own_tup {e sz lo hi:Nat} {xs:List IV} {G:Nat->Obj} {v:AV} {n:IV} (h:Own e sz lo hi xs G v):∃ ids,Go.Abs.peek G pkDepth (mkTup [v, .imm n])=some (.tup [.lst xs,n],ids):=by
 have hr:=h.rdx
 rcases h with ⟨rfl,rfl⟩|⟨o,_,_,rfl,_⟩
 ·exact ⟨[],rfl⟩
 ·exact (Rdx.tup (d:=1) (vs:=[.row o xs.length, .imm n]) (xs:=[.lst xs,n]) ⟨hr,Rdx.imm _ _ _ _,trivial⟩).peek (by decide)
noncomputable def needA (p:Pgm) (d t:Int):List Int×Int:=
 if hasR p d && !decide (t < 0) && !decide (t > 200) then (((lagsR p).getD d.toNat []).map fun a=>needN a t,0) else ([],2)
def pairIV (x:List Int×Int):IV := .tup [intsIV x.1, .int .i64 x.2]
theorem cal394 {a:Lg} {i b:Nat} {t:Int} {fr:Bool} {G:Nat->Obj} {nx:Nat} (h:a.In 4294967296) (ht:0<=t/\t<=201) (hb:G b = .box [.imm (.int .i64 t)] fr) (hlt:b < nx) :
  Cal CC 94 [.imm (natIV i), .imm a.iv, .ptr b 0] G nx fun v G' nx'=>v = .imm (.int .i64 (needN a t))/\nx<=nx'/\∀ o,o < nx->G' o=G o:=by
 have h391:=ret391 h ht
 generalize needN a t=n at *
 obtain ⟨on,e,bk,f⟩:=a
 rw [Lg.iv_mk] at *
 refine Cal.of (fn:=Go.Proofs.Tryz.f94) (by kernel_rfl) rfl rfl ?_
 refine BN ?_
 exact W.retFin1 rfl ⟨rfl,by omega,fun o ho=>at_upd⟩
theorem ret336 {p:Pgm} (hp:p.Fits) (d t:Int):Ret CC 36 [p.iv, .int .i64 d, .int .i64 t] (pairIV (needA p d t)):=by
 have h380:=ret380 hp d
 unfold needA
 cases hh:hasR p d with
 |false=>
  rw [hh] at h380
  obtain ⟨srcs,defs⟩:=p
  have bt:(!false)=true:=rfl
  refine Ret.of (fn:=Go.Proofs.Tryz.f36) (by kernel_rfl) rfl rfl ?_
  refine BB ?_
  exact W.retFin2 rfl rfl ⟨[],rfl⟩
 |true=>
  obtain ⟨hpr,n,x,rfl,hx⟩:=hasR_at hh
  have hdl:=(List.getElem?_eq_some_iff.1 hx).1
  have h376:=ret376 hp hpr
  obtain ⟨hrow,hrl,hri⟩:=lagsR_row hpr hdl
  have h4:=(progR_small hpr).srcs
  rw [Int.toNat_natCast]
  unfold knIV at h376
  generalize (lagsR p).getD n []=row at *
  generalize (lagsR p).map lagsIV=E at *
  rw [hh] at h380
  have bf:(!true)=false:=rfl
  cases h1:decide (t < 0) with
  |true=>
   refine Ret.of (fn:=Go.Proofs.Tryz.f36) (by kernel_rfl) rfl rfl ?_
   refine BB ?_
   exact W.retFin2 rfl rfl ⟨[],rfl⟩
  |false=>
   cases h2:decide (t > 200) with
   |true=>
    refine Ret.of (fn:=Go.Proofs.Tryz.f36) (by kernel_rfl) rfl rfl ?_
    refine BB ?_
    exact W.retFin2 rfl rfl ⟨[],rfl⟩
   |false=>
    have g1:=of_decide_eq_false h1
    have g2:=of_decide_eq_false h2
    refine Ret.of (fn:=Go.Proofs.Tryz.f36) (by kernel_rfl) rfl rfl ?_
    refine BB ?_
    refine R.callB rfl rfl rfl rfl rfl ((cal393 (l:=row) (lo:=0) (hi:=0) (g:=fun _ a => .int .i64 (needN a t)) rfl rfl (fun _ _=>rfl) (.inl rfl) (by omega) (by omega) fun i a hx G' nx' h5 h6=>cal394 ((hri a (List.mem_of_getElem? hx)).1.mono (by omega)) (by omega) ((h6 _ (by omega)).trans rfl) (by omega)).mono fun v G2 nx2 hv=>?_)
    obtain ⟨ho,hn2,hG2⟩:=hv
    refine BN ?_
    refine W.retFin2 rfl rfl ?_
    have he:row.mapIdx (fun _ a=>IV.int .i64 (needN a t))=(row.map fun a=>needN a t).map intIV:=by
     refine List.ext_getElem? fun s=>?_
     simp [List.getElem?_mapIdx,Function.comp_def,intIV]
    rw [he] at ho
    exact own_tup ho
end Go.Abs

/- Up to when answers are sealed by marks. -/
open Go Go.Abs
namespace Go.Abs
set_option maxRecDepth 100000
set_option maxHeartbeats 4000000
instance fnis334:FnIs CC 34:=⟨rfl,fun _=>rfl⟩
instance fnis388:FnIs CC 88:=⟨rfl,fun _=>rfl⟩
instance fnis458:FnIs CC 158:=⟨rfl,fun _=>rfl⟩
def markBad (m:Int):Bool:=decide (m < 0)||decide (m > 201)
def marksOk (marks:List Int) (n:Nat):Bool := !(marks.any markBad)&&marks.length==n
def opens (l:List Lg) (marks:List Int) (t:Int):Bool:=(List.range l.length).any fun s=>decide (needN (l.getD s Lg.z) t > marks.getD s 0)
def sealN (l:List Lg) (marks:List Int):Nat:=((List.range 201).findIdx? fun (t:Nat)=>opens l marks t).getD 201
theorem seal_is {l:List Lg} {marks:List Int} {t:Nat} (ht:t<=201) (hno:∀ s:Nat,s < t->opens l marks s=false) (hy:t=201\/opens l marks t=true):sealN l marks=t:=by
 unfold sealN
 by_cases h:t=201
 ·subst h
  rw [List.findIdx?_eq_none_iff.2 fun x hx=>hno x (List.mem_range.1 hx)];rfl
 ·have hy:=hy.resolve_left h
  have:((List.range 201).findIdx? fun (t:Nat)=>opens l marks t)=some t:=by
   rw [List.findIdx?_eq_some_iff_getElem]
   exact ⟨by rw [List.length_range];omega,by rw [List.getElem_range];exact hy,fun j hj=>by rw [List.getElem_range,hno j hj];decide⟩
  rw [this];rfl
theorem ints_ivat {a:List Int} {i:Nat} (h:i < a.length):(a.map intIV)[(i:Int).toNat]? = some (.int .i64 (a.getD i 0)):=by
 rw [Int.toNat_natCast,List.getElem?_map,List.getD_eq_getElem?_getD,List.getElem?_eq_getElem h];rfl
theorem cal387 {m:Int} {G:Nat->Obj} {nx:Nat}:Cal CC 87 [.imm (.int .i64 m)] G nx fun v G' nx'=>v = .imm (.bool (markBad m))/\nx<=nx'/\∀ o,o < nx->G' o=G o:=by
 unfold markBad
 refine Cal.of (fn:=Go.Proofs.Tryz.f87) (by kernel_rfl) rfl rfl ?_
 cases h:decide (m < 0) with
 |true=>
  refine BN ?_
  exact W.retFin1 rfl ⟨rfl,by omega,fun o ho=>rfl⟩
 |false=>
  refine BN ?_
  exact W.retFin1 rfl ⟨rfl,by omega,fun o ho=>rfl⟩
theorem any_take_end {a:List Int} {i:Nat} (hi:i < a.length) (h:markBad (a.getD i 0)=true):a.any markBad=true:=by
 rw [List.getD_eq_getElem?_getD,List.getElem?_eq_getElem hi] at h
 exact List.any_eq_true.2 ⟨a[i],List.getElem_mem hi,h⟩
theorem any_take_step {a:List Int} {i:Nat} (hi:i < a.length) (h0:(a.take i).any markBad=false) (h:markBad (a.getD i 0)=false):(a.take (i+1)).any markBad=false:=by
 rw [List.getD_eq_getElem?_getD,List.getElem?_eq_getElem hi] at h
 rw [List.take_add_one,List.getElem?_eq_getElem hi,List.any_append,h0]
 simpa using h
theorem cal457M {a:List Int} (hl:a.length<=maxI) {G:Nat->Obj} {nx:Nat}:Cal CC 157 [.imm (intsIV a), .imm (.fn (.func 87) [])] G nx fun v G' nx'=>∃ z:Int,v = .imm (.int .i64 z)/\decide (z>=0)=a.any markBad/\nx<=nx'/\∀ o,o < nx->G' o=G o:=by
 have hlm:(a.map intIV).length=a.length:=List.length_map ..
 have hl:a.length<=9223372036854775807:=hl
 refine Cal.of (fn:=Go.Proofs.Tryz.f157) (by kernel_rfl) rfl rfl ?_
 refine BN ?_
 refine W.loop (X:=Nat) (fun i=>[(0, .imm (intsIV a)),(1, .imm (.fn (.func 87) [])),(6, .imm (intsIV a)),(7, .imm (.int .i64 (a.map intIV).length)),(8, .imm (.int .i64 i))])
  (fun i nx1 G1=>i<=a.length/\nx<=nx1/\(∀ o,o < nx->G1 o=G o)/\(a.take i).any markBad=false) (fun i=>a.length-i) 0 .auto ⟨Nat.zero_le _,by omega,fun _ _=>rfl,rfl⟩ ?_
 rintro i nx1 G1 ⟨hi,hnx,hG,hno⟩
 refine BN ?_
 refine W.cond rfl (fun h1=>?_) (fun h1=>?_)
 ·have hlt:i < a.length:=by have:=of_decide_eq_true h1;rw [hlm] at this;omega
  have hxi:=ints_ivat hlt
  have hmu:a.length-(i+1) < a.length-i:=by omega
  refine BN ?_
  refine R.callB rfl rfl rfl rfl rfl (cal387.mono fun v G2 nx2 hv=>?_)
  obtain ⟨rfl,h2,h3⟩:=hv
  have hfr:∀ o,o < nx->G2 o=G o:=fun o ho=>(h3 o (by omega)).trans (hG o ho)
  cases hp:markBad (a.getD i 0) with
  |false=>
   refine BN ?_
   exact W.skipLop (i+1) hmu .auto ⟨hlt,by omega,hfr,any_take_step hlt hno hp⟩
  |true=>
   refine BN ?_
   exact W.retFin1 rfl ⟨_,rfl,by rw [any_take_end hlt hp];exact decide_eq_true (by omega),by omega,hfr⟩
 ·have hge:a.length<=i:=by have:=of_decide_eq_false h1;rw [hlm] at this;omega
  rw [List.take_of_length_le hge] at hno
  refine BN ?_
  exact W.retFin1 rfl ⟨-1,rfl,by rw [hno];rfl,by omega,hG⟩
theorem cal386M {a:List Int} (hl:a.length<=maxI) {G:Nat->Obj} {nx:Nat}:Cal CC 86 [.imm (intsIV a), .imm (.fn (.func 87) [])] G nx fun v G' nx'=>v = .imm (.bool (a.any markBad))/\nx<=nx'/\∀ o,o < nx->G' o=G o:=by
 refine Cal.of (fn:=Go.Proofs.Tryz.f86) (by kernel_rfl) rfl rfl ?_
 refine BN ?_
 refine R.callB rfl rfl rfl rfl rfl ((cal457M hl).mono fun v G2 nx2 hv=>?_)
 obtain ⟨z,rfl,h1,h2,h3⟩:=hv
 refine BN ?_
 exact W.retFin1 rfl ⟨by rw [<-h1],by omega,fun o ho=>(h3 o (by omega)).trans rfl⟩
theorem ret458 {l:List Bool} (hl:l.length<=1000):∃ z:Int,Ret CC 158 [.lst (l.map .bool), .bool true] (.int .i64 z)/\decide (z>=0)=l.any id:=by
 have hlm:(l.map IV.bool).length=l.length:=List.length_map ..
 refine ⟨match l.findIdx? id with|some i=>(i:Int)|none => -1,?_,?_⟩
 ·refine Ret.of (fn:=Go.Proofs.Tryz.f158) (by kernel_rfl) rfl rfl ?_
  refine BB ?_
  refine W.loop (X:=Nat) (fun i=>[(0, .imm (.lst (l.map .bool))),(1, .imm (.bool true)),(6, .imm (.lst (l.map .bool))),(7, .imm (.int .i64 (l.map IV.bool).length)),(8, .imm (.int .i64 i))])
   (fun i nx1 G1=>i<=l.length/\∀ j,j < i->∀ x,l[j]? = some x->x=false) (fun i=>l.length-i) 0 .auto ⟨Nat.zero_le _,fun j h=>absurd h (Nat.not_lt_zero j)⟩ ?_
  rintro i nx1 G1 ⟨hi,hno⟩
  refine BN ?_
  refine W.cond rfl (fun h1=>?_) (fun h1=>?_)
  ·have hlt:i < l.length:=by have:=of_decide_eq_true h1;rw [hlm] at this;omega
   obtain ⟨x,hx⟩:=at_lt hlt
   have hxi:=at_map IV.bool hx
   have hmu:l.length-(i+1) < l.length-i:=by omega
   cases x with
   |false=>
    refine BN ?_
    refine W.skipLop (i+1) hmu .auto ⟨hlt,fun j hj y hy=>?_⟩
    rcases Nat.lt_or_eq_of_le (Nat.le_of_lt_succ hj) with hj|rfl
    ·exact hno j hj y hy
    ·rw [hx] at hy;cases hy;rfl
   |true=>
    have:l.findIdx? id=some i:=by
     rw [List.findIdx?_eq_some_iff_getElem]
     refine ⟨hlt,(List.getElem?_eq_some_iff.1 hx).2,fun j hj=>?_⟩
     have:=hno j hj l[j] (List.getElem?_eq_getElem _)
     simp [this]
    rw [this]
    refine BN ?_
    exact W.retFin1 rfl ⟨[],rfl⟩
  ·have hge:l.length<=i:=by have:=of_decide_eq_false h1;rw [hlm] at this;omega
   have:l.findIdx? id=none:=by
    rw [List.findIdx?_eq_none_iff]
    intro x hx
    obtain ⟨j,hj⟩:=List.mem_iff_getElem?.1 hx
    exact hno j (by have:=(List.getElem?_eq_some_iff.1 hj).1;omega) x hj
   rw [this]
   refine BN ?_
   exact W.retFin1 rfl ⟨[],rfl⟩
 ·cases h:l.findIdx? id with
  |none=>
   rw [List.findIdx?_eq_none_iff] at h
   have:l.any id=false:=by rw [List.any_eq_false];exact fun x hx=>by rw [h x hx];decide
   rw [this];rfl
  |some i=>
   obtain ⟨h1,h2,_⟩:=List.findIdx?_eq_some_iff_getElem.1 h
   rw [List.any_eq_true.2 ⟨_,List.getElem_mem h1,h2⟩]
   exact decide_eq_true (by show (0:Int)<=(i:Int);omega)
theorem ret388 {l:List Bool} (hl:l.length<=1000):Ret CC 88 [.lst (l.map .bool), .bool true] (.bool (l.any id)):=by
 obtain ⟨z,h1,h2⟩:=ret458 hl
 refine Ret.of (fn:=Go.Proofs.Tryz.f88) (by kernel_rfl) rfl rfl ?_
 refine BB ?_
 refine W.retFin1 rfl ⟨[],?_⟩
 rw [<-h2];rfl
end Go.Abs

/- Up to when answers are sealed by marks: both sides. -/
open Go Go.Abs
namespace Go.Abs
set_option maxRecDepth 100000
set_option maxHeartbeats 4000000
theorem cal390 {a:Lg} {i tb mb:Nat} {t:Int} {marks:List Int} {G:Nat->Obj} {nx:Nat} (h:a.In 4294967296) (ht:0<=t/\t<=201) (hi:i < marks.length) (hb:G tb = .box [.imm (.int .i64 t)] false) (hm:G mb = .box [.imm (intsIV marks)] false) (hlt:tb < nx/\mb < nx) :
  Cal CC 90 [.imm (natIV i), .imm a.iv, .ptr tb 0, .ptr mb 0] G nx fun v G' nx'=>v = .imm (.bool (decide (needN a t > marks.getD i 0)))/\nx<=nx'/\∀ o,o < nx->G' o=G o:=by
 have h391:=ret391 h ht
 have hat:=ints_ivat hi
 generalize needN a t=n at *
 obtain ⟨on,e,bk,f⟩:=a
 rw [Lg.iv_mk] at *
 refine Cal.of (fn:=Go.Proofs.Tryz.f90) (by kernel_rfl) rfl rfl ?_
 refine BN ?_
 exact W.retFin1 rfl ⟨rfl,by omega,fun o ho=>at_upd⟩
noncomputable def sealA (p:Pgm) (marks:List Int) (d:Int):Int×Int:=if hasR p d&&marksOk marks p.srcs.length then ((sealN ((lagsR p).getD d.toNat []) marks:Nat),0) else (0,2)
def duoIV (x:Int×Int):IV := .tup [.int .i64 x.1, .int .i64 x.2]
end Go.Abs

/- Up to when answers are sealed by marks: the program. -/
open Go Go.Abs
namespace Go.Abs
set_option maxRecDepth 100000
set_option maxHeartbeats 4000000
theorem ret334 {p:Pgm} (hp:p.Fits) {marks:List Int} (hml:marks.length<=maxI) (d:Int):Ret CC 34 [p.iv,intsIV marks, .int .i64 d] (duoIV (sealA p marks d)):=by
 have h380:=ret380 hp d
 have hss:(p.srcs.map sv).length=p.srcs.length:=List.length_map ..
 have hmm:(marks.map intIV).length=marks.length:=List.length_map ..
 unfold sealA
 cases hh:hasR p d with
 |false=>
  rw [hh] at h380
  obtain ⟨srcs,defs⟩:=p
  have bt:(!false)=true:=rfl
  refine Ret.of (fn:=Go.Proofs.Tryz.f34) (by kernel_rfl) rfl rfl ?_
  refine BB ?_
  exact W.retFin2 rfl rfl ⟨[],rfl⟩
 |true=>
  obtain ⟨hpr,n,x,rfl,hx⟩:=hasR_at hh
  have hdl:=(List.getElem?_eq_some_iff.1 hx).1
  have h376:=ret376 hp hpr
  obtain ⟨hrow,hrl,hri⟩:=lagsR_row hpr hdl
  have h4:=(progR_small hpr).srcs
  rw [Int.toNat_natCast]
  unfold knIV at h376
  generalize (lagsR p).getD n []=row at *
  generalize (lagsR p).map lagsIV=E at *
  rw [hh] at h380
  have bf:(!true)=false:=rfl
  by_cases hlen:marks.length=p.srcs.length
  ·have hc:(((marks.map intIV).length:Int) != ((p.srcs.map sv).length:Int))=false:=by rw [hmm,hss,hlen];simp
   have hmk:marksOk marks p.srcs.length = !(marks.any markBad):=by unfold marksOk;rw [hlen];simp
   rw [hmk]
   refine Ret.of (fn:=Go.Proofs.Tryz.f34) (by kernel_rfl) rfl rfl ?_
   refine BB ?_
   refine R.callB rfl rfl rfl rfl rfl ((cal386M hml).mono fun v G1 nx1 hv=>?_)
   obtain ⟨rfl,hn1,hG1⟩:=hv
   have g0:G1 0 = .box [.imm (.lst (p.srcs.map sv)), .imm (.lst (p.defs.map Dfn.iv))] false:=(hG1 0 (by omega)).trans rfl
   have g1:G1 1 = .box [.imm (intsIV marks)] false:=(hG1 1 (by omega)).trans rfl
   clear hG1
   cases hb:marks.any markBad with
   |true=>
    refine BN ?_
    exact W.retFin2 rfl rfl ⟨[],rfl⟩
   |false=>
    refine BN ?_
    refine W.loop (X:=Nat) (fun t=>[(4, .ptr 1 0),(8, .imm (lagsIV row)),(9, .ptr (nx1+9+0) 0)])
     (fun t nx G=>nx1+11<=nx/\t<=201/\G 1 = .box [.imm (intsIV marks)] false/\G (nx1+9+0) = .box [.imm (.int .i64 t)] false/\∀ s:Nat,s < t->opens row marks s=false) (fun t=>201-t) 0 .auto ⟨by omega,by omega,at_upd,at_upd,fun s h=>absurd h (Nat.not_lt_zero _)⟩ ?_
    clear g0 g1
    rintro t nx2 G2 ⟨hnx2,ht,g1,gt,hno⟩
    by_cases ht2:t<=200
    ·have hd:decide ((t:Int)<=200)=true:=decide_eq_true (by omega)
     have hmu:201-(t+1) < 201-t:=by omega
     refine BN ?_
     refine R.callB rfl rfl rfl rfl rfl ((cal389 (l:=row) (lo:=0) (hi:=0) (g:=fun s a => .bool (decide (needN a t > marks.getD s 0))) rfl rfl (fun _ _=>rfl) (.inl rfl) (by omega) (by omega) fun i a hx G' nx' h5 h6=>
      cal390 (marks:=marks) ((hri a (List.mem_of_getElem? hx)).1.mono (by omega)) (by omega) (by have:=(List.getElem?_eq_some_iff.1 hx).1;omega) ((h6 _ (by omega)).trans gt) ((h6 _ (by omega)).trans g1) (by omega)).mono fun v G3 nx3 hv=>?_)
     obtain ⟨ho,hn3,hG3⟩:=hv
     have he:row.mapIdx (fun s a=>IV.bool (decide (needN a t > marks.getD s 0)))=((List.range row.length).map fun s=>decide (needN (row.getD s Lg.z) t > marks.getD s 0)).map IV.bool:=by
      refine List.ext_getElem? fun s=>?_
      simp only [List.getElem?_mapIdx,List.getElem?_map]
      by_cases hs:s < row.length
      ·rw [List.getElem?_range hs,List.getElem?_eq_getElem hs]
       simp [List.getD_eq_getElem?_getD,hs]
      ·rw [List.getElem?_eq_none (by omega),List.getElem?_eq_none (by simp;omega)];rfl
     rw [he] at ho
     have h388:=ret388 (l:=(List.range row.length).map fun s=>decide (needN (row.getD s Lg.z) t > marks.getD s 0)) (by simp;omega)
     have hany:((List.range row.length).map fun s=>decide (needN (row.getD s Lg.z) t > marks.getD s 0)).any id=opens row marks t:=by unfold opens;rw [List.any_map];rfl
     rw [hany] at h388
     obtain ⟨ids,hpk⟩:=ho.peek (k:=99)
     refine BN ?_
     refine R.op0 (O.callG rfl (peeks_one hpk (peeks_im peeks_nil)) h388 rfl) rfl ?_
     have g13:=(hG3 1 (by omega)).trans g1
     have gt3:=(hG3 (nx1+9+0) (by omega)).trans gt
     cases hop:opens row marks t with
     |true=>
      rw [seal_is (by omega) hno (.inr hop)]
      refine BN ?_
      exact W.retFin2 rfl rfl ⟨[],rfl⟩
     |false=>
      refine BN ?_
      refine W.skipLop (t+1) hmu .auto ⟨by omega,by omega,(upd_ne _ _ _ _ (by omega)).trans g13,upd_same ..,fun s hs=>?_⟩
      rcases Nat.lt_or_eq_of_le (Nat.le_of_lt_succ hs) with h4|rfl
      ·exact hno s h4
      ·exact hop
    ·have hd:decide ((t:Int)<=200)=false:=decide_eq_false (by omega)
     have ht3:t=201:=by omega
     subst ht3
     rw [seal_is (by omega) hno (.inl rfl)]
     refine BN ?_
     exact W.retFin2 rfl rfl ⟨[],rfl⟩
  ·have hc:(((marks.map intIV).length:Int) != ((p.srcs.map sv).length:Int))=true:=by rw [hmm,hss,bne_iff_ne];omega
   have hmk:marksOk marks p.srcs.length=false:=by
    unfold marksOk
    rw [show (marks.length==p.srcs.length)=false by simpa using hlen,Bool.and_false]
   rw [hmk]
   refine Ret.of (fn:=Go.Proofs.Tryz.f34) (by kernel_rfl) rfl rfl ?_
   refine BB ?_
   exact W.retFin2 rfl rfl ⟨[],rfl⟩
end Go.Abs

/- Lags as they are told, of all definitions. -/
open Go Go.Abs
namespace Go.Abs
set_option maxRecDepth 100000
set_option maxHeartbeats 4000000
instance fnis378:FnIs CC 78:=⟨rfl,fun _=>rfl⟩
instance fnis327:FnIs CC 27:=⟨rfl,fun _=>rfl⟩
theorem cal444 {a:Lg} {i:Nat} {G:Nat->Obj} {nx:Nat}:Cal CC 144 [.imm (natIV i), .imm a.iv] G nx fun v G' nx'=>v = .imm a.iv/\nx<=nx'/\∀ o,o < nx->G' o=G o:=by
 obtain ⟨on,e,b,f⟩:=a
 rw [Lg.iv_mk]
 refine Cal.of (fn:=Go.Proofs.Tryz.f144) (by kernel_rfl) rfl rfl ?_
 refine BN ?_
 exact W.retFinCA rfl (upd_same ..) rfl rfl ⟨rfl,by omega,fun o ho=>at_upd⟩
theorem ret378 {l:List Lg} (hl:l.length<=1000):Ret CC 78 [lagsIV l] (lagsIV l):=by
 refine Ret.of (fn:=Go.Proofs.Tryz.f78) (by kernel_rfl) rfl rfl ?_
 refine BB ?_
 refine R.callB rfl rfl rfl rfl rfl ((cal443 (l:=l) (lo:=0) (hi:=0) (g:=fun _ a=>a.iv) rfl rfl (fun _ _=>rfl) (.inl rfl) (by omega) hl fun i a hx G' nx' h5 h6=>cal444).mono fun v G2 nx2 hv=>?_)
 obtain ⟨ho,hn2,hG2⟩:=hv
 rw [mapIdx_map fun a=>a,List.map_id'] at ho
 refine BN ?_
 exact W.retFin1 rfl (ho.peek (k:=99))
theorem cal377 {l:List Lg} (hl:l.length<=1000) {i:Nat} {G:Nat->Obj} {nx:Nat}:Cal CC 77 [.imm (natIV i), .imm (lagsIV l)] G nx fun v G' nx'=>v = .imm (lagsIV l)/\nx<=nx'/\∀ o,o < nx->G' o=G o:=by
 have h378:=ret378 hl
 refine Cal.of (fn:=Go.Proofs.Tryz.f77) (by kernel_rfl) rfl rfl ?_
 refine BN ?_
 exact W.retFin1 rfl ⟨rfl,by omega,fun o ho=>rfl⟩
theorem cal375 {E:List (List Lg)} (hE:E.length<=1000) (hr:∀ l∈E,l.length<=1000) {G:Nat->Obj} {nx:Nat}:Cal CC 75 [.imm (.lst (E.map lagsIV)), .imm (.fn (.func 77) [])] G nx fun v G' nx'=>Own 49 1 nx nx' (E.map lagsIV) G' v/\nx<=nx':=by
 have hem:(E.map lagsIV).length=E.length:=List.length_map ..
 refine Cal.of (fn:=Go.Proofs.Tryz.f75) (by kernel_rfl) rfl rfl ?_
 refine BN ?_
 refine W.loop (X:=Nat×AV) (fun s=>[(1, .imm (.fn (.func 77) [])),(5,s.2),(8, .imm (.lst (E.map lagsIV))),(9, .imm (.int .i64 (E.map lagsIV).length)),(10, .imm (.int .i64 s.1))])
  (fun s nx1 G1=>s.1<=E.length/\nx<=nx1/\Own 49 1 nx nx1 ((E.take s.1).map lagsIV) G1 s.2) (fun s=>E.length-s.1) (0, .nils) .auto ⟨Nat.zero_le _,by omega, .inl ⟨rfl,rfl⟩⟩ ?_
 rintro ⟨i,w⟩ nx1 G1 ⟨hi1,hnx,ho⟩
 dsimp only at hi1 ho ⊢
 refine BN ?_
 refine W.cond rfl (fun h1=>?_) (fun h1=>?_)
 ·have hlt:i < E.length:=by have:=of_decide_eq_true h1;rw [hem] at this;omega
  obtain ⟨l,hx⟩:=at_lt hlt
  have hxi:=at_map lagsIV hx
  have hmu:E.length-(i+1) < E.length-i:=by omega
  have htk:(E.take (i+1)).map lagsIV=(E.take i).map lagsIV++[lagsIV l]:=by rw [List.take_add_one,hx];simp
  have hc:=fun G nx=>cal377 (hr l (List.mem_of_getElem? hx)) (i:=i) (G:=G) (nx:=nx)
  have htl:((E.take i).map lagsIV).length<=1000:=by rw [List.length_map,List.length_take];omega
  refine BN ?_
  refine R.callB rfl rfl rfl rfl rfl ((hc _ _).mono fun v2 G2 nx2 hv=>?_)
  obtain ⟨rfl,hn2,hG2⟩:=hv
  refine BN ?_
  refine R.app1 ho at_upd (by simp only [most];omega) (fun v' G' ho' hG'=>?_) (hG:=fun o h1 h2=>Eq.trans (upd_ne _ _ _ _ (by omega)) (Eq.trans (hG2 o (by omega)) at_upd))
  refine BN ?_
  refine W.skipLop (i+1,v') hmu .auto ⟨hlt,by omega,?_⟩
  show Own _ _ _ _ ((E.take (i+1)).map lagsIV) _ _
  rw [htk]
  exact ho'.up (by omega)
 ·have hge:E.length<=i:=by have:=of_decide_eq_false h1;rw [hem] at this;omega
  rw [List.take_of_length_le hge] at ho
  refine BN ?_
  exact W.retFin1 rfl ⟨ho.up (by omega),by omega⟩
noncomputable def ofA (p:Pgm):List (List Lg)×Int:=if progR p then (lagsR p,0) else ([],2)
def rowsIV (x:List (List Lg)×Int):IV := .tup [.lst (x.1.map lagsIV), .int .i64 x.2]
theorem ret327 {p:Pgm} (hp:p.Fits):Ret CC 27 [p.iv] (rowsIV (ofA p)):=by
 have h29:=ret29 p hp
 unfold ofA
 cases hpr:progR p with
 |false=>
  rw [hpr] at h29
  obtain ⟨srcs,defs⟩:=p
  have bz:((2:Int) != 0)=true:=rfl
  refine Ret.of (fn:=Go.Proofs.Tryz.f27) (by kernel_rfl) rfl rfl ?_
  refine BB ?_
  exact W.retFin2 rfl rfl ⟨[],rfl⟩
 |true=>
  rw [hpr] at h29
  have h376:=ret376 hp hpr
  obtain ⟨hW,_⟩:=lagsR_far hpr
  have h6:=(progR_small hpr).len
  have h4:=(progR_small hpr).srcs
  have hl:=hW.len
  have hr:=fun l (h:l∈lagsR p)=>hW.row l h
  unfold knIV at h376
  generalize lagsR p=E at *
  have bz:((0:Int) != 0)=false:=rfl
  refine Ret.of (fn:=Go.Proofs.Tryz.f27) (by kernel_rfl) rfl rfl ?_
  refine BB ?_
  refine R.callB rfl rfl rfl rfl rfl ((cal375 (by omega) fun l h=>by rw [hr l h];omega).mono fun v G2 nx2 hv=>?_)
  refine BN ?_
  exact W.retFin2 rfl rfl (own_tup hv.1)
end Go.Abs

/- The reference: how a node depends on each source. -/
open Go Go.Abs
namespace Go.Abs
set_option maxRecDepth 100000
set_option maxHeartbeats 4000000
mutual
theorem allE_in:∀ (e:Exp) {x:Exp},x∈allE e->(∀ y∈allE x,y∈allE e)/\(allE x).length<=(allE e).length
 | .mk op name n fold calcs kids,x,h=>by
  rw [allE] at h ⊢
  rcases List.mem_cons.1 h with rfl|h
  ·rw [allE];exact ⟨fun y hy=>hy,Nat.le_refl _⟩
  ·have:=allEs_in kids h
   exact ⟨fun y hy=>List.mem_cons_of_mem _ (this.1 y hy),by rw [List.length_cons];omega⟩
theorem allEs_in:∀ (l:List Exp) {x:Exp},x∈allEs l->(∀ y∈allE x,y∈allEs l)/\(allE x).length<=(allEs l).length
 |[],x,h=>by cases h
 |k::r,x,h=>by
  rw [allEs] at h ⊢
  rcases List.mem_append.1 h with h|h
  ·have:=allE_in k h
   exact ⟨fun y hy=>List.mem_append_left _ (this.1 y hy),by rw [List.length_append];omega⟩
  ·have:=allEs_in r h
   exact ⟨fun y hy=>List.mem_append_right _ (this.1 y hy),by rw [List.length_append];omega⟩
end
noncomputable def nodeA (p:Pgm) (d node:Int):List Lg×Int:=
 if hasR p d && !decide (node < 0) && !decide (node>=((allE (expAt p d.toNat)).length:Int)) then (allL p (lagsR p) ((allE (expAt p d.toNat)).getD node.toNat (.mk 0 [] 0 0 [] [])),0) else ([],2)
def rowIV (x:List Lg×Int):IV := .tup [lagsIV x.1, .int .i64 x.2]
end Go.Abs

/- Walks over the nodes of an expression: the lags' own. (The text of TaNodes, for another walk.) -/
open Go Go.Abs
namespace Go.Abs
set_option maxRecDepth 100000
set_option maxHeartbeats 4000000
variable {q N:Nat} {l:List Exp} {K:Kp} {J:(Nat->Obj)->Nat->Prop} {Pn:IV->(Nat->Obj)->Nat->Prop}
structure BxL (q N yb wb nx:Nat) (own:Own1) (G:Nat->Obj):Prop where
 y:G yb = .box [.yld q] false
 w:G wb = .box [.fn (.func 148) [.ptr yb 0, .ptr wb 0]] false
 yl:N<=yb/\yb < nx/\¬ own yb
 wl:N<=wb/\wb < nx/\¬ own wb
theorem BxL.fr {q N yb wb nx nx':Nat} {own own':Own1} {G G':Nat->Obj} (h:BxL q N yb wb nx own G) (hn:nx<=nx') (ho:∀ o,o < nx->own' o->own o) (hG:∀ o,N<=o->o < nx->¬ own o->G' o=G o):BxL q N yb wb nx' own' G':=
 ⟨(hG _ h.yl.1 h.yl.2.1 h.yl.2.2).trans h.y,(hG _ h.wl.1 h.wl.2.1 h.wl.2.2).trans h.w,⟨h.yl.1,by have:=h.yl.2.1;omega,fun h'=>h.yl.2.2 (ho _ h.yl.2.1 h')⟩,⟨h.wl.1,by have:=h.wl.2.1;omega,fun h'=>h.wl.2.2 (ho _ h.wl.2.1 h')⟩⟩
def WalkOKL (q N:Nat) (l:List Exp) (K:Kp) (J:(Nat->Obj)->Nat->Prop) (Pn:IV->(Nat->Obj)->Nat->Prop) (e:Exp):Prop:=
 ∀ k own yb wb nx G,From l (allE e) k->K k own G nx->BxL q N yb wb nx own G->CalP CC 148 [.imm e.iv, .ptr yb 0, .ptr wb 0] G nx (WPost N K J Pn (k+(allE e).length) (isB true) (isB false) own G nx)
theorem cal449 (hw:Walk q N l K J Pn) {e:Exp} (he:WalkOKL q N l K J Pn e) {k yb wb nx:Nat} {own:Own1} {G:Nat->Obj} (hf:From l (allE e) k) (hI:K k own G nx) (hB:BxL q N yb wb nx own G) :
  CalP CC 149 [.imm e.iv, .ptr wb 0] G nx (WPost N K J Pn (k+(allE e).length) (isB false) (isB true) own G nx):=by
 have hc:=fun nx1 G1 (h2:nx<=nx1) (h3:∀ o,o < nx->G1 o=G o)=>he k own yb wb nx1 G1 hf (hw.frame k own G nx G1 nx1 hI h2 h3) (hB.fr (nx':=nx1) h2 (fun _ _ h=>h) fun o _ h _=>h3 o h)
 have hwG:=hB.w
 have hwl:=hB.wl
 obtain ⟨op,name,n',fold,calcs,kids⟩:=e
 refine CalP.of (fn:=Go.Proofs.Tryz.f149) (by kernel_rfl) rfl rfl ?_
 refine AN ?_
 refine R.callBP rfl rfl rfl rfl rfl ((hc _ _ (by omega) (fun o h2=>at_upd)).mono fun r hr=>?_)
 have hr:=hr.trans (nx:=nx) (own:=own) (G:=G) (by omega) (fun _ _ h=>h) (fun o h1 h2 h3=>at_upd)
 cases r with
 |pan u G' nx'=>exact panTo (by exact hr)
 |ret v G' nx'=>
  obtain ⟨h1,own',h0,h2,⟨rfl,h3⟩|⟨rfl,h3⟩⟩:=hr
  ·refine AN ?_
   exact W.retFinP rfl ⟨by omega,own',h0,h2, .inl ⟨rfl,hw.frame _ _ _ _ _ _ h3 (by omega) fun _ _=>rfl⟩⟩
  ·refine AN ?_
   exact W.retFinP rfl ⟨by omega,own',h0,h2, .inr ⟨rfl,hw.frameJ _ _ _ _ h3 (by omega) fun _ _=>rfl⟩⟩
theorem cal102L (hw:Walk q N l K J Pn) {kids:List Exp} (hk:kids.length<=9223372036854775807) (he:∀ e∈kids,WalkOKL q N l K J Pn e) {k yb wb nx:Nat} {own:Own1} {G:Nat->Obj} (hf:From l (allEs kids) k) (hI:K k own G nx) (hB:BxL q N yb wb nx own G) :
  CalP CC 175 [.imm (.lst (Exp.ivs kids)), .fn (.func 149) [.ptr wb 0]] G nx (WPost N K J Pn (k+(allEs kids).length) isNeg isPos own G nx):=by
 have hlk:=ivs_len kids
 refine CalP.of (fn:=Go.Proofs.Tryz.f175) (by kernel_rfl) rfl rfl ?_
 refine AN ?_
 refine W.loop (X:=Nat×Own1) (fun x=>[(0, .imm (.lst (Exp.ivs kids))),(1, .fn (.func 149) [.ptr wb 0]),(6, .imm (.lst (Exp.ivs kids))),(7, .imm (.int .i64 (Exp.ivs kids).length)),(8, .imm (.int .i64 x.1))])
  (fun x nx1 G1=>nx<=nx1/\(∀ o,o < nx->x.2 o->own o)/\(∀ o,N<=o->o < nx->¬ own o->G1 o=G o)/\x.1<=kids.length/\K (k+(allEs (kids.take x.1)).length) x.2 G1 nx1) (fun x=>kids.length-x.1) (0,own) .auto
  ⟨by omega,fun _ _ h=>h,fun _ _ _ _=>rfl,Nat.zero_le _,hw.frame _ _ _ _ _ _ hI (by omega) fun _ _=>rfl⟩ ?_
 clear hI
 rintro ⟨i,own1⟩ nx1 G1 ⟨hx,ho1,hfr,hi,hI⟩
 dsimp only at ho1 hi hI ⊢
 rcases Bool.eq_false_or_eq_true (decide ((i:Int) < ((Exp.ivs kids).length:Int))) with hc|hc
 ·have hlt:i < kids.length:=by have:=of_decide_eq_true hc;omega
  obtain ⟨kid,hxk⟩:=at_lt hlt
  have hxi:=ivs_at hxk
  have hcl:=kid.cells_len
  have hcal:=fun nx2 (h:nx1<=nx2)=>cal449 (nx:=nx2) hw (he kid (List.mem_of_getElem? hxk)) (hf.kid hxk) (hw.frame _ _ _ _ _ _ hI h fun _ _=>rfl) (hB.fr (nx':=nx2) (by omega) ho1 hfr)
  have hmu:kids.length-(i+1) < kids.length-i:=by omega
  have htk:=allEs_take hxk
  obtain ⟨o',s',m',f',c',k'⟩:=kid
  refine AN ?_
  refine R.callBP rfl rfl rfl rfl rfl ((hcal _ (by omega)).mono fun r hr=>?_)
  have hr:=hr.trans (nx:=nx) (own:=own) (G:=G) (by omega) ho1 hfr
  cases r with
  |pan u G' nx'=>exact panTo (by exact hr)
  |ret v G' nx'=>
   obtain ⟨h1,own',h0,h2,⟨rfl,h3⟩|⟨rfl,h3⟩⟩:=hr
   ·refine AN ?_
    refine W.skipLop (i+1,own') hmu .auto ⟨by omega,h0,h2,hlt,?_⟩
    rw [htk,List.length_append,<-Nat.add_assoc];exact hw.frame _ _ _ _ _ _ h3 (by omega) fun _ _=>rfl
   ·refine AN ?_
    exact W.retFinP rfl ⟨by omega,own',h0,h2, .inr ⟨⟨_,rfl⟩,hw.frameJ _ _ _ _ h3 (by omega) fun _ _=>rfl⟩⟩
 ·have hge:kids.length<=i:=by have:=of_decide_eq_false hc;omega
  rw [List.take_of_length_le hge] at hI
  refine AN ?_
  exact W.retFinP rfl ⟨by omega,own1,ho1,hfr, .inl ⟨rfl,hw.frame _ _ _ _ _ _ hI (by omega) fun _ _=>rfl⟩⟩
theorem cal82L (hw:Walk q N l K J Pn) {kids:List Exp} (hk:kids.length<=9223372036854775807) (he:∀ e∈kids,WalkOKL q N l K J Pn e) {k yb wb nx:Nat} {own:Own1} {G:Nat->Obj} (hf:From l (allEs kids) k) (hI:K k own G nx) (hB:BxL q N yb wb nx own G) :
  CalP CC 133 [.imm (.lst (Exp.ivs kids)), .fn (.func 149) [.ptr wb 0]] G nx (WPost N K J Pn (k+(allEs kids).length) (isB false) (isB true) own G nx):=by
 have hc:=fun nx1 (h2:nx<=nx1)=>cal102L hw hk he hf (hw.frame _ _ _ _ _ _ hI h2 fun _ _=>rfl) (hB.fr (nx':=nx1) h2 (fun _ _ h=>h) fun _ _ _ _=>rfl)
 refine CalP.of (fn:=Go.Proofs.Tryz.f133) (by kernel_rfl) rfl rfl ?_
 refine AN ?_
 refine R.callBP rfl rfl rfl rfl rfl ((hc _ (by omega)).mono fun r hr=>?_)
 have hr:=hr.trans (nx:=nx) (own:=own) (G:=G) (by omega) (fun _ _ h=>h) (fun o h1 h2 h3=>rfl)
 cases r with
 |pan u G' nx'=>exact panTo (by exact hr)
 |ret v G' nx'=>
  obtain ⟨h1,own',h0,h2,⟨rfl,h3⟩|⟨⟨n,rfl⟩,h3⟩⟩:=hr
  ·refine AN ?_
   exact W.retFinP rfl ⟨by omega,own',h0,h2, .inl ⟨rfl,hw.frame _ _ _ _ _ _ h3 (by omega) fun _ _=>rfl⟩⟩
  ·refine AN ?_
   refine W.retFinP rfl ⟨by omega,own',h0,h2, .inr ⟨?_,hw.frameJ _ _ _ _ h3 (by omega) fun _ _=>rfl⟩⟩
   show AV.imm (.bool (decide ((n:Int)>=0))) = .imm (.bool true)
   rw [decide_eq_true (by omega)]
theorem walk_okL (hw:Walk q N l K J Pn) {e:Exp} (hfit:e.Fits):WalkOKL q N l K J Pn e:=by
 induction hfit with
 |mk op name n' fold calcs kids hnm hw' hc hk hcs hks ih=>
 intro k own yb wb nx G hf hI hB
 have hk':kids.length<=9223372036854775807:=hk
 have hyl:=hB.yl
 have hwl:=hB.wl
 have hyG:=hB.y
 have h0:=hf 0 _ (by rw [allE];rfl)
 have hkf:From l (allEs kids) (k+1):=fun j x hx=>by
  have:=hf (j+1) x (by rw [allE];simpa using hx)
  rwa [show k+(j+1)=k+1+j by omega] at this
 have hr:=fun nx1 G1 (h:N<=nx1) (h1:nx<=nx1) (h2:∀ o,o < nx->G1 o=G o)=>hw.round k _ own G1 nx1 h0 h (hw.frame k own G nx G1 nx1 hI h1 h2)
 have hlen:k+1+(allEs kids).length=k+(allE (.mk op name n' fold calcs kids)).length:=by rw [allE];simp;omega
 refine CalP.of (fn:=Go.Proofs.Tryz.f148) (by kernel_rfl) rfl rfl ?_
 refine AN ?_
 refine R.roundP rfl rfl rfl ((hr _ _ (by omega) (by omega) (fun o h=>at_upd)).mono fun r hr=>?_)
 cases r with
 |pan u G' nx'=>exact panTo (by exact hr)
 |ret v G' nx'=>
  obtain ⟨h1,own1,ho1,h2,hv⟩:=hr
  have hnu:¬ own (nx+0):=fun h=>by have:=hw.lt _ _ _ _ hI _ h;omega
  have hfr:∀ o,N<=o->o < nx->¬ own o->G' o=G o:=fun o h4 h5 h6=>(h2 o h4 (by omega) h6).trans at_upd
  rcases hv with ⟨rfl,h3⟩|⟨rfl,h3⟩
  ·have hb:G' (nx+0) = .box [.imm (.int .i64 op), .imm (sv name), .imm (.int .i64 n'), .imm (.int .i64 fold), .imm (.lst (Trm.ivs calcs)), .imm (.lst (Exp.ivs kids))] false:=(h2 _ (by omega) (by omega) hnu).trans at_upd
   have hc:=fun nx1 (h:nx'<=nx1)=>cal82L (nx:=nx1) hw hk' ih hkf (hw.frame _ _ _ _ _ _ h3 h fun _ _=>rfl) (hB.fr (nx':=nx1) (by omega) (fun o h4 h5=>ho1 o (by omega) h5) hfr)
   refine AN ?_
   refine R.callBP rfl rfl rfl rfl rfl ((hc _ (by omega)).mono fun r hr=>?_)
   have hr:=hr.trans (nx:=nx) (own:=own) (G:=G) (by omega) (fun o h4 h5=>ho1 o (by omega) h5) hfr
   rw [hlen] at hr
   cases r with
   |pan u G' nx'=>exact panTo (by exact hr)
   |ret v G' nx'=>
    obtain ⟨g1,own',g0,g2,⟨rfl,g3⟩|⟨rfl,g3⟩⟩:=hr
    ·refine AN ?_
     exact W.retFinP rfl ⟨by omega,own',g0,g2, .inl ⟨rfl,hw.frame _ _ _ _ _ _ g3 (by omega) fun _ _=>rfl⟩⟩
    ·refine AN ?_
     exact W.retFinP rfl ⟨by omega,own',g0,g2, .inr ⟨rfl,hw.frameJ _ _ _ _ g3 (by omega) fun _ _=>rfl⟩⟩
  ·refine AN ?_
   exact W.retFinP rfl ⟨by omega,own1,fun o h4 h5=>ho1 o (by omega) h5,hfr, .inr ⟨rfl,hw.frameJ _ _ _ _ h3 (by omega) fun _ _=>rfl⟩⟩
theorem cal447 {e:Exp} (hw:Walk q N (allE e) K J Pn) (hfit:e.Fits) {nx:Nat} {own:Own1} {G:Nat->Obj} (hn:N<=nx) (hI:K 0 own G nx) :
  CalP CC 147 [.yld q, .imm (.fptr e.iv.cells 0)] G nx fun
   | .ret _ G' nx'=>nx<=nx'/\((∃ own',K (allE e).length own' G' nx')\/J G' nx')
   | .pan u G' nx'=>Pn u G' nx':=by
 have hc:=fun k own yb wb nx G=>walk_okL hw hfit k own yb wb nx G
 have hlt:=hw.lt _ _ _ _ hI
 obtain ⟨op,name,n',fold,calcs,kids⟩:=e
 refine CalP.of (fn:=Go.Proofs.Tryz.f147) (by kernel_rfl) rfl rfl ?_
 refine AN ?_
 have hB:∀ {G1:Nat->Obj},(∀ o,nx<=o->o < nx+2->G1 o=upd (upd (upd G (nx+0) (.box [.yld q] false)) (nx+1+0) (.box ty101.zero.cells false)) (nx+1+0) (.box [.fn (.func 148) [.ptr (nx+0) 0, .ptr (nx+1+0) 0]] false) o)->BxL q N (nx+0) (nx+1+0) (nx+1+1+2+3) own G1:=fun h=>
  ⟨(h _ (by omega) (by omega)).trans at_upd,(h _ (by omega) (by omega)).trans at_upd,⟨by omega,by omega,fun h=>by have:=hlt _ h;omega⟩,⟨by omega,by omega,fun h=>by have:=hlt _ h;omega⟩⟩
 refine R.callBP rfl rfl rfl rfl rfl ((hc 0 own _ _ _ _ (fun j x hx=>by rwa [Nat.zero_add]) (hw.frame 0 own G nx _ _ hI (by omega) fun o h=>at_upd) (hB fun o h1 h2=>rfl)).mono fun r hr=>?_)
 cases r with
 |pan u G' nx'=>exact panTo (by exact hr)
 |ret v G' nx'=>
  obtain ⟨h1,own',h0,h2,h3⟩:=hr
  rw [Nat.zero_add] at h3
  refine AN ?_
  refine W.skipFinP rfl ⟨by omega,?_⟩
  rcases h3 with ⟨_,h3⟩|⟨_,h3⟩
  ·exact .inl ⟨own',h3⟩
  ·exact .inr h3
theorem W.nodesKL {f:Operand} {ps:Array Nat} {assign body:Code} {fid nt nx:Nat} {lv:Env} {G:Nat->Obj} {df:List (AV×List AV)} {pk:Pk} {Φ:Out->Prop} (e:Exp) (hfit:e.Fits)
  (K:Kp) (J:(Nat->Obj)->Nat->Prop) (Pn:IV->(Nat->Obj)->Nat->Prop)
  (hf:lookO lv f=some (.imm (.fn (.func 147) [.fptr e.iv.cells 0]))) (hpk:pk.isRnd=false) (hfn:(CC.fn fid).isSome=true) (hps:ps.toList.length=1) (hps2:(ps.toList.all fun t=>decide (t < nt))=true)
  (hK:∀ i own G n G' n',K i own G n->n<=n'->(∀ o,o < n->o≠nx->G' o=G o)->K i own G' n') (hlt:∀ i own G n,K i own G n->∀ o,own o->nx+2<=o/\o < n)
  (hJ:∀ G n G' n',J G n->n<=n'->(∀ o,o < n->o≠nx->G' o=G o)->J G' n') (h0:K 0 (fun _=>False) G nx)
  (hround:∀ (q i:Nat) x own G1 nx1 (lp0 lp1:Obj) (Φr:Out->Prop),q=nx->(allE e)[i]? = some x->q+2<=nx1->K i own G1 nx1->G1 q=lp0 ->
   (∀ {f' l' G' nx'} (own':Own1),nx1<=nx'->(∀ o,o < nx1->own' o->own o)->(∀ o,q+2<=o->o < nx1->¬ own o->G' o=G1 o)->K (i+1) own' G' nx'->G' q=lp1->W CC f' nt .skip l' G' nx' [] .rnd Φr) ->
   (∀ {l' G' nx'} (own':Own1),nx1<=nx'->(∀ o,o < nx1->own' o->own o)->(∀ o,q+2<=o->o < nx1->¬ own o->G' o=G1 o)->J G' nx'->G' q=lp1->W CC fid nt .ret l' G' nx' [] .rnd Φr) ->
   (∀ {l':Env} {u G' nx'},Pn u G' nx'->∀ t,Agree t l'->Φr (.pan u ⟨t,G',nx',[], .rnd⟩)) ->
   W CC fid nt assign (bindE lv (ps.toList.zip [.imm x.iv])) G1 nx1 [] .rnd (astQ CC q lp0 lp1 fid nt body Φr))
  (hend:∀ own G1 nx1,K (allE e).length own G1 nx1->nx<=nx1->W CC fid nt .skip lv G1 nx1 df pk Φ)
  (hret:∀ G1 nx1,J G1 nx1->nx<=nx1->W CC fid nt .ret lv G1 nx1 df pk Φ)
  (hpan:∀ u G1 nx1,Pn u G1 nx1->∀ t,Agree t lv->Φ (.pan u ⟨t,G1,nx1,df,pk⟩)):W CC fid nt (.rangeFunc f ps assign body) lv G nx df pk Φ:=by
 refine W.rangeP hf rfl rfl hpk fun t ht=>?_
 have hw:Walk nx (nx+2) (allE e) (fun i own G1 n=>nx < n/\K i own G1 n/\G1 nx = .lp t nt ps.toList assign body fid 0 none) (fun G1 n=>nx < n/\J G1 n/\G1 nx = .lp t nt ps.toList assign body fid 2 (some .ret)) Pn:=by
  refine ⟨fun i own G n G' n' ⟨h0,h1,h2⟩ hn hG=>⟨by omega,hK _ _ _ _ _ _ h1 hn fun o h _=>hG o h,(hG nx h0).trans h2⟩,fun i own G n ⟨h0,h1,h2⟩ o ho=>(hlt _ _ _ _ h1 o ho).2,fun G n G' n' ⟨h0,h1,h2⟩ hn hG=>⟨by omega,hJ _ _ _ _ h1 hn fun o h _=>hG o h,(hG nx h0).trans h2⟩,?_⟩
  rintro i x own G1 nx1 hx hn ⟨h0,h1,h2⟩
  refine RndP.of hfn h2 ht (by rw [hps];rfl) hps2 ?_
  refine W.mono (Φ:=astQ CC nx (.lp t nt ps.toList assign body fid 0 none) (.lp t nt ps.toList assign body fid 1 none) fid nt body (frdP nx fun
   | .ret v G' nx'=>nx1<=nx'/\∃ own',(∀ o,o < nx1->own' o->own o)/\(∀ o,nx+2<=o->o < nx1->¬ own o->G' o=G1 o)/\((v = .imm (.bool true)/\(nx < nx'/\K (i+1) own' G' nx'/\G' nx = .lp t nt ps.toList assign body fid 0 none))\/(v = .imm (.bool false)/\(nx < nx'/\J G' nx'/\G' nx = .lp t nt ps.toList assign body fid 2 (some .ret))))
   | .pan u G' nx'=>Pn u G' nx')) (hround nx i x own G1 nx1 (.lp t nt ps.toList assign body fid 0 none) (.lp t nt ps.toList assign body fid 1 none) _ rfl hx hn h1 h2 ?_ ?_ ?_) fun o ho=>?_
  ·intro f' l' G' nx' own' h3 h4 h5 h6 h7
   exact W.skipFrdP h7 ⟨h3,own',h4,fun o h8 h9 h10=>(upd_ne _ _ _ _ (by omega)).trans (h5 o h8 h9 h10), .inl ⟨rfl,by omega,hK _ _ _ _ _ _ h6 (Nat.le_refl _) fun o _ h=>upd_ne _ _ _ _ h,upd_same _ _ _⟩⟩
  ·intro l' G' nx' own' h3 h4 h5 h6 h7
   exact W.retFrdP h7 ⟨h3,own',h4,fun o h8 h9 h10=>(upd_ne _ _ _ _ (by omega)).trans (h5 o h8 h9 h10), .inr ⟨rfl,by omega,hJ _ _ _ _ h6 (Nat.le_refl _) fun o _ h=>upd_ne _ _ _ _ h,upd_same _ _ _⟩⟩
  ·intro l' u G' nx' h3 t _
   exact ⟨rfl,h3⟩
  ·cases o with
   |norm s=>
    obtain ⟨h3,h4⟩:=ho
    exact ⟨_,_,_,_,_,_,_,h3,h4⟩
   |_=>exact ho
 have hc:=cal447 hw hfit (nx:=nx+2) (own:=fun _=>False) (G:=upd G nx (.lp t nt ps.toList assign body fid 0 none)) (by omega) ⟨by omega,hK _ _ _ _ _ _ h0 (by omega) fun o h h'=>upd_ne _ _ _ _ h',upd_same _ _ _⟩
 obtain ⟨n,r,h1,h2⟩:=hc
 refine ⟨n,r,h1,?_⟩
 cases r with
 |pan u G' nx'=>exact hpan u G' nx' h2 t ht
 |ret v G' nx'=>
  obtain ⟨h3,⟨own',h4,h5,h6⟩|⟨h4,h5,h6⟩⟩:=h2
  ·exact ⟨_,_,_,_,_,_,_,_,h6,by decide,(hend own' _ nx' (hK _ _ _ _ _ _ h5 (Nat.le_refl _) fun o _ h=>upd_ne _ _ _ _ h) (by omega)).skipI t ht⟩
  ·exact ⟨_,_,_,_,_,_,_,_,h6,by decide,(hret _ nx' (hJ _ _ _ _ h5 (Nat.le_refl _) fun o _ h=>upd_ne _ _ _ _ h) (by omega)).retI t ht⟩
theorem W.nodesL {f:Operand} {ps:Array Nat} {assign body:Code} {fid nt nx:Nat} {lv:Env} {G:Nat->Obj} {df:List (AV×List AV)} {pk:Pk} {Φ:Out->Prop} (e:Exp) (hfit:e.Fits)
  (I:Nat->(Nat->Obj)->Prop) (J:(Nat->Obj)->Prop) (Pn:IV->(Nat->Obj)->Nat->Prop)
  (hf:lookO lv f=some (.imm (.fn (.func 147) [.fptr e.iv.cells 0]))) (hpk:pk.isRnd=false) (hfn:(CC.fn fid).isSome=true) (hps:ps.toList.length=1) (hps2:(ps.toList.all fun t=>decide (t < nt))=true)
  (hI:∀ i G G',I i G->(∀ o,o < nx->G' o=G o)->I i G') (hJ:∀ G G',J G->(∀ o,o < nx->G' o=G o)->J G') (h0:I 0 G)
  (hround:∀ (q i:Nat) x G1 nx1 (lp0 lp1:Obj) (Φr:Out->Prop),q=nx->(allE e)[i]? = some x->q+2<=nx1->I i G1->G1 q=lp0 ->
   (∀ {f' l' G' nx'},nx1<=nx'->(∀ o,q+2<=o->o < nx1->G' o=G1 o)->I (i+1) G'->G' q=lp1->W CC f' nt .skip l' G' nx' [] .rnd Φr) ->
   (∀ {l' G' nx'},nx1<=nx'->(∀ o,q+2<=o->o < nx1->G' o=G1 o)->J G'->G' q=lp1->W CC fid nt .ret l' G' nx' [] .rnd Φr) ->
   (∀ {l':Env} {u G' nx'},Pn u G' nx'->∀ t,Agree t l'->Φr (.pan u ⟨t,G',nx',[], .rnd⟩)) ->
   W CC fid nt assign (bindE lv (ps.toList.zip [.imm x.iv])) G1 nx1 [] .rnd (astQ CC q lp0 lp1 fid nt body Φr))
  (hend:∀ G1 nx1,I (allE e).length G1->nx<=nx1->W CC fid nt .skip lv G1 nx1 df pk Φ)
  (hret:∀ G1 nx1,J G1->nx<=nx1->W CC fid nt .ret lv G1 nx1 df pk Φ)
  (hpan:∀ u G1 nx1,Pn u G1 nx1->∀ t,Agree t lv->Φ (.pan u ⟨t,G1,nx1,df,pk⟩)):W CC fid nt (.rangeFunc f ps assign body) lv G nx df pk Φ:=by
 refine W.nodesKL e hfit (fun i own G1 n=>nx<=n/\(∀ o,¬ own o)/\I i G1) (fun G1 n=>nx<=n/\J G1) Pn hf hpk hfn hps hps2
  (fun i own G n G' n' ⟨h0,h1,h2⟩ hn hG=>⟨by omega,h1,hI i G G' h2 fun o h=>hG o (by omega) (by omega)⟩) (fun i own G n ⟨h0,h1,h2⟩ o ho=>(h1 o ho).elim)
  (fun G n G' n' ⟨h0,h1⟩ hn hG=>⟨by omega,hJ G G' h1 fun o h=>hG o (by omega) (by omega)⟩) ⟨Nat.le_refl _,fun _ h=>h,h0⟩ ?_ (fun own G1 nx1 ⟨_,_,h⟩ hn=>hend G1 nx1 h hn) (fun G1 nx1 ⟨_,h⟩ hn=>hret G1 nx1 h hn) hpan
 rintro q i x own G1 nx1 lp0 lp1 Φr hq hx hn ⟨h0,h1,h2⟩ hlp next stop pan
 refine hround q i x G1 nx1 lp0 lp1 Φr hq hx hn h2 hlp (fun h3 h4 h5 h6=>next (fun _=>False) h3 (fun _ _ h=>h.elim) (fun o h7 h8 _=>h4 o h7 h8) ⟨by omega,fun _ h=>h,h5⟩ h6) (fun h3 h4 h5 h6=>stop (fun _=>False) h3 (fun _ _ h=>h.elim) (fun o h7 h8 _=>h4 o h7 h8) ⟨by omega,h5⟩ h6) pan
end Go.Abs

/- The program: how a node depends on each source. -/
open Go Go.Abs
namespace Go.Abs
set_option maxRecDepth 100000
set_option maxHeartbeats 4000000
instance fnis329:FnIs CC 29:=⟨rfl,fun _=>rfl⟩
instance fnis381:FnIs CC 81:=⟨rfl,fun _=>rfl⟩
theorem ret381 (e:Exp):Ret CC 81 [e.iv] (.fn (.func 147) [.fptr e.iv.cells 0]):=by
 obtain ⟨op,name,n,fold,calcs,kids⟩:=e
 refine Ret.of (fn:=Go.Proofs.Tryz.f81) (by kernel_rfl) rfl rfl ?_
 refine BB ?_
 exact W.retFin1 rfl ⟨_,rfl⟩
theorem W.retFinC2 {C:Cfg} {fid nt nx:Nat} {l:Env} {G:Nat->Obj} {a b:Nat} {t u:TypeId} {o o2:Nat} {k k2:TyI} {fr fr2:Bool} {v w:AV} {Ψ:AV->(Nat->Obj)->Nat->Prop} [hk:TyIs C t k] [hk2:TyIs C u k2] (ha:look l a=some (.ptr o 0)) (hG:G o = .box [v] fr) (hs:k.sz=1) (hg:k.d.isAgg=false)
  (hb:look l b=some (.ptr o2 0)) (hG2:G o2 = .box [w] fr2) (hs2:k2.sz=1) (hg2:k2.d.isAgg=false) (h:Ψ (mkTup [v,w]) G nx) :
  W C fid nt .ret l G nx [] .no (fin C [.cell a t, .cell b u] Ψ):=
 .ret fun t' ht=>⟨rfl,rfl,mkTup [v,w],by
  have e3:∀ x:AV,Go.Abs.sub [x] 0 1=some [x]:=fun _=>rfl
  simp only [resultsA,resultsL,resultA,ht _ _ ha,ht _ _ hb,aLoad,hk.is,hk2.is,readAt,hG,hG2,hs,hs2,e3,hg,hg2,Bool.false_eq_true,if_false],h⟩
theorem ret329 {p:Pgm} (hp:p.Fits) (d node:Int) (hnw:node<=9223372036854775807):Ret CC 29 [p.iv, .int .i64 d, .int .i64 node] (rowIV (nodeA p d node)):=by
 have h380:=ret380 hp d
 unfold nodeA
 cases hh:hasR p d with
 |false=>
  rw [hh] at h380
  obtain ⟨srcs,defs⟩:=p
  have bt:(!false)=true:=rfl
  refine Ret.of (fn:=Go.Proofs.Tryz.f29) (by kernel_rfl) rfl rfl ?_
  refine BB ?_
  exact W.retFinC2 rfl rfl rfl rfl rfl rfl rfl rfl ⟨[],rfl⟩
 |true=>
  obtain ⟨hpr,n,x,rfl,hx⟩:=hasR_at hh
  have hdl:=(List.getElem?_eq_some_iff.1 hx).1
  have h376:=ret376 hp hpr
  obtain ⟨hW,hI⟩:=lagsR_far hpr
  have hsm:=progR_small hpr
  have h4:=hsm.srcs
  rw [Int.toNat_natCast,expAt_at hx]
  rw [hh] at h380
  have bf:(!true)=false:=rfl
  have hxi:=at_map Dfn.iv hx
  have hcnt:=hsm.cnt n
  have hnp:=progR_nodeP hpr hdl
  rw [expAt_at hx] at hcnt hnp
  have h381:=ret381 x.exp
  have hfit:=hp.exp x (List.mem_of_getElem? hx)
  cases h1:decide (node < 0) with
  |true=>
   refine Ret.of (fn:=Go.Proofs.Tryz.f29) (by kernel_rfl) rfl rfl ?_
   refine BB ?_
   exact W.retFinC2 rfl rfl rfl rfl rfl rfl rfl rfl ⟨[],rfl⟩
  |false=>
   have g1:=of_decide_eq_false h1
   obtain ⟨s,rfl⟩:=Int.eq_ofNat_of_zero_le (show 0<=node by omega)
   have hxc:=x.cells_len
   have hexp:=fun y (hy:y∈allE x.exp) G nx lo hi kv=>@cal382 p hp hpr (lagsR p) 40000000 (by omega) hW hI 1000 y (by have:=(allE_in x.exp hy).2;omega) (Nat.le_refl _) (fun z hz=>hnp z ((allE_in x.exp hy).1 z hz)) G nx lo hi kv
   rw [Int.toNat_natCast]
   obtain ⟨nm,ex⟩:=x
   simp only at *
   have hex:=ex
   obtain ⟨o',s',n',f',c',k'⟩:=ex
   refine Ret.of (fn:=Go.Proofs.Tryz.f29) (by kernel_rfl) rfl rfl ?_
   refine BB ?_
   refine W.gen' (fun G2=>G2 0 = .box [.imm (.lst (p.srcs.map sv)), .imm (.lst (p.defs.map Dfn.iv))] false/\G2 1 = .box [.imm (.int .i64 s)] false/\G2 2 = .box [.nils] false/\G2 3 = .box [.imm (.int .i64 0)] false) ⟨rfl,rfl,rfl,rfl⟩ ?_
   rintro G ⟨g0,g1,g2,g3⟩
   refine W.nodesL (.mk o' s' n' f' c' k') hfit (fun i G1=>(∀ o,o < 19->o≠1->G1 o=G o)/\i<=s/\G1 1 = .box [.imm (.int .i64 ((s:Int)-(i:Int)))] false) (fun G1=>∃ y,(allE (.mk o' s' n' f' c' k'))[s]? = some y/\G1 2 = .box [.imm (lagsIV (allL p (lagsR p) y))] false/\G1 3 = .box [.imm (.int .i64 0)] false) (fun _ _ _=>False)
    rfl rfl rfl rfl rfl ?_ ?_ ?_ ?_ ?_ ?_ ?_
   ·rintro i G1 G2 ⟨a1,a2,a3⟩ hG
    exact ⟨fun o h5 h6=>(hG o h5).trans (a1 o h5 h6),a2,(hG 1 (by omega)).trans a3⟩
   ·rintro G1 G2 ⟨y,hy,a2,a3⟩ hG
    exact ⟨y,hy,(hG 2 (by omega)).trans a2,(hG 3 (by omega)).trans a3⟩
   ·exact ⟨fun _ _ _=>rfl,Nat.zero_le _,by simpa using g1⟩
   ·rintro q i y G1 nx1 lp0 lp1 Φr hq hy hn ⟨a1,a2,a3⟩ hlp next stop _
    have hym:=List.mem_of_getElem? hy
    have hc:=hexp y hym
    obtain ⟨oy,sy,ny,fy,cy,ky⟩:=y
    refine W.regionN ?_
    refine AQ ?_
    refine R.doneAstQ at_upd ?_
    refine W.gen' (fun G2=>G2 (nx1+0) = .box [.imm (.int .i64 oy), .imm (sv sy), .imm (.int .i64 ny), .imm (.int .i64 fy), .imm (.lst (Trm.ivs cy)), .imm (.lst (Exp.ivs ky))] false/\G2 q=lp1/\∀ o,o < nx1->o≠q->G2 o=G1 o) ⟨at_upd,at_upd,fun o _ _=>at_upd⟩ ?_
    rintro G2 ⟨hbx,hlp2,hfr2⟩
    have b0:=(hfr2 0 (by omega) (by omega)).trans ((a1 0 (by omega) (by omega)).trans g0)
    have b1:=(hfr2 1 (by omega) (by omega)).trans a3
    have b2:=(hfr2 2 (by omega) (by omega)).trans ((a1 2 (by omega) (by omega)).trans g2)
    have b3:=(hfr2 3 (by omega) (by omega)).trans ((a1 3 (by omega) (by omega)).trans g3)
    rcases Bool.eq_false_or_eq_true (((s:Int)-(i:Int))==0) with hA|hA
    ·have hsi:s=i:=by have:=beq_iff_eq.1 hA;omega
     subst hsi
     have hal:(allL p (lagsR p) (.mk oy sy ny fy cy ky)).length=p.srcs.length:=by simp [allL]
     have h378:=ret378 (l:=allL p (lagsR p) (.mk oy sy ny fy cy ky)) (by omega)
     generalize hA:allL p (lagsR p) (.mk oy sy ny fy cy ky)=A at *
     refine BN ?_
     refine D.callB rfl rfl rfl rfl rfl (by kernel_rfl) ((hc G2 _ 0 0 _ (.inl rfl) (by omega)).mono fun v G3 nx3 hv=>?_)
     obtain ⟨⟨ov,frv,hv1,hv2,rfl,hv3⟩,hn3,hG3⟩:=hv
     refine D.opU (O.callFz rfl (peeks_one (peek_row1 hv3 (by simp)) peeks_nil) h378 rfl) rfl rfl ?_
     refine D.gen' (fun G4=>G4 2 = .box [.nils] false/\G4 3 = .box [.imm (.int .i64 0)] false/\G4 q=lp1/\∀ o,q+2<=o->o < nx1->G4 o=G1 o) ⟨(frz1_ne (q:=ov) (by omega)).trans ((hG3 2 (by omega)).trans b2),(frz1_ne (q:=ov) (by omega)).trans ((hG3 3 (by omega)).trans b3),(frz1_ne (q:=ov) (by omega)).trans ((hG3 q (by omega)).trans hlp2),fun o h5 h6=>(frz1_ne (q:=ov) (by omega)).trans ((hG3 o (by omega)).trans (hfr2 o h6 (by omega)))⟩ ?_
     rintro G4 ⟨d2,d3,dlp,dfr⟩
     refine BB ?_
     exact stop (by omega) (fun o h5 h6=>Eq.trans at_upd (dfr o h5 h6)) ⟨_,hy,by rw [hA];exact at_upd,at_upd⟩ (Eq.trans at_upd dlp)
    ·have hsi:s≠i:=fun h=>by subst h;simp at hA
     refine BN ?_
     exact next (by omega) (fun o h5 h6=>(upd_ne _ _ _ _ (by omega)).trans (hfr2 o h6 (by omega))) ⟨fun o h5 h6=>(upd_ne _ _ _ _ (by omega)).trans ((hfr2 o (by omega) (by omega)).trans (a1 o h5 h6)),by omega,by rw [show ((s:Int)-((i+1:Nat):Int))=(s:Int)-(i:Int) + -1 by omega];exact upd_same ..⟩ ((upd_ne _ _ _ _ (by omega)).trans hlp2)
   ·rintro G1 nx1 ⟨a1,a2,a3⟩ hn
    have hge:((s:Int)>=((allE (.mk o' s' n' f' c' k')).length:Int)):=by omega
    rw [decide_eq_true hge]
    have b2:=(a1 2 (by omega) (by omega)).trans g2
    have b3:=(a1 3 (by omega) (by omega)).trans g3
    refine BN ?_
    refine W.retFinC2 rfl at_upd rfl rfl rfl at_upd rfl rfl ⟨[],rfl⟩
   ·rintro G1 nx1 ⟨y,hy,a2,a3⟩ hn
    have hlt:=(List.getElem?_eq_some_iff.1 hy).1
    rw [decide_eq_false (show ¬ ((s:Int)>=((allE (.mk o' s' n' f' c' k')).length:Int)) by omega),show (allE (.mk o' s' n' f' c' k')).getD s (.mk 0 [] 0 0 [] [])=y by rw [List.getD_eq_getElem?_getD,hy];rfl]
    refine BN ?_
    exact W.retFinC2 rfl a2 rfl rfl rfl a3 rfl rfl ⟨[],rfl⟩
   ·rintro u G1 nx1 hf
    exact hf.elim
end Go.Abs

/- The chapter's examples of lags: what the kernel reckons of them. -/
open Go Go.Abs
namespace Go.Abs
set_option maxRecDepth 100000
instance fnisEx:FnIs CC 62:=⟨rfl,fun _=>rfl⟩
theorem Ret.inj {f:FuncId} {ivs:List IV} {x y:IV} (hx:Ret CC f ivs x) (hy:Ret CC f ivs y):x=y:=by
 obtain ⟨n,v,G,nx,pk,ids,h1,h2⟩:=hx
 obtain ⟨m,w,H,ny,qk,jds,g1,g2⟩:=hy
 have a1:=(low_mono (C:=CC) (Nat.le_max_left n m)).1 _ _ _ _ _ _ h1
 have a2:=(low_mono (C:=CC) (Nat.le_max_right n m)).1 _ _ _ _ _ _ g1
 rw [a1] at a2
 cases a2
 rw [h2] at g2
 cases g2
 rfl
def exP:Pgm:=⟨[[120],[121]],[⟨[97], .mk 15 [] 0 0 [] [.mk 1 [120] 0 0 [] []]⟩,⟨[98], .mk 4 [] 0 0 [] [.mk 9 [] 5 2 [] [.mk 2 [97] 0 0 [] []], .mk 3 [98] 3 0 [] []]⟩,⟨[99], .mk 14 [] 2 0 [] [.mk 2 [97] 0 0 [] [], .mk 1 [121] 0 0 [] []]⟩]⟩
def exL:List (List Lg):=[[⟨true,false,0,0⟩,Lg.z],[⟨true,true,0,0⟩,Lg.z],[⟨true,false,0,0⟩,⟨true,false,2,2⟩]]
theorem retEx:Ret CC 62 [] exP.iv:=Ret.reckon (n:=20) (by kernel_rfl)
theorem retExP:Ret CC 20 [exP.iv] (.bool true):=Ret.reckon (n:=60) (by kernel_rfl)
theorem retExOf:Ret CC 76 [exP.iv] (knIV exP exL):=Ret.reckon (n:=60) (by kernel_rfl)
theorem retExI:Ret CC 38 [intsIV [13,15],intsIV [13,15]] (.bool true):=Ret.reckon (n:=20) (by kernel_rfl)
end Go.Abs

/- The chapter's examples of lags hold. -/
open Go Go.Abs
namespace Go.Abs
set_option maxRecDepth 100000
set_option maxHeartbeats 4000000
instance fnis333:FnIs CC 33:=⟨rfl,fun _=>rfl⟩
theorem exE (op:Int) (name:Str) (n fold:Int) (kids:List Exp) (h1:name.length<=10) (h2 : -50<=n/\n<=50) (h3:kids.length<=10) (hk:∀ k∈kids,Exp.Fits k):Exp.Fits (.mk op name n fold [] kids):=
 .mk _ _ _ _ _ _ (by unfold maxI;omega) (by
  show (decide (IntKind.i64.min<=n)&&decide (n<=IntKind.i64.max))=true
  rw [Bool.and_eq_true,decide_eq_true_eq,decide_eq_true_eq,show IntKind.i64.min = -9223372036854775808 from rfl,show IntKind.i64.max=9223372036854775807 from rfl];omega) (Nat.zero_le _) (by unfold maxI;omega) (fun _ h=>by cases h) hk
theorem no_kids:∀ k∈([]:List Exp),Exp.Fits k:=fun _ h=>by cases h
theorem two_all {α:Type} {P:α->Prop} {x y:α} (hx:P x) (hy:P y):∀ k∈[x,y],P k:=fun k h=>by
 rcases List.mem_cons.1 h with rfl|h
 ·exact hx
 ·rw [List.mem_singleton.1 h];exact hy
theorem one_all {α:Type} {P:α->Prop} {x:α} (hx:P x):∀ k∈[x],P k:=fun k h=>by rw [List.mem_singleton.1 h];exact hx
theorem exF:exP.Fits where
 srcs:=by decide
 src:=by decide
 defs:=by decide
 name:=by decide
 exp:=by
  have l:=fun op name h1=>exE op name 0 0 [] h1 (by decide) (by decide) no_kids
  intro d hd
  rcases List.mem_cons.1 hd with rfl|hd
  ·exact exE _ _ _ _ _ (by decide) (by decide) (by decide) (one_all (l 1 [120] (by decide)))
  rcases List.mem_cons.1 hd with rfl|hd
  ·exact exE _ _ _ _ _ (by decide) (by decide) (by decide) (two_all (exE _ _ _ _ _ (by decide) (by decide) (by decide) (one_all (l 2 [97] (by decide)))) (exE _ _ _ _ _ (by decide) (by decide) (by decide) no_kids))
  rw [List.mem_singleton.1 hd]
  exact exE _ _ _ _ _ (by decide) (by decide) (by decide) (two_all (l 2 [97] (by decide)) (l 1 [121] (by decide)))
theorem exR:progR exP=true:=by
 have:=Ret.inj (ret36 exP exF) retExP
 cases hb:progR exP with
 |true=>rfl
 |false=>rw [hb] at this;cases this
theorem lag_inj {a b:Lg} (h:a.iv=b.iv):a=b:=by
 obtain ⟨o,e,x,y⟩:=a
 obtain ⟨o',e',x',y'⟩:=b
 rw [Lg.iv_mk,Lg.iv_mk] at h
 cases h;rfl
theorem map_inj' {α β:Type} {f:α->β} (hf:∀ a b,f a=f b->a=b):∀ {l m:List α},l.map f=m.map f->l=m
 |[],[],_=>rfl
 |[],_::_,h=>by cases h
 |_::_,[],h=>by cases h
 |a::l,b::m,h=>by
  rw [List.map_cons,List.map_cons,List.cons.injEq] at h
  rw [hf a b h.1,map_inj' hf h.2]
theorem exLags:lagsR exP=exL:=by
 have h:=Ret.inj (ret376 exF exR) retExOf
 unfold knIV at h
 have h2:(lagsR exP).map lagsIV=exL.map lagsIV:=by
  simp only [IV.fptr.injEq,List.cons.injEq,IV.lst.injEq] at h
  exact h.1.2.2.2.1
 exact map_inj' (fun a b hab=>map_inj' (fun _ _=>lag_inj) (by unfold lagsIV at hab;exact IV.lst.inj hab)) h2
theorem exHas {d:Int} (h:0<=d/\d < 3):hasR exP d=true:=by
 unfold hasR
 rw [exR,decide_eq_true (by omega),decide_eq_true (show d < ((exP.defs.length:Nat):Int) from h.2)];rfl
theorem Ret.eq {f:FuncId} {ivs:List IV} {x y:IV} (h:Ret CC f ivs x) (e:x=y):Ret CC f ivs y:=e▸h
theorem ret333:Ret CC 33 [] (.bool true):=by
 have hEx:=retEx
 have hOf:=ret327 exF
 have hNode:=ret329 exF 2 0 (by decide)
 have hSeal:=fun (m:List Int) (h:m.length<=maxI)=>ret334 exF h 2
 have hNeed:=ret336 exF 2 12
 have hT1:=ret339 exF 2 1 11
 have hT2:=ret339 exF 0 1 11
 unfold ofA at hOf
 unfold nodeA at hNode
 unfold sealA at hSeal
 unfold needA at hNeed
 unfold touchA at hT1 hT2
 rw [exR] at hOf
 rw [exHas (by decide)] at hNode hNeed hT1 hT2
 simp only [exHas (d:=2) (by decide)] at hSeal
 simp only [exLags] at hOf hNode hSeal hNeed hT1 hT2
 have hOf:Ret CC 27 [exP.iv] (.tup [.lst (exL.map lagsIV), .int .i64 0]):=hOf.eq (by kernel_rfl)
 have hNode:Ret CC 29 [exP.iv, .int .i64 2, .int .i64 0] (.tup [lagsIV [⟨true,false,0,0⟩,⟨true,false,2,2⟩], .int .i64 0]):=hNode.eq (by kernel_rfl)
 have hSeal1:Ret CC 34 [exP.iv,intsIV [20,15], .int .i64 2] (.tup [.int .i64 13, .int .i64 0]):=(hSeal [20,15] (by decide)).eq (by kernel_rfl)
 have hSeal2:Ret CC 34 [exP.iv,intsIV [201,199], .int .i64 2] (.tup [.int .i64 197, .int .i64 0]):=(hSeal [201,199] (by decide)).eq (by kernel_rfl)
 have hNeed:Ret CC 36 [exP.iv, .int .i64 2, .int .i64 12] (.tup [intsIV [13,15], .int .i64 0]):=hNeed.eq (by kernel_rfl)
 have hT1:Ret CC 39 [exP.iv, .int .i64 2, .int .i64 1, .int .i64 11] (.tup [.int .i64 9, .int .i64 13, .int .i64 0]):=hT1.eq (by kernel_rfl)
 have hT2:Ret CC 39 [exP.iv, .int .i64 0, .int .i64 1, .int .i64 11] (.tup [.int .i64 0, .int .i64 0, .int .i64 5]):=hT2.eq (by kernel_rfl)
 have hAll:Ret CC 31 [.lst (exL.map lagsIV), .lst (exL.map lagsIV)] (.bool true):=by
  have h:=ret331 (a:=exL) (b:=exL) (by
   have:=(lagsR_far exR).2
   rw [exLags] at this
   exact this.mono (by omega)) (by
   have:=(lagsR_far exR).2
   rw [exLags] at this
   exact this.mono (by omega)) (by decide) (fun i=>by
   rw [List.getD_eq_getElem?_getD]
   cases h:exL[i]? with
   |none=>exact Nat.zero_le _
   |some r=>
    have:=(lagsR_far exR).1
    rw [exLags] at this
    have:=this.row r (List.mem_of_getElem? h)
    show r.length<=1000
    rw [this];decide)
  exact h.eq (by rw [rowsEq_iff.2 rfl])
 have hSm:Ret CC 32 [lagsIV [⟨true,false,0,0⟩,⟨true,false,2,2⟩],lagsIV [⟨true,false,0,0⟩,⟨true,false,2,2⟩]] (.bool true):=by
  have hin:∀ x∈[(⟨true,false,0,0⟩:Lg),⟨true,false,2,2⟩],x.In 4294967296:=two_all ⟨by decide,by decide⟩ ⟨by decide,by decide⟩
  exact (ret332 hin hin (by decide)).eq (by rw [lagsEq_iff.2 rfl])
 have hInt:=retExI
 clear hSeal
 refine Ret.of (fn:=Go.Proofs.Tryz.f33) (by kernel_rfl) rfl rfl ?_
 refine BB ?_
 refine R.op0 (O.callG rfl (peeks_im (peeks_one (peek_row1 (xs:=[.int .i64 20, .int .i64 15]) at_upd rfl) (peeks_im peeks_nil))) hSeal1 rfl) rfl ?_
 refine BB ?_
 refine R.op0 (O.callG rfl (peeks_im (peeks_one (peek_row1 (xs:=[.int .i64 201, .int .i64 199]) at_upd rfl) (peeks_im peeks_nil))) hSeal2 rfl) rfl ?_
 refine BB ?_
 refine R.op0 (O.callG rfl rfl hAll rfl) rfl ?_
 refine BB ?_
 refine R.op0 (O.addrRX rfl inferInstance rfl rfl rfl rfl ⟨by decide,by decide⟩ rfl) rfl ?_
 refine BB ?_
 refine R.op0 (O.loadRX rfl rfl rfl rfl rfl rfl rfl) rfl ?_
 refine BB ?_
 refine R.op0 (O.callG rfl rfl hSm rfl) rfl ?_
 refine BB ?_
 refine R.op0 (O.callG rfl rfl hInt rfl) rfl ?_
 refine BB ?_
 exact W.retFin1 rfl ⟨[],rfl⟩
end Go.Abs

/- Rings. -/
open Go Go.Abs
namespace Go.Abs
set_option maxRecDepth 100000
set_option maxHeartbeats 4000000
theorem O.conv {id:Nat} {l:Env} {G:Nat->Obj} {nx:Nat} {df:List (AV×List AV)} {pk:Pk} {t u:TypeId} {x:Operand} {k k':IntKind} {n:Int} {i j:TyI} [hi:TyIs CC t i] [hj:TyIs CC u j] (hk:j.d = .int k) (hx:lookO l x=some (.imm (.int k' n))) (hw:k.wrap n=n) :
  OpV CC id l G nx df pk (.convert t u x) (.imm (.int k n)) []:=
 O.of fun t L ht=>by simp only [opA,ht.ev hx,aConvert,hi.is,hj.is,hk,hw]
theorem remN (a n:Nat) (hn:0 < n):intOp .rem .i64 (a:Int) (n:Int)=some (.int .i64 ((a % n:Nat):Int)):=by
 have h0:¬ ((n:Int)=0):=by omega
 have:((a:Int).tmod n)=((a % n:Nat):Int):=by rw [Int.tmod_eq_emod_of_nonneg (by omega)];rfl
 simp only [intOp,if_neg h0,this]
end Go.Abs

/- LagSound. -/
open Go Go.Abs
namespace Go.Abs
set_option maxRecDepth 100000
set_option maxHeartbeats 4000000
theorem fine_is {p:Pgm} {l:List Evt} (h:fineB p l=true):progR p=true/\(l.length<=60/\∀ x∈l,Tin x.r.a)/\∃ E,meanM p (srcsM p l)=some E:=by
 unfold fineB askedB at h
 rw [Bool.and_eq_true,Bool.and_eq_true,Option.isSome_iff_exists] at h
 exact ⟨h.1.1,events_is h.1.2,h.2⟩
theorem srcs_is {p:Pgm} {l:List Evt} (hok:∀ x∈l,x.Ok) (h:l.length<=60/\∀ x∈l,Tin x.r.a):BagsIs (srcsM p l):=fun b hb=>by
 obtain ⟨s,_,rfl⟩:=List.mem_map.1 hb
 have:=says_is hok h.2 (s:Nat)
 exact ⟨this.1,by omega⟩
theorem bag_el {E:List (List Bi)} {d:Nat} (h:d < E.length):(E.map bagIV)[(d:Int).toNat]? = some (bagIV (atL E d)):=by
 rw [Int.toNat_natCast,List.getElem?_map,List.getElem?_eq_getElem h]
 unfold atL
 rw [List.getD_eq_getElem?_getD,List.getElem?_eq_getElem h];rfl
theorem cut_len (b:List Bi) (lo hi:Int):(cutB b lo hi).length<=b.length:=List.length_filter_le ..
theorem cut_okB {b:List Bi} (h:∀ y∈b,y.Ok) (lo hi:Int):∀ y∈cutB b lo hi,y.Ok:=fun y hy=>h y (mem_cut.1 hy).1
theorem atL_len {L:List (List Bi)} (h:BagsIs L) (i:Nat):(atL L i).length<=1000:=(getD_bags (P:=fun b=>BagIs b/\b.length<=1000) ⟨BagIs.nil,Nat.zero_le _⟩ h i).2
end Go.Abs

/- LagOne. -/
open Go Go.Abs
namespace Go.Abs
set_option maxRecDepth 100000
set_option maxHeartbeats 4000000
theorem u8_nat {a:Int} (hw:(Lit.int .u8 a).wf=true):∃ n:Nat,a=n/\n<=255:=by
 have h:(decide (IntKind.u8.min<=a)&&decide (a<=IntKind.u8.max))=true:=hw
 rw [Bool.and_eq_true,decide_eq_true_eq,decide_eq_true_eq,show IntKind.u8.min=0 from rfl,show IntKind.u8.max=255 from rfl] at h
 exact ⟨a.toNat,by omega,by omega⟩
theorem events_src {p:Pgm} {l:List Evt} (h:eventsB (p.srcs.length:Nat) l=true):∀ x∈l,0<=x.s/\x.s < (p.srcs.length:Int):=fun x hx=>by
 unfold eventsB at h
 rw [Bool.and_eq_true,Bool.and_eq_true,List.all_eq_true] at h
 obtain ⟨i,hi⟩:=List.mem_iff_getElem?.1 hx
 have h1:=h.2 i (List.mem_range.2 (List.getElem?_eq_some_iff.1 hi).1)
 have h0:=h.1.1
 unfold evOk at h1
 rw [hi] at h1
 simp only [Bool.and_eq_true] at h1
 have h2:=h1.1.1.1.1
 unfold inR at h0 h2
 simp only [Bool.and_eq_true,decide_eq_true_eq] at h0 h2
 rw [w64_id (by omega) (by omega)] at h2
 omega
theorem cut_all {b:List Bi} (h:BagIs b):cutB b 0 200=b:=List.filter_eq_self.2 fun x hx=>by
 have:=h.tin x hx
 rw [decide_eq_true this.1,decide_eq_true this.2];rfl
theorem touchA_at {p:Pgm} {l:List Evt} (hpr:progR p=true) (he:eventsB (p.srcs.length:Nat) l=true) {x:Evt} (hx:x∈l) {d:Nat} (hd:d < p.defs.length):∃ s:Nat,x.s=s/\s < p.srcs.length/\touchA p (d:Nat) x.s x.r.a=touchT (colD (lagsR p) s d) x.r.a:=by
 obtain ⟨h1,h2⟩:=events_src he x hx
 have ht:=(events_is he).2 x hx
 unfold Tin at ht
 obtain ⟨s,hs⟩:=Int.eq_ofNat_of_zero_le h1
 refine ⟨s,hs,by omega,?_⟩
 have hh:hasR p (d:Int)=true:=by
  unfold hasR
  rw [hpr]
  simp only [Bool.true_and,Bool.and_eq_true,decide_eq_true_eq]
  omega
 unfold touchA
 rw [hh,hs,decide_eq_false (show ¬ ((s:Int) < 0) by omega),decide_eq_false (show ¬ ((s:Int)>=(p.srcs.length:Int)) by omega),decide_eq_false (show ¬ (x.r.a < 0) by omega),decide_eq_false (show ¬ (x.r.a > 200) by omega)]
 rfl
theorem askedB_ev {p:Pgm} {l:List Evt} (h:fineB p l=true):eventsB (p.srcs.length:Nat) l=true:=by
 unfold fineB askedB at h
 rw [Bool.and_eq_true,Bool.and_eq_true] at h
 exact h.1.2
theorem one_is {p:Pgm} {A:List Evt} (hpr:progR p=true) (hA:∀ x∈A,x.Ok) (he:eventsB (p.srcs.length:Nat) A=true) {k:Nat} {x:Evt} (hx:A[k]? = some x) {EA EB:List (List Bi)} (hm:Both p (srcsM p A) (srcsM p (A.take k++A.drop (k+1))) EA EB) {d:Nat} (hd:d < p.defs.length) :
  ∃ f g e,touchA p (d:Nat) x.s x.r.a=(f,g,e)/\((e=0/\0<=f/\g<=200/\f<=g/\cutB (atL EA d) 0 (f-1)=cutB (atL EB d) 0 (f-1)/\cutB (atL EA d) (g+1) 200=cutB (atL EB d) (g+1) 200)\/(e=5/\atL EA d=atL EB d)):=by
 obtain ⟨s,hs,hsl,hT⟩:=touchA_at hpr he (List.mem_of_getElem? hx) hd
 have hti:=touch_is (colD (lagsR p) s d) x.r.a
 rw [hT]
 have hat:∀ t,meetsB (colD (lagsR p) s d) t x.r.a=false->AtEq t (atL EA d) (atL EB d):=fun t h=>hm.same d t (told_one hA hx fun s' hs'=>by
  obtain rfl:s'=s:=by omega
  exact h)
 generalize touchT (colD (lagsR p) s d) x.r.a=T at hti
 obtain ⟨f,g,e⟩:=T
 simp only at hti
 refine ⟨f,g,e,rfl,?_⟩
 have hua:=atL_is hm.a d
 have hub:=atL_is hm.b d
 rcases hti with ⟨h1,h2,h3,h4,h5⟩|⟨h1,h2⟩
 ·refine .inl ⟨h1,h2,h3,h4,?_,?_⟩
  ·exact cut_eq hua.srt hub.srt fun t t1 t2=>hat t (h5 t t1 (by omega) (.inl (by omega)))
  ·exact cut_eq hua.srt hub.srt fun t t1 t2=>hat t (h5 t (by omega) t2 (.inr (by omega)))
 ·refine .inr ⟨h1,?_⟩
  rw [<-cut_all hua,<-cut_all hub]
  exact cut_eq hua.srt hub.srt fun t t1 t2=>hat t (h2 t t1 t2)
theorem ret309 {p:Pgm} (hp:p.Fits) {A:List Evt} (hA:A.length<=maxI/\∀ x∈A,x.Ok) (a:Int) (hw:(Lit.int .u8 a).wf=true):Ret CC 9 [p.iv,evsIV A, .int .u8 a] (.bool true):=by
 have h7:=ret333
 obtain ⟨a,rfl,ha⟩:=u8_nat hw
 have h341A:=ret341 hp hA.1 hA.2
 have bt:(!false)=true:=rfl
 have bf:(!true)=false:=rfl
 have hAm:(A.map Evt.iv).length=A.length:=List.length_map ..
 rcases Bool.eq_false_or_eq_true (((A.map Evt.iv).length:Int)==0) with hz|hz
 ·obtain ⟨srcs,defs⟩:=p
  refine Ret.of (fn:=Go.Proofs.Tryz.f9) (by kernel_rfl) rfl rfl ?_
  refine BB ?_
  exact W.retFin1 rfl ⟨[],rfl⟩
 have hn:0 < A.length:=by
  rcases Nat.eq_zero_or_pos A.length with h|h
  ·rw [hAm,h] at hz;cases hz
  ·exact h
 cases hfA:fineB p A with
 |false=>
  rw [hfA] at h341A
  obtain ⟨srcs,defs⟩:=p
  refine Ret.of (fn:=Go.Proofs.Tryz.f9) (by kernel_rfl) rfl rfl ?_
  refine BB ?_
  exact W.retFin1 rfl ⟨[],rfl⟩
 |true=>
  rw [hfA] at h341A
  obtain ⟨hpr,hAt,EA,hEA⟩:=fine_is hfA
  have hev:=askedB_ev hfA
  have q1:=remN a A.length hn
  rw [<-hAm] at q1
  have hk:a % (A.map Evt.iv).length < A.length:=by rw [hAm];exact Nat.mod_lt _ hn
  generalize a % (A.map Evt.iv).length=k at *
  have hless:(A.take k++A.drop (k+1)).length<=60:=by rw [List.length_append,List.length_take,List.length_drop];omega
  have hlo:∀ x∈A.take k++A.drop (k+1),x.Ok:=fun y hy=>by
   rcases List.mem_append.1 hy with hy|hy
   ·exact hA.2 y (List.mem_of_mem_take hy)
   ·exact hA.2 y (List.mem_of_mem_drop hy)
  have h341B:=ret341 (l:=A.take k++A.drop (k+1)) hp (by show _<=9223372036854775807;omega) hlo
  have hca:(A.map Evt.iv).all (fun y=>y.cells.length==5)=true:=List.all_eq_true.2 fun y hy=>by obtain ⟨z,_,rfl⟩:=List.mem_map.1 hy;rfl
  have et:((A.map Evt.iv).take k).drop 0=(A.take k).map Evt.iv:=by rw [List.drop_zero,List.map_take]
  have ed:((A.map Evt.iv).take (A.map Evt.iv).length).drop (k+1)=(A.drop (k+1)).map Evt.iv:=by rw [List.take_length,List.map_drop]
  have hfe:∀ l:List Evt,((l.map Evt.iv).map AV.imm).all (AV.fits 5)=true:=fun l=>fits_all fun y hy=>by obtain ⟨z,_,rfl⟩:=List.mem_map.1 hy;rfl
  have hmk:∀ l:List Evt,((l.map Evt.iv).map AV.imm).length=l.length:=fun l=>by simp
  have h1t:=hfe (A.take k)
  have h1d:=hfe (A.drop (k+1))
  have l1:=hmk (A.take k)
  have l2:=hmk (A.drop (k+1))
  have l3:(A.take k).length<=60:=by rw [List.length_take];omega
  have l4:(A.drop (k+1)).length<=60:=by rw [List.length_drop];omega
  unfold evsIV at h341B
  rw [List.map_append] at h341B
  have hpk:∀ (G:Nat->Obj) (q:Nat),G q = .row 83 5 (((A.take k).map Evt.iv).map .imm++((A.drop (k+1)).map Evt.iv).map .imm) false->Go.Abs.peek G pkDepth (.row q (((A.take k).map Evt.iv).map AV.imm++((A.drop (k+1)).map Evt.iv).map AV.imm).length)=some (.lst ((A.take k).map Evt.iv++(A.drop (k+1)).map Evt.iv),[q]):=fun G q h=>by
   rw [<-List.map_append] at h ⊢
   exact peek_row1 h (by rw [List.length_map])
  have hsub:intOp .add .i64 (k:Int) 1=some (.int .i64 ((k+1:Nat):Int)):=by
   simp only [intOp]
   rw [wrap64 (by omega)]
   rfl
  cases hfB:fineB p (A.take k++A.drop (k+1)) with
  |false=>
   rw [hfB] at h341B
   obtain ⟨srcs,defs⟩:=p
   generalize (A.take k).map Evt.iv=LT at *
   generalize (A.drop (k+1)).map Evt.iv=LD at *
   refine Ret.of (fn:=Go.Proofs.Tryz.f9) (by kernel_rfl) rfl rfl ?_
   refine BB ?_
   refine R.op0 (O.conv rfl rfl (wrap64 (by omega))) rfl ?_
   refine BB ?_
   refine R.op0 (O.int rfl rfl q1) rfl ?_
   refine BB ?_
   refine D.op0 (O.sliceL (a:=0) (xs:=A.map Evt.iv) rfl rfl (boundE_at (n:=(A.map Evt.iv).length) (i:=k) rfl rfl (by omega)) rfl hca) rfl rfl ?_
   rw [et]
   refine D.op1 (O.appNil rfl rfl rfl rfl (ys:=LT.map AV.imm) rfl (by decide) (by decide) rfl h1t (by rw [l1];simp only [most];omega)) rfl rfl ?_
   refine BD ?_
   refine D.op0 (O.sliceL (b:=(A.map Evt.iv).length) (xs:=A.map Evt.iv) rfl rfl rfl (boundE_at (n:=(A.map Evt.iv).length) (i:=k+1) rfl rfl (by omega)) hca) rfl rfl ?_
   rw [ed]
   refine D.op1 (O.appRow rfl rfl rfl at_upd rfl rfl (ys:=LD.map AV.imm) rfl (by decide) (by decide) rfl h1d (by rw [l1,l2];simp only [most];omega)) rfl rfl ?_
   refine BD ?_
   refine D.done (by kernel_rfl) ?_
   refine BB ?_
   refine R.op0 (O.callGx rfl ⟨_,peeks_im (peeks_one (hpk _ _ at_upd) peeks_nil)⟩ h341B rfl) rfl ?_
   refine BB ?_
   exact W.retFin1 rfl ⟨[],rfl⟩
  |true=>
   rw [hfB] at h341B
   obtain ⟨-,hBt,EB,hEB⟩:=fine_is hfB
   have hm:=mean_two hpr (srcs_is hA.2 hAt) (srcs_is hlo hBt) hEA hEB
   have h344A:=ret344 hp hpr hAt.1 hA.2 hAt.2
   have h344B:=ret344 hp hpr hBt.1 hlo hBt.2
   rw [hEA] at h344A
   rw [hEB] at h344B
   unfold meanIV at h344A h344B
   unfold evsIV at h344B
   rw [List.map_append] at h344B
   simp only at h344A h344B
   obtain ⟨x,hx⟩:=at_lt hk
   have hxi:=ev_at hx
   have h339:=fun d=>ret339 hp d x.s x.r.a
   have hone:=fun d (hd:d < p.defs.length)=>one_is hpr hA.2 hev hx hm hd
   have hua:=atL_is hm.a
   have hub:=atL_is hm.b
   have hla:=atL_len hm.a
   have hlb:=atL_len hm.b
   have hea:=fun d (hd:d < p.defs.length)=>bag_el (E:=EA) (d:=d) (by rw [hm.la];exact hd)
   have heb:=fun d (hd:d < p.defs.length)=>bag_el (E:=EB) (d:=d) (by rw [hm.lb];exact hd)
   have hdm:(p.defs.map Dfn.iv).length=p.defs.length:=List.length_map ..
   have h6:=(progR_small hpr).len
   have h60:=hAt.1
   clear hm hEA hEB hlo hBt hAt
   generalize touchA p=tA at *
   obtain ⟨srcs,defs⟩:=p
   simp only at *
   generalize (A.take k).map Evt.iv=LT at *
   generalize (A.drop (k+1)).map Evt.iv=LD at *
   refine Ret.of (fn:=Go.Proofs.Tryz.f9) (by kernel_rfl) rfl rfl ?_
   refine BB ?_
   refine R.op0 (O.conv rfl rfl (wrap64 (by omega))) rfl ?_
   refine BB ?_
   refine R.op0 (O.int rfl rfl q1) rfl ?_
   refine BB ?_
   refine D.op0 (O.sliceL (a:=0) (xs:=A.map Evt.iv) rfl rfl (boundE_at (n:=(A.map Evt.iv).length) (i:=k) rfl rfl (by omega)) rfl hca) rfl rfl ?_
   rw [et]
   refine D.op1 (O.appNil rfl rfl rfl rfl (ys:=LT.map AV.imm) rfl (by decide) (by decide) rfl h1t (by rw [l1];simp only [most];omega)) rfl rfl ?_
   refine BD ?_
   refine D.op0 (O.sliceL (b:=(A.map Evt.iv).length) (xs:=A.map Evt.iv) rfl rfl rfl (boundE_at (n:=(A.map Evt.iv).length) (i:=k+1) rfl rfl (by omega)) hca) rfl rfl ?_
   rw [ed]
   refine D.op1 (O.appRow rfl rfl rfl at_upd rfl rfl (ys:=LD.map AV.imm) rfl (by decide) (by decide) rfl h1d (by rw [l1,l2];simp only [most];omega)) rfl rfl ?_
   refine BD ?_
   refine D.done (by kernel_rfl) ?_
   refine BB ?_
   refine R.op0 (O.callGx rfl ⟨_,peeks_im (peeks_one (hpk _ _ at_upd) peeks_nil)⟩ h341B rfl) rfl ?_
   refine BB ?_
   refine R.opU (O.callFz (ids:=_++[]) rfl (peeks_im (peeks_one (hpk _ _ at_upd) peeks_nil)) h344B rfl) rfl ?_
   refine BB ?_
   refine W.loop (X:=Nat) (fun d=>[(1, .imm (evsIV A)),(3, .ptr 0 0),(7, .imm (.int .i64 k)),(9, .imm (.lst (EA.map bagIV))),(11, .imm (.lst (EB.map bagIV))),(13, .imm (.int .i64 d))])
    (fun d nx G=>1<=nx/\d<=defs.length/\G 0 = .box [.imm (.lst (srcs.map sv)), .imm (.lst (defs.map Dfn.iv))] false) (fun d=>defs.length-d) 0 .auto ⟨by omega,Nat.zero_le _,rfl⟩ ?_
   rintro d nx G ⟨hnx,hd,g0⟩
   refine BN ?_
   refine W.cond rfl (fun h1=>?_) (fun h1=>?_)
   ·have hlt:d < defs.length:=by have:=of_decide_eq_true h1;omega
    have hmu:defs.length-(d+1) < defs.length-d:=by omega
    have h339':=h339 (d:Nat)
    obtain ⟨f,g,e,hT,hcase⟩:=hone d hlt
    rw [hT] at h339'
    unfold trip at h339'
    simp only at h339'
    have hea':=hea d hlt
    have heb':=heb d hlt
    have hua':=hua d
    have hub':=hub d
    have hla':=hla d
    have hlb':=hlb d
    generalize atL EA d=u at *
    generalize atL EB d=v at *
    obtain ⟨xs,xid,⟨xa,xk,xv⟩⟩:=x
    simp only at h339'
    rcases hcase with ⟨rfl,f0,g2,fg,hc1,hc2⟩|⟨rfl,hc⟩
    ·have bz:((0:Int)==5)=false:=rfl
     have bz2:((0:Int) != 0)=false:=rfl
     have d1:decide (f < 0)=false:=decide_eq_false (by omega)
     have d2:decide (g > 200)=false:=decide_eq_false (by omega)
     have d3:decide (f > g)=false:=decide_eq_false (by omega)
     have h346u:=ret346 (b:=u) (by omega) 0 (f-1)
     have h346v:=ret346 (b:=v) (by omega) 0 (f-1)
     have h345a:=ret345 (a:=cutB u 0 (f-1)) (b:=cutB v 0 (f-1)) (by have:=cut_len u 0 (f-1);omega) (cut_okB hua'.ok _ _) (cut_okB hub'.ok _ _)
     have h346u2:=ret346 (b:=u) (by omega) (g+1) 200
     have h346v2:=ret346 (b:=v) (by omega) (g+1) 200
     have h345b:=ret345 (a:=cutB u (g+1) 200) (b:=cutB v (g+1) 200) (by have:=cut_len u (g+1) 200;omega) (cut_okB hua'.ok _ _) (cut_okB hub'.ok _ _)
     rw [bagSame_iff.2 hc1] at h345a
     rw [bagSame_iff.2 hc2] at h345b
     refine BN ?_
     exact W.skipLop (d+1) hmu .auto ⟨by omega,hlt,g0⟩
    ·have bz:((5:Int)==5)=true:=rfl
     have h345:=ret345 (a:=u) (b:=v) (by omega) hua'.ok hub'.ok
     rw [bagSame_iff.2 hc] at h345
     refine BN ?_
     exact W.skipLop (d+1) hmu .auto ⟨by omega,hlt,g0⟩
   ·refine BN ?_
    exact W.retFin1 rfl ⟨[],rfl⟩
end Go.Abs

/- Events, as they are read. -/
open Go Go.Abs
namespace Go.Abs
set_option maxRecDepth 100000
section
open Go.Proofs
theorem shape_rc {N:Nat} {ivs:List IV} (h:Shape Tryz.prog N 81 ivs):∃ r:Rc,ivs=[.int .i64 r.a, .int .i64 r.k, .int .i64 r.v]/\r.Ok:=by
 obtain ⟨css,rfl,hl,hc⟩:=shape_st Tryz.underlying81 h
 obtain ⟨x,y,z,rfl⟩:=len3 hl
 obtain ⟨a,rfl,ha⟩:=shape_int Tryz.underlying3 (hc 0 _ _ rfl rfl)
 obtain ⟨b,rfl,hb⟩:=shape_int Tryz.underlying3 (hc 1 _ _ rfl rfl)
 obtain ⟨c,rfl,hcc⟩:=shape_int Tryz.underlying3 (hc 2 _ _ rfl rfl)
 exact ⟨⟨a,b,c⟩,rfl,ha,hb,hcc⟩
theorem shape_evt {N:Nat} {ivs:List IV} (h:Shape Tryz.prog N 83 ivs):∃ x:Evt, .agg ivs=x.iv/\x.Ok:=by
 obtain ⟨css,rfl,hl,hc⟩:=shape_st Tryz.underlying83 h
 obtain ⟨x,y,z,rfl⟩:=len3 hl
 obtain ⟨a,rfl,ha⟩:=shape_int Tryz.underlying3 (hc 0 _ _ rfl rfl)
 obtain ⟨b,rfl,hb⟩:=shape_int Tryz.underlying3 (hc 1 _ _ rfl rfl)
 obtain ⟨r,rfl,hr⟩:=shape_rc (hc 2 _ _ rfl rfl)
 exact ⟨⟨a,b,r⟩,rfl,ha,hb,hr⟩
theorem shape_evts {N:Nat} {ivs:List IV} (h:Shape Tryz.prog N 65 ivs):∃ l:List Evt,ivs=[evsIV l]/\(l.length<=maxI/\l.length<=N)/\∀ x∈l,x.Ok:=by
 obtain ⟨xs,rfl,hl,hN,hx,ha,hn⟩:=shape_sl Tryz.underlying65 h
 obtain ⟨l,rfl,hl2⟩:=list_of (f:=Evt.iv) (p:=Evt.Ok) (xs:=xs) fun x hxm=>by
  obtain ⟨cs,rfl⟩:=ha x hxm (by kernel_rfl)
  obtain ⟨y,h1,h2⟩:=shape_evt (hx _ hxm)
  exact ⟨y,h1,h2⟩
 rw [List.length_map] at hl hN
 exact ⟨l,rfl,⟨hl,hN⟩,hl2⟩
end
def evtTypes:List TypeId:=[3,81,83,65,67]
theorem evt_closed:closedS Go.Proofs.Tryz.prog evtTypes=true:=by kernel_rfl
theorem read_evts {H:Type} {enc:TypeId×Value->H} {w:World} {held:Bool} {sp:Nat->Bool} {v:Value} {d:DataW H} {ps:List MemPlace} {b0:Nat} (hv:Value.okWide Go.Proofs.Tryz.prog w .any b0 65 v) (h:DataW.Trod enc Go.Proofs.Tryz.prog w 0 sp held 65 v d ps) :
  ∃ l:List Evt,VI (heapM w) (evsIV l) v/\l.length<=maxI/\∀ x∈l,x.Ok:=by
 obtain ⟨n,hn⟩:=h
 obtain ⟨ivs,h1,h2,h3,h4⟩:=read_ok evt_closed n 65 _ _ _ (Nat.le_refl _) (by decide) hn
 obtain ⟨l,rfl,hl,hk⟩:=shape_evts h4
 refine ⟨l,?_,hl.1,hk⟩
 have h5:=h3 0 _ rfl
 cases v with
 |agg cs=>
  exfalso
  simp [Value.okWide,Cell.okWide,Cell.ok,Go.Proofs.Tryz.underlying65] at hv
 |_=>exact h5
end Go.Abs
