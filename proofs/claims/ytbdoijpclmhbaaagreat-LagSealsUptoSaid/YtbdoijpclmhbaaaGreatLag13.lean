/- Walks over the nodes of an expression: the lags' own. (The text of TaNodes, for another walk.) -/
import Derived.Test.YtbdoijpclmhbaaaGreatLag12
open Go Go.Abs
namespace Go.Abs
set_option maxRecDepth 100000
set_option maxHeartbeats 4000000
variable {q N:Nat} {l:List Exp} {K:Kp} {J:(Nat->Obj)->Nat->Prop} {Pn:IV->(Nat->Obj)->Nat->Prop}
structure BxL (q N yb wb nx:Nat) (own:Own1) (G:Nat->Obj):Prop where
 y:G yb = .box [.yld q] false
 w:G wb = .box [.fn (.func 148) [.ptr yb 0, .ptr wb 0]] false
 yl:N<=yb/\yb < nx/\¬ own yb
 wl:N<=wb/\wb < nx/\¬ own wb
theorem BxL.fr {q N yb wb nx nx':Nat} {own own':Own1} {G G':Nat->Obj} (h:BxL q N yb wb nx own G) (hn:nx<=nx') (ho:∀ o,o < nx->own' o->own o) (hG:∀ o,N<=o->o < nx->¬ own o->G' o=G o):BxL q N yb wb nx' own' G':=
 ⟨(hG _ h.yl.1 h.yl.2.1 h.yl.2.2).trans h.y,(hG _ h.wl.1 h.wl.2.1 h.wl.2.2).trans h.w,⟨h.yl.1,by have:=h.yl.2.1;omega,fun h'=>h.yl.2.2 (ho _ h.yl.2.1 h')⟩,⟨h.wl.1,by have:=h.wl.2.1;omega,fun h'=>h.wl.2.2 (ho _ h.wl.2.1 h')⟩⟩
def WalkOKL (q N:Nat) (l:List Exp) (K:Kp) (J:(Nat->Obj)->Nat->Prop) (Pn:IV->(Nat->Obj)->Nat->Prop) (e:Exp):Prop:=
 ∀ k own yb wb nx G,From l (allE e) k->K k own G nx->BxL q N yb wb nx own G->CalP CC 148 [.imm e.iv, .ptr yb 0, .ptr wb 0] G nx (WPost N K J Pn (k+(allE e).length) (isB true) (isB false) own G nx)
theorem cal449 (hw:Walk q N l K J Pn) {e:Exp} (he:WalkOKL q N l K J Pn e) {k yb wb nx:Nat} {own:Own1} {G:Nat->Obj} (hf:From l (allE e) k) (hI:K k own G nx) (hB:BxL q N yb wb nx own G) :
  CalP CC 149 [.imm e.iv, .ptr wb 0] G nx (WPost N K J Pn (k+(allE e).length) (isB false) (isB true) own G nx):=by
 have hc:=fun nx1 G1 (h2:nx<=nx1) (h3:∀ o,o < nx->G1 o=G o)=>he k own yb wb nx1 G1 hf (hw.frame k own G nx G1 nx1 hI h2 h3) (hB.fr (nx':=nx1) h2 (fun _ _ h=>h) fun o _ h _=>h3 o h)
 have hwG:=hB.w
 have hwl:=hB.wl
 obtain ⟨op,name,n',fold,calcs,kids⟩:=e
 refine CalP.of (fn:=Go.Proofs.Tryz.f149) (by kernel_rfl) rfl rfl ?_
 refine AN ?_
 refine R.callBP rfl rfl rfl rfl rfl ((hc _ _ (by omega) (fun o h2=>at_upd)).mono fun r hr=>?_)
 have hr:=hr.trans (nx:=nx) (own:=own) (G:=G) (by omega) (fun _ _ h=>h) (fun o h1 h2 h3=>at_upd)
 cases r with
 |pan u G' nx'=>exact panTo (by exact hr)
 |ret v G' nx'=>
  obtain ⟨h1,own',h0,h2,⟨rfl,h3⟩|⟨rfl,h3⟩⟩:=hr
  ·refine AN ?_
   exact W.retFinP rfl ⟨by omega,own',h0,h2, .inl ⟨rfl,hw.frame _ _ _ _ _ _ h3 (by omega) fun _ _=>rfl⟩⟩
  ·refine AN ?_
   exact W.retFinP rfl ⟨by omega,own',h0,h2, .inr ⟨rfl,hw.frameJ _ _ _ _ h3 (by omega) fun _ _=>rfl⟩⟩
theorem cal102L (hw:Walk q N l K J Pn) {kids:List Exp} (hk:kids.length<=9223372036854775807) (he:∀ e∈kids,WalkOKL q N l K J Pn e) {k yb wb nx:Nat} {own:Own1} {G:Nat->Obj} (hf:From l (allEs kids) k) (hI:K k own G nx) (hB:BxL q N yb wb nx own G) :
  CalP CC 175 [.imm (.lst (Exp.ivs kids)), .fn (.func 149) [.ptr wb 0]] G nx (WPost N K J Pn (k+(allEs kids).length) isNeg isPos own G nx):=by
 have hlk:=ivs_len kids
 refine CalP.of (fn:=Go.Proofs.Tryz.f175) (by kernel_rfl) rfl rfl ?_
 refine AN ?_
 refine W.loop (X:=Nat×Own1) (fun x=>[(0, .imm (.lst (Exp.ivs kids))),(1, .fn (.func 149) [.ptr wb 0]),(6, .imm (.lst (Exp.ivs kids))),(7, .imm (.int .i64 (Exp.ivs kids).length)),(8, .imm (.int .i64 x.1))])
  (fun x nx1 G1=>nx<=nx1/\(∀ o,o < nx->x.2 o->own o)/\(∀ o,N<=o->o < nx->¬ own o->G1 o=G o)/\x.1<=kids.length/\K (k+(allEs (kids.take x.1)).length) x.2 G1 nx1) (fun x=>kids.length-x.1) (0,own) .auto
  ⟨by omega,fun _ _ h=>h,fun _ _ _ _=>rfl,Nat.zero_le _,hw.frame _ _ _ _ _ _ hI (by omega) fun _ _=>rfl⟩ ?_
 clear hI
 rintro ⟨i,own1⟩ nx1 G1 ⟨hx,ho1,hfr,hi,hI⟩
 dsimp only at ho1 hi hI ⊢
 rcases Bool.eq_false_or_eq_true (decide ((i:Int) < ((Exp.ivs kids).length:Int))) with hc|hc
 ·have hlt:i < kids.length:=by have:=of_decide_eq_true hc;omega
  obtain ⟨kid,hxk⟩:=at_lt hlt
  have hxi:=ivs_at hxk
  have hcl:=kid.cells_len
  have hcal:=fun nx2 (h:nx1<=nx2)=>cal449 (nx:=nx2) hw (he kid (List.mem_of_getElem? hxk)) (hf.kid hxk) (hw.frame _ _ _ _ _ _ hI h fun _ _=>rfl) (hB.fr (nx':=nx2) (by omega) ho1 hfr)
  have hmu:kids.length-(i+1) < kids.length-i:=by omega
  have htk:=allEs_take hxk
  obtain ⟨o',s',m',f',c',k'⟩:=kid
  refine AN ?_
  refine R.callBP rfl rfl rfl rfl rfl ((hcal _ (by omega)).mono fun r hr=>?_)
  have hr:=hr.trans (nx:=nx) (own:=own) (G:=G) (by omega) ho1 hfr
  cases r with
  |pan u G' nx'=>exact panTo (by exact hr)
  |ret v G' nx'=>
   obtain ⟨h1,own',h0,h2,⟨rfl,h3⟩|⟨rfl,h3⟩⟩:=hr
   ·refine AN ?_
    refine W.skipLop (i+1,own') hmu .auto ⟨by omega,h0,h2,hlt,?_⟩
    rw [htk,List.length_append,<-Nat.add_assoc];exact hw.frame _ _ _ _ _ _ h3 (by omega) fun _ _=>rfl
   ·refine AN ?_
    exact W.retFinP rfl ⟨by omega,own',h0,h2, .inr ⟨⟨_,rfl⟩,hw.frameJ _ _ _ _ h3 (by omega) fun _ _=>rfl⟩⟩
 ·have hge:kids.length<=i:=by have:=of_decide_eq_false hc;omega
  rw [List.take_of_length_le hge] at hI
  refine AN ?_
  exact W.retFinP rfl ⟨by omega,own1,ho1,hfr, .inl ⟨rfl,hw.frame _ _ _ _ _ _ hI (by omega) fun _ _=>rfl⟩⟩
theorem cal82L (hw:Walk q N l K J Pn) {kids:List Exp} (hk:kids.length<=9223372036854775807) (he:∀ e∈kids,WalkOKL q N l K J Pn e) {k yb wb nx:Nat} {own:Own1} {G:Nat->Obj} (hf:From l (allEs kids) k) (hI:K k own G nx) (hB:BxL q N yb wb nx own G) :
  CalP CC 133 [.imm (.lst (Exp.ivs kids)), .fn (.func 149) [.ptr wb 0]] G nx (WPost N K J Pn (k+(allEs kids).length) (isB false) (isB true) own G nx):=by
 have hc:=fun nx1 (h2:nx<=nx1)=>cal102L hw hk he hf (hw.frame _ _ _ _ _ _ hI h2 fun _ _=>rfl) (hB.fr (nx':=nx1) h2 (fun _ _ h=>h) fun _ _ _ _=>rfl)
 refine CalP.of (fn:=Go.Proofs.Tryz.f133) (by kernel_rfl) rfl rfl ?_
 refine AN ?_
 refine R.callBP rfl rfl rfl rfl rfl ((hc _ (by omega)).mono fun r hr=>?_)
 have hr:=hr.trans (nx:=nx) (own:=own) (G:=G) (by omega) (fun _ _ h=>h) (fun o h1 h2 h3=>rfl)
 cases r with
 |pan u G' nx'=>exact panTo (by exact hr)
 |ret v G' nx'=>
  obtain ⟨h1,own',h0,h2,⟨rfl,h3⟩|⟨⟨n,rfl⟩,h3⟩⟩:=hr
  ·refine AN ?_
   exact W.retFinP rfl ⟨by omega,own',h0,h2, .inl ⟨rfl,hw.frame _ _ _ _ _ _ h3 (by omega) fun _ _=>rfl⟩⟩
  ·refine AN ?_
   refine W.retFinP rfl ⟨by omega,own',h0,h2, .inr ⟨?_,hw.frameJ _ _ _ _ h3 (by omega) fun _ _=>rfl⟩⟩
   show AV.imm (.bool (decide ((n:Int)>=0))) = .imm (.bool true)
   rw [decide_eq_true (by omega)]
theorem walk_okL (hw:Walk q N l K J Pn) {e:Exp} (hfit:e.Fits):WalkOKL q N l K J Pn e:=by
 induction hfit with
 |mk op name n' fold calcs kids hnm hw' hc hk hcs hks ih=>
 intro k own yb wb nx G hf hI hB
 have hk':kids.length<=9223372036854775807:=hk
 have hyl:=hB.yl
 have hwl:=hB.wl
 have hyG:=hB.y
 have h0:=hf 0 _ (by rw [allE];rfl)
 have hkf:From l (allEs kids) (k+1):=fun j x hx=>by
  have:=hf (j+1) x (by rw [allE];simpa using hx)
  rwa [show k+(j+1)=k+1+j by omega] at this
 have hr:=fun nx1 G1 (h:N<=nx1) (h1:nx<=nx1) (h2:∀ o,o < nx->G1 o=G o)=>hw.round k _ own G1 nx1 h0 h (hw.frame k own G nx G1 nx1 hI h1 h2)
 have hlen:k+1+(allEs kids).length=k+(allE (.mk op name n' fold calcs kids)).length:=by rw [allE];simp;omega
 refine CalP.of (fn:=Go.Proofs.Tryz.f148) (by kernel_rfl) rfl rfl ?_
 refine AN ?_
 refine R.roundP rfl rfl rfl ((hr _ _ (by omega) (by omega) (fun o h=>at_upd)).mono fun r hr=>?_)
 cases r with
 |pan u G' nx'=>exact panTo (by exact hr)
 |ret v G' nx'=>
  obtain ⟨h1,own1,ho1,h2,hv⟩:=hr
  have hnu:¬ own (nx+0):=fun h=>by have:=hw.lt _ _ _ _ hI _ h;omega
  have hfr:∀ o,N<=o->o < nx->¬ own o->G' o=G o:=fun o h4 h5 h6=>(h2 o h4 (by omega) h6).trans at_upd
  rcases hv with ⟨rfl,h3⟩|⟨rfl,h3⟩
  ·have hb:G' (nx+0) = .box [.imm (.int .i64 op), .imm (sv name), .imm (.int .i64 n'), .imm (.int .i64 fold), .imm (.lst (Trm.ivs calcs)), .imm (.lst (Exp.ivs kids))] false:=(h2 _ (by omega) (by omega) hnu).trans at_upd
   have hc:=fun nx1 (h:nx'<=nx1)=>cal82L (nx:=nx1) hw hk' ih hkf (hw.frame _ _ _ _ _ _ h3 h fun _ _=>rfl) (hB.fr (nx':=nx1) (by omega) (fun o h4 h5=>ho1 o (by omega) h5) hfr)
   refine AN ?_
   refine R.callBP rfl rfl rfl rfl rfl ((hc _ (by omega)).mono fun r hr=>?_)
   have hr:=hr.trans (nx:=nx) (own:=own) (G:=G) (by omega) (fun o h4 h5=>ho1 o (by omega) h5) hfr
   rw [hlen] at hr
   cases r with
   |pan u G' nx'=>exact panTo (by exact hr)
   |ret v G' nx'=>
    obtain ⟨g1,own',g0,g2,⟨rfl,g3⟩|⟨rfl,g3⟩⟩:=hr
    ·refine AN ?_
     exact W.retFinP rfl ⟨by omega,own',g0,g2, .inl ⟨rfl,hw.frame _ _ _ _ _ _ g3 (by omega) fun _ _=>rfl⟩⟩
    ·refine AN ?_
     exact W.retFinP rfl ⟨by omega,own',g0,g2, .inr ⟨rfl,hw.frameJ _ _ _ _ g3 (by omega) fun _ _=>rfl⟩⟩
  ·refine AN ?_
   exact W.retFinP rfl ⟨by omega,own1,fun o h4 h5=>ho1 o (by omega) h5,hfr, .inr ⟨rfl,hw.frameJ _ _ _ _ h3 (by omega) fun _ _=>rfl⟩⟩
theorem cal447 {e:Exp} (hw:Walk q N (allE e) K J Pn) (hfit:e.Fits) {nx:Nat} {own:Own1} {G:Nat->Obj} (hn:N<=nx) (hI:K 0 own G nx) :
  CalP CC 147 [.yld q, .imm (.fptr e.iv.cells 0)] G nx fun
   | .ret _ G' nx'=>nx<=nx'/\((∃ own',K (allE e).length own' G' nx')\/J G' nx')
   | .pan u G' nx'=>Pn u G' nx':=by
 have hc:=fun k own yb wb nx G=>walk_okL hw hfit k own yb wb nx G
 have hlt:=hw.lt _ _ _ _ hI
 obtain ⟨op,name,n',fold,calcs,kids⟩:=e
 refine CalP.of (fn:=Go.Proofs.Tryz.f147) (by kernel_rfl) rfl rfl ?_
 refine AN ?_
 have hB:∀ {G1:Nat->Obj},(∀ o,nx<=o->o < nx+2->G1 o=upd (upd (upd G (nx+0) (.box [.yld q] false)) (nx+1+0) (.box ty101.zero.cells false)) (nx+1+0) (.box [.fn (.func 148) [.ptr (nx+0) 0, .ptr (nx+1+0) 0]] false) o)->BxL q N (nx+0) (nx+1+0) (nx+1+1+2+3) own G1:=fun h=>
  ⟨(h _ (by omega) (by omega)).trans at_upd,(h _ (by omega) (by omega)).trans at_upd,⟨by omega,by omega,fun h=>by have:=hlt _ h;omega⟩,⟨by omega,by omega,fun h=>by have:=hlt _ h;omega⟩⟩
 refine R.callBP rfl rfl rfl rfl rfl ((hc 0 own _ _ _ _ (fun j x hx=>by rwa [Nat.zero_add]) (hw.frame 0 own G nx _ _ hI (by omega) fun o h=>at_upd) (hB fun o h1 h2=>rfl)).mono fun r hr=>?_)
 cases r with
 |pan u G' nx'=>exact panTo (by exact hr)
 |ret v G' nx'=>
  obtain ⟨h1,own',h0,h2,h3⟩:=hr
  rw [Nat.zero_add] at h3
  refine AN ?_
  refine W.skipFinP rfl ⟨by omega,?_⟩
  rcases h3 with ⟨_,h3⟩|⟨_,h3⟩
  ·exact .inl ⟨own',h3⟩
  ·exact .inr h3
theorem W.nodesKL {f:Operand} {ps:Array Nat} {assign body:Code} {fid nt nx:Nat} {lv:Env} {G:Nat->Obj} {df:List (AV×List AV)} {pk:Pk} {Φ:Out->Prop} (e:Exp) (hfit:e.Fits)
  (K:Kp) (J:(Nat->Obj)->Nat->Prop) (Pn:IV->(Nat->Obj)->Nat->Prop)
  (hf:lookO lv f=some (.imm (.fn (.func 147) [.fptr e.iv.cells 0]))) (hpk:pk.isRnd=false) (hfn:(CC.fn fid).isSome=true) (hps:ps.toList.length=1) (hps2:(ps.toList.all fun t=>decide (t < nt))=true)
  (hK:∀ i own G n G' n',K i own G n->n<=n'->(∀ o,o < n->o≠nx->G' o=G o)->K i own G' n') (hlt:∀ i own G n,K i own G n->∀ o,own o->nx+2<=o/\o < n)
  (hJ:∀ G n G' n',J G n->n<=n'->(∀ o,o < n->o≠nx->G' o=G o)->J G' n') (h0:K 0 (fun _=>False) G nx)
  (hround:∀ (q i:Nat) x own G1 nx1 (lp0 lp1:Obj) (Φr:Out->Prop),q=nx->(allE e)[i]? = some x->q+2<=nx1->K i own G1 nx1->G1 q=lp0 ->
   (∀ {f' l' G' nx'} (own':Own1),nx1<=nx'->(∀ o,o < nx1->own' o->own o)->(∀ o,q+2<=o->o < nx1->¬ own o->G' o=G1 o)->K (i+1) own' G' nx'->G' q=lp1->W CC f' nt .skip l' G' nx' [] .rnd Φr) ->
   (∀ {l' G' nx'} (own':Own1),nx1<=nx'->(∀ o,o < nx1->own' o->own o)->(∀ o,q+2<=o->o < nx1->¬ own o->G' o=G1 o)->J G' nx'->G' q=lp1->W CC fid nt .ret l' G' nx' [] .rnd Φr) ->
   (∀ {l':Env} {u G' nx'},Pn u G' nx'->∀ t,Agree t l'->Φr (.pan u ⟨t,G',nx',[], .rnd⟩)) ->
   W CC fid nt assign (bindE lv (ps.toList.zip [.imm x.iv])) G1 nx1 [] .rnd (astQ CC q lp0 lp1 fid nt body Φr))
  (hend:∀ own G1 nx1,K (allE e).length own G1 nx1->nx<=nx1->W CC fid nt .skip lv G1 nx1 df pk Φ)
  (hret:∀ G1 nx1,J G1 nx1->nx<=nx1->W CC fid nt .ret lv G1 nx1 df pk Φ)
  (hpan:∀ u G1 nx1,Pn u G1 nx1->∀ t,Agree t lv->Φ (.pan u ⟨t,G1,nx1,df,pk⟩)):W CC fid nt (.rangeFunc f ps assign body) lv G nx df pk Φ:=by
 refine W.rangeP hf rfl rfl hpk fun t ht=>?_
 have hw:Walk nx (nx+2) (allE e) (fun i own G1 n=>nx < n/\K i own G1 n/\G1 nx = .lp t nt ps.toList assign body fid 0 none) (fun G1 n=>nx < n/\J G1 n/\G1 nx = .lp t nt ps.toList assign body fid 2 (some .ret)) Pn:=by
  refine ⟨fun i own G n G' n' ⟨h0,h1,h2⟩ hn hG=>⟨by omega,hK _ _ _ _ _ _ h1 hn fun o h _=>hG o h,(hG nx h0).trans h2⟩,fun i own G n ⟨h0,h1,h2⟩ o ho=>(hlt _ _ _ _ h1 o ho).2,fun G n G' n' ⟨h0,h1,h2⟩ hn hG=>⟨by omega,hJ _ _ _ _ h1 hn fun o h _=>hG o h,(hG nx h0).trans h2⟩,?_⟩
  rintro i x own G1 nx1 hx hn ⟨h0,h1,h2⟩
  refine RndP.of hfn h2 ht (by rw [hps];rfl) hps2 ?_
  refine W.mono (Φ:=astQ CC nx (.lp t nt ps.toList assign body fid 0 none) (.lp t nt ps.toList assign body fid 1 none) fid nt body (frdP nx fun
   | .ret v G' nx'=>nx1<=nx'/\∃ own',(∀ o,o < nx1->own' o->own o)/\(∀ o,nx+2<=o->o < nx1->¬ own o->G' o=G1 o)/\((v = .imm (.bool true)/\(nx < nx'/\K (i+1) own' G' nx'/\G' nx = .lp t nt ps.toList assign body fid 0 none))\/(v = .imm (.bool false)/\(nx < nx'/\J G' nx'/\G' nx = .lp t nt ps.toList assign body fid 2 (some .ret))))
   | .pan u G' nx'=>Pn u G' nx')) (hround nx i x own G1 nx1 (.lp t nt ps.toList assign body fid 0 none) (.lp t nt ps.toList assign body fid 1 none) _ rfl hx hn h1 h2 ?_ ?_ ?_) fun o ho=>?_
  ·intro f' l' G' nx' own' h3 h4 h5 h6 h7
   exact W.skipFrdP h7 ⟨h3,own',h4,fun o h8 h9 h10=>(upd_ne _ _ _ _ (by omega)).trans (h5 o h8 h9 h10), .inl ⟨rfl,by omega,hK _ _ _ _ _ _ h6 (Nat.le_refl _) fun o _ h=>upd_ne _ _ _ _ h,upd_same _ _ _⟩⟩
  ·intro l' G' nx' own' h3 h4 h5 h6 h7
   exact W.retFrdP h7 ⟨h3,own',h4,fun o h8 h9 h10=>(upd_ne _ _ _ _ (by omega)).trans (h5 o h8 h9 h10), .inr ⟨rfl,by omega,hJ _ _ _ _ h6 (Nat.le_refl _) fun o _ h=>upd_ne _ _ _ _ h,upd_same _ _ _⟩⟩
  ·intro l' u G' nx' h3 t _
   exact ⟨rfl,h3⟩
  ·cases o with
   |norm s=>
    obtain ⟨h3,h4⟩:=ho
    exact ⟨_,_,_,_,_,_,_,h3,h4⟩
   |_=>exact ho
 have hc:=cal447 hw hfit (nx:=nx+2) (own:=fun _=>False) (G:=upd G nx (.lp t nt ps.toList assign body fid 0 none)) (by omega) ⟨by omega,hK _ _ _ _ _ _ h0 (by omega) fun o h h'=>upd_ne _ _ _ _ h',upd_same _ _ _⟩
 obtain ⟨n,r,h1,h2⟩:=hc
 refine ⟨n,r,h1,?_⟩
 cases r with
 |pan u G' nx'=>exact hpan u G' nx' h2 t ht
 |ret v G' nx'=>
  obtain ⟨h3,⟨own',h4,h5,h6⟩|⟨h4,h5,h6⟩⟩:=h2
  ·exact ⟨_,_,_,_,_,_,_,_,h6,by decide,(hend own' _ nx' (hK _ _ _ _ _ _ h5 (Nat.le_refl _) fun o _ h=>upd_ne _ _ _ _ h) (by omega)).skipI t ht⟩
  ·exact ⟨_,_,_,_,_,_,_,_,h6,by decide,(hret _ nx' (hJ _ _ _ _ h5 (Nat.le_refl _) fun o _ h=>upd_ne _ _ _ _ h) (by omega)).retI t ht⟩
theorem W.nodesL {f:Operand} {ps:Array Nat} {assign body:Code} {fid nt nx:Nat} {lv:Env} {G:Nat->Obj} {df:List (AV×List AV)} {pk:Pk} {Φ:Out->Prop} (e:Exp) (hfit:e.Fits)
  (I:Nat->(Nat->Obj)->Prop) (J:(Nat->Obj)->Prop) (Pn:IV->(Nat->Obj)->Nat->Prop)
  (hf:lookO lv f=some (.imm (.fn (.func 147) [.fptr e.iv.cells 0]))) (hpk:pk.isRnd=false) (hfn:(CC.fn fid).isSome=true) (hps:ps.toList.length=1) (hps2:(ps.toList.all fun t=>decide (t < nt))=true)
  (hI:∀ i G G',I i G->(∀ o,o < nx->G' o=G o)->I i G') (hJ:∀ G G',J G->(∀ o,o < nx->G' o=G o)->J G') (h0:I 0 G)
  (hround:∀ (q i:Nat) x G1 nx1 (lp0 lp1:Obj) (Φr:Out->Prop),q=nx->(allE e)[i]? = some x->q+2<=nx1->I i G1->G1 q=lp0 ->
   (∀ {f' l' G' nx'},nx1<=nx'->(∀ o,q+2<=o->o < nx1->G' o=G1 o)->I (i+1) G'->G' q=lp1->W CC f' nt .skip l' G' nx' [] .rnd Φr) ->
   (∀ {l' G' nx'},nx1<=nx'->(∀ o,q+2<=o->o < nx1->G' o=G1 o)->J G'->G' q=lp1->W CC fid nt .ret l' G' nx' [] .rnd Φr) ->
   (∀ {l':Env} {u G' nx'},Pn u G' nx'->∀ t,Agree t l'->Φr (.pan u ⟨t,G',nx',[], .rnd⟩)) ->
   W CC fid nt assign (bindE lv (ps.toList.zip [.imm x.iv])) G1 nx1 [] .rnd (astQ CC q lp0 lp1 fid nt body Φr))
  (hend:∀ G1 nx1,I (allE e).length G1->nx<=nx1->W CC fid nt .skip lv G1 nx1 df pk Φ)
  (hret:∀ G1 nx1,J G1->nx<=nx1->W CC fid nt .ret lv G1 nx1 df pk Φ)
  (hpan:∀ u G1 nx1,Pn u G1 nx1->∀ t,Agree t lv->Φ (.pan u ⟨t,G1,nx1,df,pk⟩)):W CC fid nt (.rangeFunc f ps assign body) lv G nx df pk Φ:=by
 refine W.nodesKL e hfit (fun i own G1 n=>nx<=n/\(∀ o,¬ own o)/\I i G1) (fun G1 n=>nx<=n/\J G1) Pn hf hpk hfn hps hps2
  (fun i own G n G' n' ⟨h0,h1,h2⟩ hn hG=>⟨by omega,h1,hI i G G' h2 fun o h=>hG o (by omega) (by omega)⟩) (fun i own G n ⟨h0,h1,h2⟩ o ho=>(h1 o ho).elim)
  (fun G n G' n' ⟨h0,h1⟩ hn hG=>⟨by omega,hJ G G' h1 fun o h=>hG o (by omega) (by omega)⟩) ⟨Nat.le_refl _,fun _ h=>h,h0⟩ ?_ (fun own G1 nx1 ⟨_,_,h⟩ hn=>hend G1 nx1 h hn) (fun G1 nx1 ⟨_,h⟩ hn=>hret G1 nx1 h hn) hpan
 rintro q i x own G1 nx1 lp0 lp1 Φr hq hx hn ⟨h0,h1,h2⟩ hlp next stop pan
 refine hround q i x G1 nx1 lp0 lp1 Φr hq hx hn h2 hlp (fun h3 h4 h5 h6=>next (fun _=>False) h3 (fun _ _ h=>h.elim) (fun o h7 h8 _=>h4 o h7 h8) ⟨by omega,fun _ h=>h,h5⟩ h6) (fun h3 h4 h5 h6=>stop (fun _=>False) h3 (fun _ _ h=>h.elim) (fun o h7 h8 _=>h4 o h7 h8) ⟨by omega,h5⟩ h6) pan
end Go.Abs

/- The program: how a node depends on each source. -/
open Go Go.Abs
namespace Go.Abs
set_option maxRecDepth 100000
set_option maxHeartbeats 4000000
instance fnis329:FnIs CC 29:=⟨rfl,fun _=>rfl⟩
instance fnis381:FnIs CC 81:=⟨rfl,fun _=>rfl⟩
theorem ret381 (e:Exp):Ret CC 81 [e.iv] (.fn (.func 147) [.fptr e.iv.cells 0]):=by
 obtain ⟨op,name,n,fold,calcs,kids⟩:=e
 refine Ret.of (fn:=Go.Proofs.Tryz.f81) (by kernel_rfl) rfl rfl ?_
 refine BB ?_
 exact W.retFin1 rfl ⟨_,rfl⟩
theorem W.retFinC2 {C:Cfg} {fid nt nx:Nat} {l:Env} {G:Nat->Obj} {a b:Nat} {t u:TypeId} {o o2:Nat} {k k2:TyI} {fr fr2:Bool} {v w:AV} {Ψ:AV->(Nat->Obj)->Nat->Prop} [hk:TyIs C t k] [hk2:TyIs C u k2] (ha:look l a=some (.ptr o 0)) (hG:G o = .box [v] fr) (hs:k.sz=1) (hg:k.d.isAgg=false)
  (hb:look l b=some (.ptr o2 0)) (hG2:G o2 = .box [w] fr2) (hs2:k2.sz=1) (hg2:k2.d.isAgg=false) (h:Ψ (mkTup [v,w]) G nx) :
  W C fid nt .ret l G nx [] .no (fin C [.cell a t, .cell b u] Ψ):=
 .ret fun t' ht=>⟨rfl,rfl,mkTup [v,w],by
  have e3:∀ x:AV,Go.Abs.sub [x] 0 1=some [x]:=fun _=>rfl
  simp only [resultsA,resultsL,resultA,ht _ _ ha,ht _ _ hb,aLoad,hk.is,hk2.is,readAt,hG,hG2,hs,hs2,e3,hg,hg2,Bool.false_eq_true,if_false],h⟩
theorem ret329 {p:Pgm} (hp:p.Fits) (d node:Int) (hnw:node<=9223372036854775807):Ret CC 29 [p.iv, .int .i64 d, .int .i64 node] (rowIV (nodeA p d node)):=by
 have h380:=ret380 hp d
 unfold nodeA
 cases hh:hasR p d with
 |false=>
  rw [hh] at h380
  obtain ⟨srcs,defs⟩:=p
  have bt:(!false)=true:=rfl
  refine Ret.of (fn:=Go.Proofs.Tryz.f29) (by kernel_rfl) rfl rfl ?_
  refine BB ?_
  exact W.retFinC2 rfl rfl rfl rfl rfl rfl rfl rfl ⟨[],rfl⟩
 |true=>
  obtain ⟨hpr,n,x,rfl,hx⟩:=hasR_at hh
  have hdl:=(List.getElem?_eq_some_iff.1 hx).1
  have h376:=ret376 hp hpr
  obtain ⟨hW,hI⟩:=lagsR_far hpr
  have hsm:=progR_small hpr
  have h4:=hsm.srcs
  rw [Int.toNat_natCast,expAt_at hx]
  rw [hh] at h380
  have bf:(!true)=false:=rfl
  have hxi:=at_map Dfn.iv hx
  have hcnt:=hsm.cnt n
  have hnp:=progR_nodeP hpr hdl
  rw [expAt_at hx] at hcnt hnp
  have h381:=ret381 x.exp
  have hfit:=hp.exp x (List.mem_of_getElem? hx)
  cases h1:decide (node < 0) with
  |true=>
   refine Ret.of (fn:=Go.Proofs.Tryz.f29) (by kernel_rfl) rfl rfl ?_
   refine BB ?_
   exact W.retFinC2 rfl rfl rfl rfl rfl rfl rfl rfl ⟨[],rfl⟩
  |false=>
   have g1:=of_decide_eq_false h1
   obtain ⟨s,rfl⟩:=Int.eq_ofNat_of_zero_le (show 0<=node by omega)
   have hxc:=x.cells_len
   have hexp:=fun y (hy:y∈allE x.exp) G nx lo hi kv=>@cal382 p hp hpr (lagsR p) 40000000 (by omega) hW hI 1000 y (by have:=(allE_in x.exp hy).2;omega) (Nat.le_refl _) (fun z hz=>hnp z ((allE_in x.exp hy).1 z hz)) G nx lo hi kv
   rw [Int.toNat_natCast]
   obtain ⟨nm,ex⟩:=x
   simp only at *
   have hex:=ex
   obtain ⟨o',s',n',f',c',k'⟩:=ex
   refine Ret.of (fn:=Go.Proofs.Tryz.f29) (by kernel_rfl) rfl rfl ?_
   refine BB ?_
   refine W.gen' (fun G2=>G2 0 = .box [.imm (.lst (p.srcs.map sv)), .imm (.lst (p.defs.map Dfn.iv))] false/\G2 1 = .box [.imm (.int .i64 s)] false/\G2 2 = .box [.nils] false/\G2 3 = .box [.imm (.int .i64 0)] false) ⟨rfl,rfl,rfl,rfl⟩ ?_
   rintro G ⟨g0,g1,g2,g3⟩
   refine W.nodesL (.mk o' s' n' f' c' k') hfit (fun i G1=>(∀ o,o < 19->o≠1->G1 o=G o)/\i<=s/\G1 1 = .box [.imm (.int .i64 ((s:Int)-(i:Int)))] false) (fun G1=>∃ y,(allE (.mk o' s' n' f' c' k'))[s]? = some y/\G1 2 = .box [.imm (lagsIV (allL p (lagsR p) y))] false/\G1 3 = .box [.imm (.int .i64 0)] false) (fun _ _ _=>False)
    rfl rfl rfl rfl rfl ?_ ?_ ?_ ?_ ?_ ?_ ?_
   ·rintro i G1 G2 ⟨a1,a2,a3⟩ hG
    exact ⟨fun o h5 h6=>(hG o h5).trans (a1 o h5 h6),a2,(hG 1 (by omega)).trans a3⟩
   ·rintro G1 G2 ⟨y,hy,a2,a3⟩ hG
    exact ⟨y,hy,(hG 2 (by omega)).trans a2,(hG 3 (by omega)).trans a3⟩
   ·exact ⟨fun _ _ _=>rfl,Nat.zero_le _,by simpa using g1⟩
   ·rintro q i y G1 nx1 lp0 lp1 Φr hq hy hn ⟨a1,a2,a3⟩ hlp next stop _
    have hym:=List.mem_of_getElem? hy
    have hc:=hexp y hym
    obtain ⟨oy,sy,ny,fy,cy,ky⟩:=y
    refine W.regionN ?_
    refine AQ ?_
    refine R.doneAstQ at_upd ?_
    refine W.gen' (fun G2=>G2 (nx1+0) = .box [.imm (.int .i64 oy), .imm (sv sy), .imm (.int .i64 ny), .imm (.int .i64 fy), .imm (.lst (Trm.ivs cy)), .imm (.lst (Exp.ivs ky))] false/\G2 q=lp1/\∀ o,o < nx1->o≠q->G2 o=G1 o) ⟨at_upd,at_upd,fun o _ _=>at_upd⟩ ?_
    rintro G2 ⟨hbx,hlp2,hfr2⟩
    have b0:=(hfr2 0 (by omega) (by omega)).trans ((a1 0 (by omega) (by omega)).trans g0)
    have b1:=(hfr2 1 (by omega) (by omega)).trans a3
    have b2:=(hfr2 2 (by omega) (by omega)).trans ((a1 2 (by omega) (by omega)).trans g2)
    have b3:=(hfr2 3 (by omega) (by omega)).trans ((a1 3 (by omega) (by omega)).trans g3)
    rcases Bool.eq_false_or_eq_true (((s:Int)-(i:Int))==0) with hA|hA
    ·have hsi:s=i:=by have:=beq_iff_eq.1 hA;omega
     subst hsi
     have hal:(allL p (lagsR p) (.mk oy sy ny fy cy ky)).length=p.srcs.length:=by simp [allL]
     have h378:=ret378 (l:=allL p (lagsR p) (.mk oy sy ny fy cy ky)) (by omega)
     generalize hA:allL p (lagsR p) (.mk oy sy ny fy cy ky)=A at *
     refine BN ?_
     refine D.callB rfl rfl rfl rfl rfl (by kernel_rfl) ((hc G2 _ 0 0 _ (.inl rfl) (by omega)).mono fun v G3 nx3 hv=>?_)
     obtain ⟨⟨ov,frv,hv1,hv2,rfl,hv3⟩,hn3,hG3⟩:=hv
     refine D.opU (O.callFz rfl (peeks_one (peek_row1 hv3 (by simp)) peeks_nil) h378 rfl) rfl rfl ?_
     refine D.gen' (fun G4=>G4 2 = .box [.nils] false/\G4 3 = .box [.imm (.int .i64 0)] false/\G4 q=lp1/\∀ o,q+2<=o->o < nx1->G4 o=G1 o) ⟨(frz1_ne (q:=ov) (by omega)).trans ((hG3 2 (by omega)).trans b2),(frz1_ne (q:=ov) (by omega)).trans ((hG3 3 (by omega)).trans b3),(frz1_ne (q:=ov) (by omega)).trans ((hG3 q (by omega)).trans hlp2),fun o h5 h6=>(frz1_ne (q:=ov) (by omega)).trans ((hG3 o (by omega)).trans (hfr2 o h6 (by omega)))⟩ ?_
     rintro G4 ⟨d2,d3,dlp,dfr⟩
     refine BB ?_
     exact stop (by omega) (fun o h5 h6=>Eq.trans at_upd (dfr o h5 h6)) ⟨_,hy,by rw [hA];exact at_upd,at_upd⟩ (Eq.trans at_upd dlp)
    ·have hsi:s≠i:=fun h=>by subst h;simp at hA
     refine BN ?_
     exact next (by omega) (fun o h5 h6=>(upd_ne _ _ _ _ (by omega)).trans (hfr2 o h6 (by omega))) ⟨fun o h5 h6=>(upd_ne _ _ _ _ (by omega)).trans ((hfr2 o (by omega) (by omega)).trans (a1 o h5 h6)),by omega,by rw [show ((s:Int)-((i+1:Nat):Int))=(s:Int)-(i:Int) + -1 by omega];exact upd_same ..⟩ ((upd_ne _ _ _ _ (by omega)).trans hlp2)
   ·rintro G1 nx1 ⟨a1,a2,a3⟩ hn
    have hge:((s:Int)>=((allE (.mk o' s' n' f' c' k')).length:Int)):=by omega
    rw [decide_eq_true hge]
    have b2:=(a1 2 (by omega) (by omega)).trans g2
    have b3:=(a1 3 (by omega) (by omega)).trans g3
    refine BN ?_
    refine W.retFinC2 rfl at_upd rfl rfl rfl at_upd rfl rfl ⟨[],rfl⟩
   ·rintro G1 nx1 ⟨y,hy,a2,a3⟩ hn
    have hlt:=(List.getElem?_eq_some_iff.1 hy).1
    rw [decide_eq_false (show ¬ ((s:Int)>=((allE (.mk o' s' n' f' c' k')).length:Int)) by omega),show (allE (.mk o' s' n' f' c' k')).getD s (.mk 0 [] 0 0 [] [])=y by rw [List.getD_eq_getElem?_getD,hy];rfl]
    refine BN ?_
    exact W.retFinC2 rfl a2 rfl rfl rfl a3 rfl rfl ⟨[],rfl⟩
   ·rintro u G1 nx1 hf
    exact hf.elim
end Go.Abs

/- The chapter's examples of lags: what the kernel reckons of them. -/
open Go Go.Abs
namespace Go.Abs
set_option maxRecDepth 100000
instance fnisEx:FnIs CC 62:=⟨rfl,fun _=>rfl⟩
theorem Ret.inj {f:FuncId} {ivs:List IV} {x y:IV} (hx:Ret CC f ivs x) (hy:Ret CC f ivs y):x=y:=by
 obtain ⟨n,v,G,nx,pk,ids,h1,h2⟩:=hx
 obtain ⟨m,w,H,ny,qk,jds,g1,g2⟩:=hy
 have a1:=(low_mono (C:=CC) (Nat.le_max_left n m)).1 _ _ _ _ _ _ h1
 have a2:=(low_mono (C:=CC) (Nat.le_max_right n m)).1 _ _ _ _ _ _ g1
 rw [a1] at a2
 cases a2
 rw [h2] at g2
 cases g2
 rfl
def exP:Pgm:=⟨[[120],[121]],[⟨[97], .mk 15 [] 0 0 [] [.mk 1 [120] 0 0 [] []]⟩,⟨[98], .mk 4 [] 0 0 [] [.mk 9 [] 5 2 [] [.mk 2 [97] 0 0 [] []], .mk 3 [98] 3 0 [] []]⟩,⟨[99], .mk 14 [] 2 0 [] [.mk 2 [97] 0 0 [] [], .mk 1 [121] 0 0 [] []]⟩]⟩
def exL:List (List Lg):=[[⟨true,false,0,0⟩,Lg.z],[⟨true,true,0,0⟩,Lg.z],[⟨true,false,0,0⟩,⟨true,false,2,2⟩]]
theorem retEx:Ret CC 62 [] exP.iv:=Ret.reckon (n:=20) (by kernel_rfl)
theorem retExP:Ret CC 20 [exP.iv] (.bool true):=Ret.reckon (n:=60) (by kernel_rfl)
theorem retExOf:Ret CC 76 [exP.iv] (knIV exP exL):=Ret.reckon (n:=60) (by kernel_rfl)
theorem retExI:Ret CC 38 [intsIV [13,15],intsIV [13,15]] (.bool true):=Ret.reckon (n:=20) (by kernel_rfl)
end Go.Abs

/- The chapter's examples of lags hold. -/
open Go Go.Abs
namespace Go.Abs
set_option maxRecDepth 100000
set_option maxHeartbeats 4000000
instance fnis333:FnIs CC 33:=⟨rfl,fun _=>rfl⟩
theorem exE (op:Int) (name:Str) (n fold:Int) (kids:List Exp) (h1:name.length<=10) (h2 : -50<=n/\n<=50) (h3:kids.length<=10) (hk:∀ k∈kids,Exp.Fits k):Exp.Fits (.mk op name n fold [] kids):=
 .mk _ _ _ _ _ _ (by unfold maxI;omega) (by
  show (decide (IntKind.i64.min<=n)&&decide (n<=IntKind.i64.max))=true
  rw [Bool.and_eq_true,decide_eq_true_eq,decide_eq_true_eq,show IntKind.i64.min = -9223372036854775808 from rfl,show IntKind.i64.max=9223372036854775807 from rfl];omega) (Nat.zero_le _) (by unfold maxI;omega) (fun _ h=>by cases h) hk
theorem no_kids:∀ k∈([]:List Exp),Exp.Fits k:=fun _ h=>by cases h
theorem two_all {α:Type} {P:α->Prop} {x y:α} (hx:P x) (hy:P y):∀ k∈[x,y],P k:=fun k h=>by
 rcases List.mem_cons.1 h with rfl|h
 ·exact hx
 ·rw [List.mem_singleton.1 h];exact hy
theorem one_all {α:Type} {P:α->Prop} {x:α} (hx:P x):∀ k∈[x],P k:=fun k h=>by rw [List.mem_singleton.1 h];exact hx
theorem exF:exP.Fits where
 srcs:=by decide
 src:=by decide
 defs:=by decide
 name:=by decide
 exp:=by
  have l:=fun op name h1=>exE op name 0 0 [] h1 (by decide) (by decide) no_kids
  intro d hd
  rcases List.mem_cons.1 hd with rfl|hd
  ·exact exE _ _ _ _ _ (by decide) (by decide) (by decide) (one_all (l 1 [120] (by decide)))
  rcases List.mem_cons.1 hd with rfl|hd
  ·exact exE _ _ _ _ _ (by decide) (by decide) (by decide) (two_all (exE _ _ _ _ _ (by decide) (by decide) (by decide) (one_all (l 2 [97] (by decide)))) (exE _ _ _ _ _ (by decide) (by decide) (by decide) no_kids))
  rw [List.mem_singleton.1 hd]
  exact exE _ _ _ _ _ (by decide) (by decide) (by decide) (two_all (l 2 [97] (by decide)) (l 1 [121] (by decide)))
theorem exR:progR exP=true:=by
 have:=Ret.inj (ret36 exP exF) retExP
 cases hb:progR exP with
 |true=>rfl
 |false=>rw [hb] at this;cases this
theorem lag_inj {a b:Lg} (h:a.iv=b.iv):a=b:=by
 obtain ⟨o,e,x,y⟩:=a
 obtain ⟨o',e',x',y'⟩:=b
 rw [Lg.iv_mk,Lg.iv_mk] at h
 cases h;rfl
theorem map_inj' {α β:Type} {f:α->β} (hf:∀ a b,f a=f b->a=b):∀ {l m:List α},l.map f=m.map f->l=m
 |[],[],_=>rfl
 |[],_::_,h=>by cases h
 |_::_,[],h=>by cases h
 |a::l,b::m,h=>by
  rw [List.map_cons,List.map_cons,List.cons.injEq] at h
  rw [hf a b h.1,map_inj' hf h.2]
theorem exLags:lagsR exP=exL:=by
 have h:=Ret.inj (ret376 exF exR) retExOf
 unfold knIV at h
 have h2:(lagsR exP).map lagsIV=exL.map lagsIV:=by
  simp only [IV.fptr.injEq,List.cons.injEq,IV.lst.injEq] at h
  exact h.1.2.2.2.1
 exact map_inj' (fun a b hab=>map_inj' (fun _ _=>lag_inj) (by unfold lagsIV at hab;exact IV.lst.inj hab)) h2
theorem exHas {d:Int} (h:0<=d/\d < 3):hasR exP d=true:=by
 unfold hasR
 rw [exR,decide_eq_true (by omega),decide_eq_true (show d < ((exP.defs.length:Nat):Int) from h.2)];rfl
theorem Ret.eq {f:FuncId} {ivs:List IV} {x y:IV} (h:Ret CC f ivs x) (e:x=y):Ret CC f ivs y:=e▸h
theorem ret333:Ret CC 33 [] (.bool true):=by
 have hEx:=retEx
 have hOf:=ret327 exF
 have hNode:=ret329 exF 2 0 (by decide)
 have hSeal:=fun (m:List Int) (h:m.length<=maxI)=>ret334 exF h 2
 have hNeed:=ret336 exF 2 12
 have hT1:=ret339 exF 2 1 11
 have hT2:=ret339 exF 0 1 11
 unfold ofA at hOf
 unfold nodeA at hNode
 unfold sealA at hSeal
 unfold needA at hNeed
 unfold touchA at hT1 hT2
 rw [exR] at hOf
 rw [exHas (by decide)] at hNode hNeed hT1 hT2
 simp only [exHas (d:=2) (by decide)] at hSeal
 simp only [exLags] at hOf hNode hSeal hNeed hT1 hT2
 have hOf:Ret CC 27 [exP.iv] (.tup [.lst (exL.map lagsIV), .int .i64 0]):=hOf.eq (by kernel_rfl)
 have hNode:Ret CC 29 [exP.iv, .int .i64 2, .int .i64 0] (.tup [lagsIV [⟨true,false,0,0⟩,⟨true,false,2,2⟩], .int .i64 0]):=hNode.eq (by kernel_rfl)
 have hSeal1:Ret CC 34 [exP.iv,intsIV [20,15], .int .i64 2] (.tup [.int .i64 13, .int .i64 0]):=(hSeal [20,15] (by decide)).eq (by kernel_rfl)
 have hSeal2:Ret CC 34 [exP.iv,intsIV [201,199], .int .i64 2] (.tup [.int .i64 197, .int .i64 0]):=(hSeal [201,199] (by decide)).eq (by kernel_rfl)
 have hNeed:Ret CC 36 [exP.iv, .int .i64 2, .int .i64 12] (.tup [intsIV [13,15], .int .i64 0]):=hNeed.eq (by kernel_rfl)
 have hT1:Ret CC 39 [exP.iv, .int .i64 2, .int .i64 1, .int .i64 11] (.tup [.int .i64 9, .int .i64 13, .int .i64 0]):=hT1.eq (by kernel_rfl)
 have hT2:Ret CC 39 [exP.iv, .int .i64 0, .int .i64 1, .int .i64 11] (.tup [.int .i64 0, .int .i64 0, .int .i64 5]):=hT2.eq (by kernel_rfl)
 have hAll:Ret CC 31 [.lst (exL.map lagsIV), .lst (exL.map lagsIV)] (.bool true):=by
  have h:=ret331 (a:=exL) (b:=exL) (by
   have:=(lagsR_far exR).2
   rw [exLags] at this
   exact this.mono (by omega)) (by
   have:=(lagsR_far exR).2
   rw [exLags] at this
   exact this.mono (by omega)) (by decide) (fun i=>by
   rw [List.getD_eq_getElem?_getD]
   cases h:exL[i]? with
   |none=>exact Nat.zero_le _
   |some r=>
    have:=(lagsR_far exR).1
    rw [exLags] at this
    have:=this.row r (List.mem_of_getElem? h)
    show r.length<=1000
    rw [this];decide)
  exact h.eq (by rw [rowsEq_iff.2 rfl])
 have hSm:Ret CC 32 [lagsIV [⟨true,false,0,0⟩,⟨true,false,2,2⟩],lagsIV [⟨true,false,0,0⟩,⟨true,false,2,2⟩]] (.bool true):=by
  have hin:∀ x∈[(⟨true,false,0,0⟩:Lg),⟨true,false,2,2⟩],x.In 4294967296:=two_all ⟨by decide,by decide⟩ ⟨by decide,by decide⟩
  exact (ret332 hin hin (by decide)).eq (by rw [lagsEq_iff.2 rfl])
 have hInt:=retExI
 clear hSeal
 refine Ret.of (fn:=Go.Proofs.Tryz.f33) (by kernel_rfl) rfl rfl ?_
 refine BB ?_
 refine R.op0 (O.callG rfl (peeks_im (peeks_one (peek_row1 (xs:=[.int .i64 20, .int .i64 15]) at_upd rfl) (peeks_im peeks_nil))) hSeal1 rfl) rfl ?_
 refine BB ?_
 refine R.op0 (O.callG rfl (peeks_im (peeks_one (peek_row1 (xs:=[.int .i64 201, .int .i64 199]) at_upd rfl) (peeks_im peeks_nil))) hSeal2 rfl) rfl ?_
 refine BB ?_
 refine R.op0 (O.callG rfl rfl hAll rfl) rfl ?_
 refine BB ?_
 refine R.op0 (O.addrRX rfl inferInstance rfl rfl rfl rfl ⟨by decide,by decide⟩ rfl) rfl ?_
 refine BB ?_
 refine R.op0 (O.loadRX rfl rfl rfl rfl rfl rfl rfl) rfl ?_
 refine BB ?_
 refine R.op0 (O.callG rfl rfl hSm rfl) rfl ?_
 refine BB ?_
 refine R.op0 (O.callG rfl rfl hInt rfl) rfl ?_
 refine BB ?_
 exact W.retFin1 rfl ⟨[],rfl⟩
end Go.Abs

/- LagTouches. -/
open Go Go.Abs
namespace Go.Abs
set_option maxRecDepth 100000
set_option maxHeartbeats 4000000
def ty356:TyI:={ d:=TyD.st [(0,1),(1,1),(2,1)],sz:=3,bytes:=24,zero:=AV.imm (IV.agg [IV.int IntKind.i64 (0),IV.int IntKind.i64 (0),IV.int IntKind.i64 (0)]) }
instance tyis356:TyIs CC 56 ty356:=⟨by kernel_rfl⟩
theorem ret307 {p:Pgm} (hp:p.Fits) (a b c:Int):Ret CC 7 [p.iv, .agg [.int .i64 a, .int .i64 b, .int .i64 c]] (.bool true):=by
 have h1:=ret339 hp a c b
 have h2:=ret340 hp a c b
 have h7:=ret333
 generalize touchA p a c b=x at *
 obtain ⟨x1,x2,x3⟩:=x
 obtain ⟨srcs,defs⟩:=p
 unfold trip at h1 h2
 simp only at *
 have b1:(x1==x1)=true:=by simp
 have b2:(x2==x2)=true:=by simp
 have b3:(x3==x3)=true:=by simp
 refine Ret.of (fn:=Go.Proofs.Tryz.f7) (by kernel_rfl) rfl rfl ?_
 refine BB ?_
 exact W.retFin1 rfl ⟨[],rfl⟩
end Go.Abs

/- A question of the lags' laws, as it is read; and a list of numbers. -/
open Go Go.Abs
namespace Go.Abs
set_option maxRecDepth 100000
open Go.Proofs in
theorem shape_asked {N:Nat} {ivs:List IV} (h:Shape Tryz.prog N 56 ivs):∃ a b c:Int,ivs=[.int .i64 a, .int .i64 b, .int .i64 c]:=by
 obtain ⟨css,rfl,hl,hc⟩:=shape_st Tryz.underlying56 h
 obtain ⟨x,y,z,rfl⟩:=len3 hl
 obtain ⟨a,rfl,_⟩:=shape_int Tryz.underlying3 (hc 0 _ _ rfl rfl)
 obtain ⟨b,rfl,_⟩:=shape_int Tryz.underlying3 (hc 1 _ _ rfl rfl)
 obtain ⟨c,rfl,_⟩:=shape_int Tryz.underlying3 (hc 2 _ _ rfl rfl)
 exact ⟨a,b,c,rfl⟩
def askedTypes:List TypeId:=[3,44,56]
theorem asked_closed:closedS Go.Proofs.Tryz.prog askedTypes=true:=by kernel_rfl
theorem read_asked {H:Type} {enc:TypeId×Value->H} {w:World} {held:Bool} {sp:Nat->Bool} {v:Value} {d:DataW H} {ps:List MemPlace} {b0:Nat} (hv:Value.okWide Go.Proofs.Tryz.prog w .any b0 56 v) (h:DataW.Trod enc Go.Proofs.Tryz.prog w 0 sp held 56 v d ps) :
  ∃ a b c:Int,VI (heapM w) (.agg [.int .i64 a, .int .i64 b, .int .i64 c]) v:=by
 obtain ⟨n,hn⟩:=h
 obtain ⟨ivs,h1,h2,h3,h4⟩:=read_ok asked_closed n 56 _ _ _ (Nat.le_refl _) (by decide) hn
 obtain ⟨a,b,c,hp⟩:=shape_asked h4
 have hst:∃ cs,v = .agg cs:=by
  simp only [Value.okWide,Go.Proofs.Tryz.underlying56] at hv
  obtain ⟨cs,h,_⟩:=hv
  exact ⟨cs,h⟩
 obtain ⟨cs,rfl⟩:=hst
 refine ⟨a,b,c,?_⟩
 rw [<-hp]
 refine .agg ivs cs (by simpa [Value.cells] using h1) fun i x hx=>?_
 have:=h3 i x hx
 simpa [Value.cells,at_] using this
theorem read_marks {H:Type} {enc:TypeId×Value->H} {w:World} {held:Bool} {sp:Nat->Bool} {v:Value} {d:DataW H} {ps:List MemPlace} {b0:Nat} (hv:Value.okWide Go.Proofs.Tryz.prog w .any b0 44 v) (h:DataW.Trod enc Go.Proofs.Tryz.prog w 0 sp held 44 v d ps) :
  ∃ l:List Int,VI (heapM w) (.lst (l.map (.int .i64))) v/\l.length<=maxI/\l.length<=Go.Proofs.YtbdoijpclmhbaaaGreat.Rows.uptoBulk d:=by
 obtain ⟨n,hn⟩:=h
 obtain ⟨ivs,h1,h2,h3,h4⟩:=read_ok asked_closed n 44 _ _ _ (Nat.le_refl _) (by decide) hn
 obtain ⟨l,rfl,hl,_⟩:=shape_ints h4
 refine ⟨l,?_,hl.1,hl.2⟩
 have h5:=h3 0 _ rfl
 cases v with
 |agg cs=>
  exfalso
  simp [Value.okWide,Cell.okWide,Cell.ok,Go.Proofs.Tryz.underlying44] at hv
 |_=>exact h5
end Go.Abs

/- What marks are needed, and what they seal: the plain law. -/
open Go Go.Abs
namespace Go.Abs
set_option maxRecDepth 100000
theorem need_le (a:Lg) (t:Int):0<=needN a t/\needN a t<=201:=by
 unfold needN
 rw [mnI_eq]
 unfold mxI
 repeat' split
 all_goals omega
theorem need_mono (a:Lg) {t u:Int} (h:t<=u):needN a t<=needN a u:=by
 unfold needN
 rw [mnI_eq,mnI_eq]
 unfold mxI
 repeat' split
 all_goals omega
noncomputable def needL (l:List Lg) (t:Int):List Int:=l.map fun a=>needN a t
theorem needL_at {l:List Lg} {t:Int} {s:Nat} (h:s < l.length):(needL l t).getD s 0=needN (l.getD s Lg.z) t:=by
 unfold needL
 rw [List.getD_eq_getElem?_getD,List.getD_eq_getElem?_getD,List.getElem?_map,List.getElem?_eq_getElem h];rfl
theorem needL_ok {l:List Lg} {t:Int} {n:Nat} (h:l.length=n):marksOk (needL l t) n=true:=by
 unfold marksOk
 rw [Bool.and_eq_true,Bool.not_eq_true',List.any_eq_false,beq_iff_eq]
 refine ⟨fun m hm=>?_,by unfold needL;rw [List.length_map,h]⟩
 obtain ⟨a,_,rfl⟩:=List.mem_map.1 hm
 have:=need_le a t
 unfold markBad
 rw [decide_eq_false (by omega),decide_eq_false (by omega)];decide
theorem seal_gt {l:List Lg} {m:List Int} {t:Nat} (ht:t<=200) (h:∀ u:Nat,u<=t->opens l m u=false):t < sealN l m:=by
 unfold sealN
 cases hf:(List.range 201).findIdx? fun (t:Nat)=>opens l m t with
 |none=>exact Nat.lt_succ_of_le ht
 |some k=>
  rw [List.findIdx?_eq_some_iff_getElem] at hf
  obtain ⟨h1,h2,_⟩:=hf
  rw [List.getElem_range] at h2
  show t < k
  rcases Nat.lt_or_ge t k with h3|h3
  ·exact h3
  ·rw [h k h3] at h2;cases h2
theorem seal_le {l:List Lg} {m:List Int} {t:Nat} (ht:t<=200) (h:opens l m t=true):sealN l m<=t:=by
 unfold sealN
 cases hf:(List.range 201).findIdx? fun (t:Nat)=>opens l m t with
 |none=>
  rw [List.findIdx?_eq_none_iff] at hf
  have:=hf t (List.mem_range.2 (by omega))
  rw [h] at this;cases this
 |some k=>
  rw [List.findIdx?_eq_some_iff_getElem] at hf
  obtain ⟨h1,_,h3⟩:=hf
  show k<=t
  rcases Nat.lt_or_ge t k with h4|h4
  ·have:=h3 t h4
   rw [List.getElem_range,h] at this;exact absurd rfl this
  ·exact h4
theorem seal_need {l:List Lg} {t:Nat} (ht:t<=200):t < sealN l (needL l t):=seal_gt ht fun u hu=>by
 unfold opens
 rw [List.any_eq_false]
 intro s hs
 rw [List.mem_range] at hs
 rw [needL_at hs,decide_eq_true_eq]
 have:=need_mono (l.getD s Lg.z) (t:=u) (u:=t) (by omega)
 omega
theorem seal_less {l:List Lg} {m:List Int} {t s:Nat} (ht:t<=200) (hs:s < l.length) (h:m.getD s 0 < needN (l.getD s Lg.z) t):sealN l m<=t:=seal_le ht (by
 unfold opens
 rw [List.any_eq_true]
 exact ⟨s,List.mem_range.2 hs,decide_eq_true (by omega)⟩)
theorem seal_201 (l:List Lg) (m:List Int):sealN l m<=201:=by
 unfold sealN
 cases hf:(List.range 201).findIdx? fun (t:Nat)=>opens l m t with
 |none=>exact Nat.le_refl _
 |some k=>
  rw [List.findIdx?_eq_some_iff_getElem] at hf
  obtain ⟨h1,_⟩:=hf
  rw [List.length_range] at h1
  exact Nat.le_of_lt h1
end Go.Abs

/- Rings. -/
open Go Go.Abs
namespace Go.Abs
set_option maxRecDepth 100000
set_option maxHeartbeats 4000000
theorem O.conv {id:Nat} {l:Env} {G:Nat->Obj} {nx:Nat} {df:List (AV×List AV)} {pk:Pk} {t u:TypeId} {x:Operand} {k k':IntKind} {n:Int} {i j:TyI} [hi:TyIs CC t i] [hj:TyIs CC u j] (hk:j.d = .int k) (hx:lookO l x=some (.imm (.int k' n))) (hw:k.wrap n=n) :
  OpV CC id l G nx df pk (.convert t u x) (.imm (.int k n)) []:=
 O.of fun t L ht=>by simp only [opA,ht.ev hx,aConvert,hi.is,hj.is,hk,hw]
theorem remN (a n:Nat) (hn:0 < n):intOp .rem .i64 (a:Int) (n:Int)=some (.int .i64 ((a % n:Nat):Int)):=by
 have h0:¬ ((n:Int)=0):=by omega
 have:((a:Int).tmod n)=((a % n:Nat):Int):=by rw [Int.tmod_eq_emod_of_nonneg (by omega)];rfl
 simp only [intOp,if_neg h0,this]
end Go.Abs

/- LagLeast. -/
open Go Go.Abs
namespace Go.Abs
set_option maxRecDepth 100000
set_option maxHeartbeats 4000000
def tyuint16:TyI:={ d:=TyD.int IntKind.u16,sz:=1,bytes:=2,zero:=AV.imm (IV.int IntKind.u16 (0)) }
instance tyisuint16:TyIs CC 68 tyuint16:=⟨by kernel_rfl⟩
theorem wrapU16 {n:Nat} (h:n<=65535):IntKind.u16.wrap (n:Int)=n:=by
 show (n:Int) % 65536=n
 omega
theorem quoU (n k:Nat) (hk:0 < k) (h:n<=65535):intOp .quo .u16 (n:Int) (k:Int)=some (.int .u16 ((n / k:Nat):Int)):=by
 have h1:((n:Int).tdiv k)=((n / k:Nat):Int):=by rw [Int.tdiv_eq_ediv_of_nonneg (by omega)];rfl
 have h2:n / k<=n:=Nat.div_le_self ..
 simp only [intOp,h1]
 rw [if_neg (by omega),wrapU16 (by omega)]
theorem u16_nat {a:Int} (hw:(Lit.int .u16 a).wf=true):∃ n:Nat,a=n/\n<=65535:=by
 have h:(decide (IntKind.u16.min<=a)&&decide (a<=IntKind.u16.max))=true:=hw
 rw [Bool.and_eq_true,decide_eq_true_eq,decide_eq_true_eq,show IntKind.u16.min=0 from rfl,show IntKind.u16.max=65535 from rfl] at h
 exact ⟨a.toNat,by omega,by omega⟩
theorem ret310 {p:Pgm} (hp:p.Fits) (a:Int) (hw:(Lit.int .u16 a).wf=true):Ret CC 10 [p.iv, .int .u16 a] (.bool true):=by
 have h36:=ret36 p hp
 have h7:=ret333
 obtain ⟨a,rfl,ha⟩:=u16_nat hw
 cases hpr:progR p with
 |false=>
  rw [hpr] at h36
  obtain ⟨srcs,defs⟩:=p
  have bt:(!false)=true:=rfl
  refine Ret.of (fn:=Go.Proofs.Tryz.f10) (by kernel_rfl) rfl rfl ?_
  refine BB ?_
  exact W.retFin1 rfl ⟨[],rfl⟩
 |true=>
  rw [hpr] at h36
  have bf:(!true)=false:=rfl
  rcases Bool.eq_false_or_eq_true (((p.defs.map Dfn.iv).length:Int)==0) with hz|hz
  ·obtain ⟨srcs,defs⟩:=p
   simp only at hz
   refine Ret.of (fn:=Go.Proofs.Tryz.f10) (by kernel_rfl) rfl rfl ?_
   refine BB ?_
   exact W.retFin1 rfl ⟨[],rfl⟩
  ·have hn:0 < p.defs.length:=by
    rcases Nat.eq_zero_or_pos p.defs.length with h|h
    ·rw [List.length_map,h] at hz;cases hz
    ·exact h
   have hm:0 < p.srcs.length:=(progR_parts hpr).2.1.1
   have hm2:p.srcs.length<=maxI:=hp.srcs
   have hdm:(p.defs.map Dfn.iv).length=p.defs.length:=List.length_map ..
   have hsm:(p.srcs.map sv).length=p.srcs.length:=List.length_map ..
   have q1:=remN a p.defs.length hn
   have q2:intOp .quo .u16 (a:Int) 8=_:=quoU a 8 (by decide) ha
   have q3:intOp .rem .i64 ((a / 8:Nat):Int) 201=_:=remN (a / 8) 201 (by decide)
   have q4:intOp .quo .u16 (a:Int) 3=_:=quoU a 3 (by decide) ha
   have q5:=remN (a / 3) p.srcs.length hm
   have w2:a / 8<=65535:=Nat.le_trans (Nat.div_le_self ..) ha
   have w3:a / 3<=65535:=Nat.le_trans (Nat.div_le_self ..) ha
   rw [<-hdm] at q1
   rw [<-hsm] at q5
   have hd:a % (p.defs.map Dfn.iv).length < p.defs.length:=by rw [hdm];exact Nat.mod_lt _ hn
   have ht:a / 8 % 201<=200:=by omega
   have hs:a / 3 % (p.srcs.map sv).length < p.srcs.length:=by rw [hsm];exact Nat.mod_lt _ hm
   generalize a % (p.defs.map Dfn.iv).length=d at *
   generalize a / 8 % 201=t at *
   generalize a / 3 % (p.srcs.map sv).length=s at *
   have hh:hasR p (d:Int)=true:=by
    unfold hasR
    rw [hpr]
    simp only [Bool.true_and,Bool.and_eq_true,decide_eq_true_eq]
    omega
   obtain ⟨_,hrl,_⟩:=lagsR_row hpr hd
   have h336:=ret336 hp (d:Int) (t:Int)
   unfold needA at h336
   rw [hh,decide_eq_false (show ¬ ((t:Int) < 0) by omega),decide_eq_false (show ¬ ((t:Int) > 200) by omega)] at h336
   simp only [Bool.not_false,Bool.and_self,if_true,Int.toNat_natCast] at h336
   have h334:=fun m hm=>ret334 hp (marks:=m) hm (d:Int)
   unfold sealA at h334
   simp only [hh,Bool.true_and,Int.toNat_natCast] at h334
   generalize (lagsR p).getD d []=l at *
   have hln:(needL l t).length=p.srcs.length:=by unfold needL;rw [List.length_map,hrl]
   have h334a:=h334 (needL l t) (by omega)
   rw [needL_ok hrl] at h334a
   simp only [if_true] at h334a
   have hgt:=seal_need (l:=l) ht
   have hle:=seal_201 l (needL l t)
   generalize sealN l (needL l t)=z at *
   unfold pairIV at h336
   unfold duoIV at h334a
   change Ret CC 36 _ (.tup [intsIV (needL l t), .int .i64 0]) at h336
   obtain ⟨x,hx⟩:=at_lt (l:=needL l t) (i:=s) (by omega)
   have hxi:=at_map intIV hx
   have hxe:needN (l.getD s Lg.z) t=x:=by
    rw [<-needL_at (by omega),List.getD_eq_getElem?_getD,hx];rfl
   have hxb:=need_le (l.getD s Lg.z) t
   rw [hxe] at hxb
   have hless:marksOk ((needL l t).set s (x-1)) p.srcs.length=true\/x=0:=by
    by_cases h:x=0
    ·exact .inr h
    ·refine .inl ?_
     have hk:=needL_ok (t:=t) hrl
     unfold marksOk at hk ⊢
     rw [Bool.and_eq_true,Bool.not_eq_true',List.any_eq_false,beq_iff_eq] at hk ⊢
     refine ⟨fun m hm=>?_,by rw [List.length_set];exact hk.2⟩
     rcases List.mem_or_eq_of_mem_set hm with h3|h3
     ·exact hk.1 m h3
     ·subst h3
      unfold markBad
      rw [decide_eq_false (by omega),decide_eq_false (by omega)];decide
   have h334b:=h334 ((needL l t).set s (x-1)) (by rw [List.length_set];omega)
   have hless2:x≠0->sealN l ((needL l t).set s (x-1))<=t:=fun h0=>seal_less ht (s:=s) (by omega) (by
    rw [hxe,List.getD_eq_getElem?_getD,List.getElem?_set_self (by omega)]
    show x-1 < x
    omega)
   have hnm:((needL l t).map intIV).length=p.srcs.length:=by rw [List.length_map,hln]
   have hnm2:((needL l t).map intIV).length=(p.srcs.map sv).length:=by rw [hnm,hsm]
   have hfs:(((needL l t).map intIV).map AV.imm).all (AV.fits 1)=true:=fits_all (fun y hy=>by obtain ⟨z,_,rfl⟩:=List.mem_map.1 hy;rfl)
   have hll:(((needL l t).map intIV).map AV.imm).length=p.srcs.length:=by simpa using hln
   generalize needL l t=need at *
   have hsl6:p.srcs.length<=1000:=by have:=(progR_small hpr).srcs;omega
   obtain ⟨srcs,defs⟩:=p
   simp only at *
   have b1:((((need.map intIV).length:Nat):Int) != (((srcs.map sv).length:Nat):Int))=false:=by rw [hnm2];simp
   have b2:decide ((z:Int)<=(t:Int))=false:=decide_eq_false (by omega)
   have hs2:(s:Int) < ((need.map intIV).length:Int):=by omega
   refine Ret.of (fn:=Go.Proofs.Tryz.f10) (by kernel_rfl) rfl rfl ?_
   refine BB ?_
   refine D.op0 (O.conv rfl rfl (wrap64 (by omega))) rfl rfl ?_
   refine BD ?_
   refine D.op0 (O.int rfl rfl q1) rfl rfl ?_
   refine BD ?_
   refine D.op0 (O.int rfl rfl q2) rfl rfl ?_
   refine D.op0 (O.conv rfl rfl (wrap64 (by omega))) rfl rfl ?_
   refine D.op0 (O.int rfl rfl q3) rfl rfl ?_
   refine BD ?_
   refine D.op0 (O.int rfl rfl q4) rfl rfl ?_
   refine D.op0 (O.conv rfl rfl (wrap64 (by omega))) rfl rfl ?_
   refine BD ?_
   refine D.op0 (O.int rfl rfl q5) rfl rfl ?_
   refine BD ?_
   rcases Bool.eq_false_or_eq_true (x==0) with hx0|hx0
   ·refine BB ?_
    refine BB ?_
    exact W.retFin1 rfl ⟨[],rfl⟩
   have hxn:x≠0:=fun h=>by subst h;cases hx0
   rw [hless.resolve_right hxn] at h334b
   simp only [if_true] at h334b
   have hle2:=hless2 hxn
   generalize sealN l (need.set s (x-1))=z2 at *
   unfold duoIV at h334b
   simp only at h334b
   have b3:decide ((z2:Int)<=(t:Int))=true:=decide_eq_true (by omega)
   refine BB ?_
   refine BB ?_
   refine R.op1 (O.appNil rfl rfl rfl rfl (ys:=(need.map intIV).map AV.imm) rfl (by decide) (by decide) rfl hfs (by rw [hll];simp only [most];omega)) rfl ?_
   rw [hll]
   refine BB ?_
   have hxu:((need.map intIV).map AV.imm)[((s:Nat):Int).toNat]? = some (.imm (intIV x)):=by
    rw [List.getElem?_map,List.getElem?_map,Int.toNat_natCast,hx];rfl
   have hsets:((need.map intIV).map AV.imm).set ((s:Nat):Int).toNat (.imm (.int .i64 (x-1)))=((need.set s (x-1)).map intIV).map AV.imm:=by
    rw [Int.toNat_natCast,List.map_set,List.map_set];rfl
   refine R.op0 (O.addrR rfl rfl rfl rfl hll ⟨by omega,by omega⟩ rfl) rfl ?_
   refine R.op0 (O.loadR rfl rfl hll hxu rfl rfl rfl) rfl ?_
   refine R.op0 (O.int rfl rfl (sub64 (by omega))) rfl ?_
   refine R.op0 (O.addrR rfl rfl rfl rfl hll ⟨by omega,by omega⟩ rfl) rfl ?_
   refine R.opN1 (O.storeR rfl rfl rfl rfl rfl hll hxu rfl rfl) ?_
   rw [hsets]
   refine BB ?_
   refine R.op0 (O.callG rfl (peeks_im (peeks_one (peek_row1 (xs:=(need.set s (x-1)).map intIV) rfl (by rw [List.length_map,List.length_set,hln])) (peeks_im peeks_nil))) h334b rfl) rfl ?_
   refine BB ?_
   exact W.retFin1 rfl ⟨[],rfl⟩
end Go.Abs

/- LagMore. -/
open Go Go.Abs
namespace Go.Abs
set_option maxRecDepth 100000
set_option maxHeartbeats 4000000
theorem seal_mono {l:List Lg} {m m2:List Int} (h:∀ s:Nat,m.getD s 0<=m2.getD s 0):sealN l m<=sealN l m2:=by
 rcases Nat.lt_or_ge (sealN l m2) (sealN l m) with hlt|hge
 ·exfalso
  have h1:=seal_201 l m
  have h2:opens l m2 (sealN l m2:Nat)=true:=by
   revert hlt
   unfold sealN
   cases hf:(List.range 201).findIdx? fun (t:Nat)=>opens l m2 t with
   |none=>intro hlt;have:=seal_201 l m;unfold sealN at this;simp only [Option.getD_none] at hlt;omega
   |some k=>
    rw [List.findIdx?_eq_some_iff_getElem] at hf
    obtain ⟨_,h2,_⟩:=hf
    rw [List.getElem_range] at h2
    intro _
    exact h2
  have h3:opens l m (sealN l m2:Nat)=true:=by
   unfold opens at h2 ⊢
   rw [List.any_eq_true] at h2 ⊢
   obtain ⟨s,hs,h4⟩:=h2
   have:=of_decide_eq_true h4
   exact ⟨s,hs,decide_eq_true (by have:=h s;omega)⟩
  have:=seal_le (show sealN l m2<=200 by omega) h3
  omega
 ·exact hge
theorem seal_all {l:List Lg} {n:Nat} (h:l.length=n):sealN l (List.replicate n (201:Int))=201:=by
 have h1:=seal_gt (l:=l) (m:=List.replicate n (201:Int)) (t:=200) (by decide) fun u hu=>by
  unfold opens
  rw [List.any_eq_false]
  intro s hs
  rw [List.mem_range] at hs
  have e:(List.replicate n (201:Int)).getD s 0=201:=by
   rw [List.getD_eq_getElem?_getD,List.getElem?_replicate,if_pos (by omega)];rfl
  rw [e,decide_eq_true_eq]
  have:=(need_le (l.getD s Lg.z) u).2
  omega
 have h2:=seal_201 l (List.replicate n (201:Int))
 omega
theorem marks_at {m:List Int} {n:Nat} (h:marksOk m n=true):m.length=n/\∀ x∈m,0<=x/\x<=201:=by
 unfold marksOk at h
 rw [Bool.and_eq_true,Bool.not_eq_true',List.any_eq_false,beq_iff_eq] at h
 refine ⟨h.2,fun x hx=>?_⟩
 have:=h.1 x hx
 unfold markBad at this
 rw [Bool.or_eq_true,decide_eq_true_eq,decide_eq_true_eq] at this
 omega
theorem marks_mk {m:List Int} {n:Nat} (h:m.length=n) (h2:∀ x∈m,0<=x/\x<=201):marksOk m n=true:=by
 unfold marksOk
 rw [Bool.and_eq_true,Bool.not_eq_true',List.any_eq_false,beq_iff_eq]
 refine ⟨fun x hx=>?_,h⟩
 have:=h2 x hx
 unfold markBad
 rw [decide_eq_false (by omega),decide_eq_false (by omega)];decide
def allTo (m:List Int) (i:Nat):List Int:=List.replicate i 201++m.drop i
theorem allTo_set {m:List Int} {i:Nat} (h:i < m.length):(allTo m i).set i 201=allTo m (i+1):=by
 unfold allTo
 rw [List.drop_eq_getElem_cons h,mid_set (List.length_replicate ..),List.replicate_succ',List.append_assoc];rfl
theorem allTo_at {m:List Int} {i:Nat} (h:i < m.length):∃ x,(allTo m i)[i]? = some x:=by
 unfold allTo
 rw [List.drop_eq_getElem_cons h]
 exact ⟨_,mid_at (List.length_replicate ..)⟩
theorem allTo_len {m:List Int} {i:Nat} (h:i<=m.length):(allTo m i).length=m.length:=by
 unfold allTo
 rw [List.length_append,List.length_replicate,List.length_drop];omega
theorem ret311 {p:Pgm} (hp:p.Fits) {marks:List Int} (hml:marks.length<=maxI) (a:Int) (hw:(Lit.int .u16 a).wf=true):Ret CC 11 [p.iv,intsIV marks, .int .u16 a] (.bool true):=by
 have h36:=ret36 p hp
 have h7:=ret333
 have h347:=ret347 hml p.srcs.length
 obtain ⟨a,rfl,ha⟩:=u16_nat hw
 have hsm:(p.srcs.map sv).length=p.srcs.length:=List.length_map ..
 cases hpr:progR p with
 |false=>
  rw [hpr] at h36
  obtain ⟨srcs,defs⟩:=p
  have bt:(!false)=true:=rfl
  refine Ret.of (fn:=Go.Proofs.Tryz.f11) (by kernel_rfl) rfl rfl ?_
  refine BB ?_
  exact W.retFin1 rfl ⟨[],rfl⟩
 |true=>
  rw [hpr] at h36
  have bf:(!true)=false:=rfl
  rcases Bool.eq_false_or_eq_true (((p.defs.map Dfn.iv).length:Int)==0) with hz|hz
  ·obtain ⟨srcs,defs⟩:=p
   simp only at hz
   refine Ret.of (fn:=Go.Proofs.Tryz.f11) (by kernel_rfl) rfl rfl ?_
   refine BB ?_
   exact W.retFin1 rfl ⟨[],rfl⟩
  cases hmk:marksOk marks p.srcs.length with
  |false=>
   rw [hmk,<-hsm] at h347
   have bt:(!false)=true:=rfl
   obtain ⟨srcs,defs⟩:=p
   simp only at hz hsm h347
   refine Ret.of (fn:=Go.Proofs.Tryz.f11) (by kernel_rfl) rfl rfl ?_
   refine BB ?_
   exact W.retFin1 rfl ⟨[],rfl⟩
  |true=>
   rw [hmk,<-hsm] at h347
   obtain ⟨hmlen,hmb⟩:=marks_at hmk
   have hn:0 < p.defs.length:=by
    rcases Nat.eq_zero_or_pos p.defs.length with h|h
    ·rw [List.length_map,h] at hz;cases hz
    ·exact h
   have hm:0 < p.srcs.length:=(progR_parts hpr).2.1.1
   have hdm:(p.defs.map Dfn.iv).length=p.defs.length:=List.length_map ..
   have q1:=remN a p.defs.length hn
   have q4:intOp .quo .u16 (a:Int) 3=_:=quoU a 3 (by decide) ha
   have q5:=remN (a / 3) p.srcs.length hm
   have q6:intOp .quo .u16 (a:Int) 16=_:=quoU a 16 (by decide) ha
   have q7:intOp .rem .i64 ((a / 16:Nat):Int) 50=_:=remN (a / 16) 50 (by decide)
   have w3:a / 3<=65535:=Nat.le_trans (Nat.div_le_self ..) ha
   have w6:a / 16<=65535:=Nat.le_trans (Nat.div_le_self ..) ha
   rw [<-hdm] at q1
   rw [<-hsm] at q5
   have hd:a % (p.defs.map Dfn.iv).length < p.defs.length:=by rw [hdm];exact Nat.mod_lt _ hn
   have ht:a / 16 % 50 < 50:=Nat.mod_lt _ (by decide)
   have hs:a / 3 % (p.srcs.map sv).length < p.srcs.length:=by rw [hsm];exact Nat.mod_lt _ hm
   generalize a % (p.defs.map Dfn.iv).length=d at *
   generalize a / 16 % 50=t at *
   generalize a / 3 % (p.srcs.map sv).length=s at *
   have hh:hasR p (d:Int)=true:=by
    unfold hasR
    rw [hpr]
    simp only [Bool.true_and,Bool.and_eq_true,decide_eq_true_eq]
    omega
   obtain ⟨_,hrl,_⟩:=lagsR_row hpr hd
   have h334:∀ m:List Int,m.length<=maxI->marksOk m p.srcs.length=true->Ret CC 34 [p.iv,intsIV m, .int .i64 d] (.tup [.int .i64 (sealN ((lagsR p).getD d []) m:Nat), .int .i64 0]):=fun m h1 h2=>by
    have:=ret334 hp h1 (d:Int)
    unfold sealA duoIV at this
    rw [hh,h2] at this
    simpa only [Bool.and_self,if_true,Int.toNat_natCast] using this
   obtain ⟨x,hx⟩:=at_lt (l:=marks) (i:=s) (by omega)
   have hxi:=at_map intIV hx
   have hxb:=hmb x (List.mem_of_getElem? hx)
   obtain ⟨v,hv⟩:∃ v:Int,(if (201:Int) < x+((t:Nat):Int) then 201 else x+((t:Nat):Int))=v:=⟨_,rfl⟩
   have hvb:x<=v/\v<=201:=by subst hv;split<;>omega
   have c1:=h334 marks hml hmk
   have c2:=h334 (marks.set s v) (by rw [List.length_set];exact hml) (marks_mk (by rw [List.length_set];exact hmlen) fun y hy=>by
    rcases List.mem_or_eq_of_mem_set hy with h3|h3
    ·exact hmb y h3
    ·subst h3;omega)
   have c3:=h334 (List.replicate marks.length 201) (by rw [List.length_replicate];exact hml) (marks_mk (by rw [List.length_replicate];exact hmlen) fun y hy=>by
    rw [List.eq_of_mem_replicate hy];omega)
   rw [seal_all (by rw [hrl,hmlen])] at c3
   have e1:sealN ((lagsR p).getD d []) marks<=sealN ((lagsR p).getD d []) (marks.set s v):=seal_mono fun j=>by
    rw [List.getD_eq_getElem?_getD,List.getD_eq_getElem?_getD]
    by_cases hj:s=j
    ·subst hj
     rw [List.getElem?_set_self (by omega),hx];exact hvb.1
    ·rw [List.getElem?_set_ne hj];exact Int.le_refl _
   have e2:=seal_201 ((lagsR p).getD d []) (marks.set s v)
   generalize sealN ((lagsR p).getD d []) marks=z1 at *
   generalize sealN ((lagsR p).getD d []) (marks.set s v)=z2 at *
   have b1:decide ((z1:Int)<=(z2:Int))=true:=decide_eq_true (by omega)
   have b2:decide ((z2:Int)<=((201:Nat):Int))=true:=decide_eq_true (by omega)
   have b3:((((201:Nat):Int))==201)=true:=rfl
   have hfs:((marks.map intIV).map AV.imm).all (AV.fits 1)=true:=fits_all (fun y hy=>by obtain ⟨z,_,rfl⟩:=List.mem_map.1 hy;rfl)
   have hll:((marks.map intIV).map AV.imm).length=p.srcs.length:=by simpa using hmlen
   have hmm:(marks.map intIV).length=p.srcs.length:=by simpa using hmlen
   have hsl6:p.srcs.length<=1000:=by have:=(progR_small hpr).srcs;omega
   have hxu:((marks.map intIV).map AV.imm)[((s:Nat):Int).toNat]? = some (.imm (intIV x)):=by
    rw [List.getElem?_map,List.getElem?_map,Int.toNat_natCast,hx];rfl
   have hsets:((marks.map intIV).map AV.imm).set ((s:Nat):Int).toNat (.imm (.int .i64 v))=((marks.set s v).map intIV).map AV.imm:=by
    rw [Int.toNat_natCast,List.map_set,List.map_set];rfl
   obtain ⟨srcs,defs⟩:=p
   simp only at *
   refine Ret.of (fn:=Go.Proofs.Tryz.f11) (by kernel_rfl) rfl rfl ?_
   refine BB ?_
   refine D.op0 (O.conv rfl rfl (wrap64 (by omega))) rfl rfl ?_
   refine BD ?_
   refine D.op0 (O.int rfl rfl q1) rfl rfl ?_
   refine BD ?_
   refine D.op0 (O.int rfl rfl q4) rfl rfl ?_
   refine D.op0 (O.conv rfl rfl (wrap64 (by omega))) rfl rfl ?_
   refine BD ?_
   refine D.op0 (O.int rfl rfl q5) rfl rfl ?_
   refine BD ?_
   refine BB ?_
   refine R.op1 (O.appNil rfl rfl rfl rfl (ys:=(marks.map intIV).map AV.imm) rfl (by decide) (by decide) rfl hfs (by rw [hll];simp only [most];omega)) rfl ?_
   rw [hll]
   refine BB ?_
   refine R.op0 (O.addrR rfl rfl rfl rfl hll ⟨by omega,by omega⟩ rfl) rfl ?_
   refine R.op0 (O.loadR rfl rfl hll hxu rfl rfl rfl) rfl ?_
   refine BB ?_
   refine R.op0 (O.int rfl rfl q6) rfl ?_
   refine R.op0 (O.conv rfl rfl (wrap64 (by omega))) rfl ?_
   refine R.op0 (O.int rfl rfl q7) rfl ?_
   refine R.op0 (O.int rfl rfl (add64 (by omega))) rfl ?_
   refine R.op0 (O.min rfl rfl) rfl ?_
   rw [hv]
   refine R.op0 (O.addrR rfl rfl rfl rfl hll ⟨by omega,by omega⟩ rfl) rfl ?_
   refine R.opN1 (O.storeR rfl rfl rfl rfl rfl hll hxu rfl rfl) ?_
   rw [hsets]
   refine BB ?_
   refine R.op1 (O.appNil rfl rfl rfl rfl (ys:=(marks.map intIV).map AV.imm) rfl (by decide) (by decide) rfl hfs (by rw [hll];simp only [most];omega)) rfl ?_
   rw [hll]
   refine BB ?_
   have hpl:(((marks.set s v).map intIV).map AV.imm).length=srcs.length:=by simpa using hmlen
   refine W.loop (X:=Nat) (fun i=>[(1, .imm (intsIV marks)),(3, .ptr 0 0),(7, .imm (natIV d)),(9, .row 35 srcs.length),(10, .row 52 srcs.length),(11, .imm (.int .i64 i))])
    (fun i nx G=>55<=nx/\i<=marks.length/\G 0 = .box [.imm (.lst (srcs.map sv)), .imm (.lst (defs.map Dfn.iv))] false/\G 35 = .row 3 1 (((marks.set s v).map intIV).map AV.imm) false/\G 52 = .row 3 1 (((allTo marks i).map intIV).map AV.imm) false)
    (fun i=>marks.length-i) 0 .auto ⟨by omega,Nat.zero_le _,rfl,rfl,rfl⟩ ?_
   rintro i nx G ⟨hnx,hi,g0,g1,g2⟩
   have hal:(((allTo marks i).map intIV).map AV.imm).length=srcs.length:=by
    rw [List.length_map,List.length_map,allTo_len hi,hmlen]
   rcases Bool.eq_false_or_eq_true (decide ((i:Int) < ((srcs.length:Nat):Int))) with hc|hc
   ·have hlt:i < marks.length:=by have:=of_decide_eq_true hc;omega
    have hmu:marks.length-(i+1) < marks.length-i:=by omega
    obtain ⟨w,hwx⟩:=allTo_at hlt
    have hwu:(((allTo marks i).map intIV).map AV.imm)[((i:Nat):Int).toNat]? = some (.imm (intIV w)):=by
     rw [List.getElem?_map,List.getElem?_map,Int.toNat_natCast,hwx];rfl
    have hws:(((allTo marks i).map intIV).map AV.imm).set ((i:Nat):Int).toNat (.imm (.int .i64 201))=((allTo marks (i+1)).map intIV).map AV.imm:=by
     rw [<-allTo_set hlt,Int.toNat_natCast,List.map_set,List.map_set];rfl
    refine BB ?_
    refine R.opN1 (O.storeR rfl rfl rfl rfl g2 hal hwu rfl rfl) ?_
    rw [hws]
    refine BB ?_
    exact W.skipLop (i+1) hmu .auto ⟨by omega,hlt,(upd_ne _ _ _ _ (by decide)).trans g0,(upd_ne _ _ _ _ (by decide)).trans g1,at_upd⟩
   ·have hge:i=marks.length:=by have:=of_decide_eq_false hc;omega
    subst hge
    have hend:allTo marks marks.length=List.replicate marks.length 201:=by unfold allTo;simp
    rw [hend] at g2 hal
    refine BB ?_
    refine R.op0 (O.callG rfl (peeks_im (peeks_one (peek_row1 (xs:=(marks.set s v).map intIV) g1 (by rw [List.length_map,List.length_set,hmlen])) (peeks_im peeks_nil))) c2 rfl) rfl ?_
    refine BB ?_
    refine R.op0 (O.callG rfl (peeks_im (peeks_one (peek_row1 (xs:=(List.replicate marks.length 201).map intIV) g2 (by rw [List.length_map,List.length_replicate,hmlen])) (peeks_im peeks_nil))) c3 rfl) rfl ?_
    refine BB ?_
    exact W.retFin1 rfl ⟨[],rfl⟩
end Go.Abs

/- Which programs are alike. -/
open Go Go.Abs
namespace Go.Abs
set_option maxRecDepth 100000
set_option maxHeartbeats 4000000
instance fnis24:FnIs CC 13:=⟨rfl,fun _=>rfl⟩
theorem ret24 {p:Pgm} (h:p.Sm):Ret CC 13 [p.iv] p.iv:=by
 have hsm:=h.exp
 have hs:=h.srcs
 have hd:=h.defs
 obtain ⟨srcs,defs⟩:=p
 simp only at *
 have hdm:(defs.map Dfn.iv).length=defs.length:=List.length_map ..
 have hfs:∀ l:List Str,((l.map sv).map AV.imm).all (AV.fits 1)=true:=fun l=>fits_all (fun y hy=>by obtain ⟨z,_,rfl⟩:=List.mem_map.1 hy;rfl)
 refine Ret.of (fn:=Go.Proofs.Tryz.f13) (by kernel_rfl) rfl rfl ?_
 refine BB ?_
 refine R.op1 (O.appNil rfl rfl rfl rfl (ys:=(srcs.map sv).map AV.imm) rfl (by decide) (by decide) rfl (hfs _) (by simp only [List.length_map,most];omega)) rfl ?_
 have hsl:((srcs.map sv).map AV.imm).length=srcs.length:=by simp
 rw [hsl]
 refine BB ?_
 refine W.loop (X:=Nat×AV) (fun x=>[(1, .ptr 0 0),(2, .ptr 1 0),(3, .ptr 6 0),(4, .imm (.int .i64 x.1))])
  (fun x nx G=>9<=nx/\G 0 = .box [.imm (.lst (srcs.map sv)), .imm (.lst (defs.map Dfn.iv))] false/\G 1 = .box ty29.zero.cells false/\G 4 = .row 9 1 ((srcs.map sv).map AV.imm) false/\G 6 = .box [.row 4 srcs.length,x.2] false/\x.1<=defs.length/\Own 95 7 9 nx ((defs.take x.1).map Dfn.iv) G x.2)
  (fun x=>defs.length-x.1) (0, .nils) .auto ⟨by omega,rfl,rfl,rfl,rfl,Nat.zero_le _, .nil ..⟩ ?_
 rintro ⟨i,w⟩ nx G ⟨hnx,g0,g1,g4,g6,hi,ho⟩
 dsimp only at g6 hi ho ⊢
 have hw1:=ho.cells1
 have hw2:=ho.one1
 rcases Bool.eq_false_or_eq_true (decide ((i:Int) < ((defs.map Dfn.iv).length:Int))) with hcc|hcc
 ·have hlt:i < defs.length:=by have:=of_decide_eq_true hcc;omega
  obtain ⟨y,hy⟩:=at_lt hlt
  have hyi:=at_map Dfn.iv hy
  have hdc:=y.cells_len
  have hmu:defs.length-(i+1) < defs.length-i:=by omega
  have hr:=ret62 (hsm y (List.mem_of_getElem? hy))
  have htk:(defs.take (i+1)).map Dfn.iv=(defs.take i).map Dfn.iv++[y.iv]:=by
   rw [List.take_add_one,hy,List.map_append];rfl
  have hlen:((defs.take i).map Dfn.iv).length<=1048576:=by simp;omega
  obtain ⟨ny,⟨o1,s1,n1,f1,c1,k1⟩⟩:=y
  refine BB ?_
  refine D.app2 ho at_upd (by simp only [most];omega) fun v' G' o' ho' hG' hG2 hlo hlo2=>?_
  have hv1:=ho'.cells1
  have hv2:=ho'.one1
  have i0:=(hG' 0 (by omega)).trans (Eq.trans at_upd g0)
  have i1:=(hG' 1 (by omega)).trans (Eq.trans at_upd g1)
  have i4:=(hG' 4 (by omega)).trans (Eq.trans at_upd g4)
  have i6:=(hG' 6 (by omega)).trans (Eq.trans at_upd g6)
  refine BD ?_
  refine D.skipN' [0,6,o',nx+5+16] (by simp;omega) [⟨0,[],[],[]⟩,⟨1,[2],[],[]⟩,⟨2,[],[],[]⟩,⟨3,[1],[],[]⟩,⟨4,[],[],[]⟩,⟨5,[],[],[]⟩,⟨6,[],[],[]⟩,⟨7,[],[],[]⟩,⟨8,[],[],[]⟩,⟨9,[1],[],[]⟩,
   ⟨10,[],[],[]⟩,⟨11,[],[],[]⟩,⟨12,[],[],[]⟩,⟨13,[],[],[]⟩,⟨14,[],[],[]⟩,⟨15,[],[],[]⟩,⟨16,[],[4],[]⟩,⟨17,[3,4],[3],[]⟩,⟨18,[],[],[]⟩,⟨19,[2],[2],[]⟩] rfl rfl (by kernel_rfl) ?_
  refine BB ?_
  refine W.skipLop (i+1,v') hmu .auto ⟨by omega,Eq.trans at_upd i0,Eq.trans at_upd i1,Eq.trans at_upd i4,at_upd,hlt,?_⟩
  show Own 95 7 9 _ ((defs.take (i+1)).map Dfn.iv) _ v'
  rw [htk]
  exact ho'.fr
 ·have hge:defs.length<=i:=by have:=of_decide_eq_false hcc;omega
  rw [List.take_of_length_le hge] at ho
  have hmk:mkAgg [.row 4 srcs.length,w] = .agg [.row 4 srcs.length,w]:=mkAgg_not ⟨.row 4 srcs.length,by simp,by intro x h;cases h⟩
  have hft:AV.fits 2 (.agg [.row 4 srcs.length,w])=true:=by
   show ((2==2)&&(true&&(w.one&&true)))=true
   rw [hw2];rfl
  have hrw:Rdx 2 G (fun o=>2<=o) (.agg [.row 4 srcs.length,w]) (Pgm.mk srcs defs).iv:=
   Rdx.agg (d:=1) (.cons (Rdx.row (d:=0) (e:=9) (sz:=1) (fr:=false) g4 hsl (All2.imms 0 _ _ _) (by omega)) (.cons (ho.rdx.frame (fun _ _=>rfl) fun _ h=>by omega) .nil))
  refine BB ?_
  refine R.opN1 (O.storeP rfl (congrArg some hmk) hft g1 rfl rfl) ?_
  refine BB ?_
  refine W.retFinCA (cs:=[.row 4 srcs.length,w]) rfl at_upd rfl rfl ?_
  rw [hmk]
  exact (hrw.frame (fun o h=>at_upd) fun _ h=>h).peek (by decide)
end Go.Abs

/- LagSeals. -/
open Go Go.Abs
namespace Go.Abs
set_option maxRecDepth 100000
set_option maxHeartbeats 4000000
theorem ret306 {p:Pgm} (hp:p.Fits) {l:List Int} (hl:l.length<=maxI) (a b c:Int) (sp:p.Sm) (sl:l.length<=1048576):Ret CC 6 [p.iv,intsIV l, .agg [.int .i64 a, .int .i64 b, .int .i64 c]] (.bool true):=by
 have h0:=ret24 sp
 have h1:=ret334 hp hl a
 have h2:=ret335 hp hl a
 have h3:=ret336 hp a b
 have h4:=ret337 hp a b
 have h5:=ret23 (p:=p) (by have:=sp.srcs;omega) (by have:=sp.defs;omega) sp.exp
 have h6:=ret19 (l:=l) hl
 have h7:=ret333
 have h8:Ret CC 38 [intsIV (needA p a b).1,intsIV (needA p a b).1] (.bool true):=ret19 (by
  unfold needA
  split
  ·rename_i hc
   rw [Bool.and_eq_true,Bool.and_eq_true] at hc
   have hh:=hc.1.1
   have hpr:progR p=true:=by unfold hasR at hh;simp only [Bool.and_eq_true] at hh;exact hh.1.1
   have hd:a.toNat < p.defs.length:=by unfold hasR at hh;simp only [Bool.and_eq_true,decide_eq_true_eq] at hh;omega
   simp only [List.length_map]
   rw [(lagsR_row hpr hd).2.1]
   have:=hp.srcs;unfold maxI at this;exact this
  ·exact Nat.zero_le _)
 generalize sealA p l a=x at *
 obtain ⟨x1,x2⟩:=x
 generalize needA p a b=y at *
 obtain ⟨y1,y2⟩:=y
 obtain ⟨srcs,defs⟩:=p
 unfold duoIV at h1 h2
 unfold pairIV at h3 h4
 simp only at *
 have b1:(x1==x1)=true:=by simp
 have b2:(x2==x2)=true:=by simp
 have b3:(y2==y2)=true:=by simp
 have hfs:((l.map intIV).map AV.imm).all (AV.fits 1)=true:=fits_all (fun y hy=>by obtain ⟨z,_,rfl⟩:=List.mem_map.1 hy;rfl)
 have hll:((l.map intIV).map AV.imm).length=l.length:=by simp
 refine Ret.of (fn:=Go.Proofs.Tryz.f6) (by kernel_rfl) rfl rfl ?_
 refine BB ?_
 refine R.op1 (O.appNil rfl rfl rfl rfl (ys:=(l.map intIV).map AV.imm) rfl (by decide) (by decide) rfl hfs (by rw [hll];simp only [most];omega)) rfl ?_
 rw [hll]
 refine BB ?_
 refine R.op0 (O.callG rfl (peeks_im (peeks_one (peek_row1 (xs:=l.map intIV) rfl (by simp)) (peeks_im peeks_nil))) h1 rfl) rfl ?_
 refine BB ?_
 refine R.op0 (O.callG rfl (peeks_one (peek_row1 (xs:=l.map intIV) rfl (by simp)) (peeks_im peeks_nil)) h6 rfl) rfl ?_
 refine BB ?_
 exact W.retFin1 rfl ⟨[],rfl⟩
end Go.Abs
