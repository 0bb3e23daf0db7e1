/- Programs that are looked at: expressions. -/
import Derived.Test.YtbdoijpclmhbaaaGreatLw8
open Go Go.Abs
namespace Go.Abs
set_option maxRecDepth 100000
set_option maxHeartbeats 4000000
theorem shapeR_sOr {op:Int} {s:Shp} (h:shapeR op=some s):sOr op=s:=by unfold sOr;rw [h];rfl
theorem cal89 {o:Nat} {srcs names:List Str} {ahead:Nat} {e:Exp} (hf:e.Fits):∀ {nx:Nat} {G:Nat->Obj} {n depth:Int},G o = .box [.imm (numIV srcs), .imm (numIV names), .imm shapesIV, .imm (.int .i64 ahead), .imm (.int .i64 n)] false->o < nx->(0<=n/\n<=60)->(-1000<=depth/\depth<=1000) ->
  CalP CC 106 [.ptr o 0, .imm e.iv, .imm (.int .i64 depth)] G nx (SPost o (.imm (numIV srcs)) (.imm (numIV names)) (.imm shapesIV) (.imm (.int .i64 ahead)) n (expR srcs names ahead e depth (60-n)) G nx):=by
 induction hf with
 |mk op name n' fold calcs kids hnm hw hc hk hcs hks ih=>
 intro nx G n depth hG ho hn hd
 have hc':calcs.length<=9223372036854775807:=hc
 have hk':kids.length<=9223372036854775807:=hk
 have hlk:=ivs_len kids
 have hlc:=tivs_len calcs
 refine CalP.of (fn:=Go.Proofs.Tryz.f106) (by kernel_rfl) rfl rfl ?_
 refine AA ?_
 refine R.callBP rfl rfl rfl rfl rfl ((cal103 (o:=o) (n:=n) at_upd (by omega) (by omega)).mono fun r hr=>?_)
 cases r with
 |pan u G' nx'=>
  obtain ⟨rfl,h1,h2,h3⟩:=hr
  have e:expR srcs names ahead (.mk op name n' fold calcs kids) depth (60-n) = -1:=by
   rw [expR]
   split
   ·rfl
   ·rw [if_pos]
    unfold oneR at h1
    split at h1
    ·assumption
    ·omega
  rw [e]
  exact panTo ⟨rfl,by decide,by omega,fun q h4 h5=>(h3 q (by omega) h5).trans at_upd⟩
 |ret v G' nx'=>
  obtain ⟨rfl,h1,h2,h3,h4⟩:=hr
  dsimp only
  have hor:oneR depth (60-n)=1:=by unfold oneR at h1 ⊢;split<;>simp_all
  have hdl:¬ (depth > 10\/(60-n) < 1):=by unfold oneR at h1;split at h1<;>omega
  rw [hor] at h2
  have hB:G' (nx+0) = .box [.imm (.int .i64 op), .imm (sv name), .imm (.int .i64 n'), .imm (.int .i64 fold), .imm (.lst (Trm.ivs calcs)), .imm (.lst (Exp.ivs kids))] false:=(h4 _ (by omega) (by omega)).trans at_upd
  have hfr:∀ q,q < nx->q≠o->G' q=G q:=fun q h5 h6=>(h4 q (by omega) h6).trans at_upd
  have hnx:nx+1<=nx':=by omega
  clear h3 h4 h1 hor
  have bad:expR srcs names ahead (.mk op name n' fold calcs kids) depth (60-n) = -1->∀ {G2:Nat->Obj} {nx2:Nat} {l:Env},nx+1<=nx2->(∀ q,q < nx->q≠o->G2 q=G q) ->
    ∀ t,Agree t l->finP CC Go.Proofs.Tryz.f106.results.toList (SPost o (.imm (numIV srcs)) (.imm (numIV names)) (.imm shapesIV) (.imm (.int .i64 ahead)) n (expR srcs names ahead (.mk op name n' fold calcs kids) depth (60-n)) G nx) (.pan unf ⟨t,G2,nx2,[], .no⟩):=by
   intro e G2 nx2 l h1 h2
   rw [e]
   exact panTo ⟨rfl,by decide,by omega,h2⟩
  have hL:=shLook op
  have hL1:=numLook srcs name
  have hL2:=numLook names name
  have hnone:shapeR op=none->expR srcs names ahead (.mk op name n' fold calcs kids) depth (60-n) = -1:=fun h=>by rw [expR,h]
  rcases Bool.eq_false_or_eq_true (shapeR op).isSome with hS|hS
  rotate_left
  ·refine AN ?_
   exact R.callPan rfl rfl pan86 (bad (hnone (by simpa using hS)) (by omega) fun q h5 h6=>Eq.trans at_upd (hfr q h5 h6))
  obtain ⟨s,hs⟩:=Option.isSome_iff_exists.1 hS
  rw [shapeR_sOr hs] at hL
  have hbad:headIs srcs names ahead s op name n' fold calcs.length kids.length=false->expR srcs names ahead (.mk op name n' fold calcs kids) depth (60-n) = -1:=fun h=>by
   rw [expR,hs];simp only [h];split<;>rfl
  rcases Bool.eq_false_or_eq_true (((Exp.ivs kids).length:Int)==(s.kids:Int)) with hD|hD
  rotate_left
  ·refine AN ?_
   exact R.callPan rfl rfl pan86 (bad (hbad (by rw [hlk] at hD;simp at hD;unfold headIs;simp;omega)) (by omega) fun q h5 h6=>Eq.trans at_upd (hfr q h5 h6))
  rcases Bool.eq_false_or_eq_true (((Trm.ivs calcs).length:Int)==(s.calcs:Int)) with hC|hC
  rotate_left
  ·refine AN ?_
   exact R.callPan rfl rfl pan86 (bad (hbad (by rw [hlc] at hC;simp at hC;unfold headIs;simp;omega)) (by omega) fun q h5 h6=>Eq.trans at_upd (hfr q h5 h6))
  rcases Bool.eq_false_or_eq_true (s.name == !(name==[])) with hE|hE
  rotate_left
  ·refine AN ?_
   exact R.callPan rfl rfl pan86 (bad (hbad (by unfold headIs;rw [hE];simp)) (by omega) fun q h5 h6=>Eq.trans at_upd (hfr q h5 h6))
  rcases Bool.eq_false_or_eq_true (decide (n'>=s.low)) with hF|hF
  rotate_left
  ·refine AN ?_
   exact R.callPan rfl rfl pan86 (bad (hbad (by unfold headIs inR;rw [hF];simp)) (by omega) fun q h5 h6=>Eq.trans at_upd (hfr q h5 h6))
  rcases Bool.eq_false_or_eq_true (decide (n'<=s.high)) with hF2|hF2
  rotate_left
  ·refine AN ?_
   exact R.callPan rfl rfl (panM hF2) (bad (hbad (by unfold headIs inR;rw [hF,hF2];simp)) (by omega) fun q h5 h6=>Eq.trans at_upd (hfr q h5 h6))
  have hC':calcs.length=s.calcs:=by rw [hlc] at hC;simp at hC;omega
  have hD':kids.length=s.kids:=by rw [hlk] at hD;simp at hD;omega
  have hF':inR n' s.low s.high=true:=by unfold inR;rw [hF,hF2];rfl
  have hfold:foldIs s fold=false->headIs srcs names ahead s op name n' fold calcs.length kids.length=false:=fun h=>by unfold headIs;rw [h];simp
  have hname:foldIs s fold=true->headIs srcs names ahead s op name n' fold calcs.length kids.length=nameIs srcs names ahead op name:=fun h=>by
   unfold headIs;rw [hC',hD',hE,hF',h];simp
  have hr:=retM hF2
  refine A1 ?_
  refine A1 ?_
  refine A1 ?_
  refine W.cut (X:=Unit) (fun _=>[(0, .ptr o 0),(2, .imm (.int .i64 depth)),(4, .ptr (nx+0) 0)])
   (fun _ nx2 G2=>nx'<=nx2/\G2 o=G' o/\G2 (nx+0)=G' (nx+0)/\(∀ q,q < nx->q≠o->G2 q=G q)/\foldIs s fold=true) ?_ ?_
  ·clear hL1 hL2 hr
   cases hFo:s.fold with
   |true=>
    have hfi:foldIs s fold=(decide (fold>=1)&&decide (fold<=4)):=by unfold foldIs;rw [hFo];rfl
    rcases Bool.eq_false_or_eq_true (decide (fold>=1)) with hI|hI
    ·rcases Bool.eq_false_or_eq_true (decide (fold<=4)) with hJ|hJ
     ·have hr:=retM (b:=true) rfl
      refine AN ?_
      exact W.skipCut () .auto ⟨by omega,at_upd,at_upd,fun q h5 h6=>Eq.trans at_upd (hfr q h5 h6),by rw [hfi,hI,hJ];rfl⟩
     ·have hFn:(!s.fold)=false:=by rw [hFo];rfl
      refine AN ?_
      exact R.callPan rfl rfl pan86 (bad (hbad (hfold (by rw [hfi,hJ];simp))) (by omega) fun q h5 h6=>Eq.trans at_upd (hfr q h5 h6))
    ·have hFn:(!s.fold)=false:=by rw [hFo];rfl
     refine AN ?_
     exact R.callPan rfl rfl pan86 (bad (hbad (hfold (by rw [hfi,hI];simp))) (by omega) fun q h5 h6=>Eq.trans at_upd (hfr q h5 h6))
   |false=>
    have hFn:(!s.fold)=true:=by rw [hFo];rfl
    have hfi:foldIs s fold=(fold==0):=by unfold foldIs;rw [hFo];rfl
    rcases Bool.eq_false_or_eq_true (fold==0) with hI|hI
    ·have hr:=retM hI
     refine AN ?_
     exact W.skipCut () .auto ⟨by omega,at_upd,at_upd,fun q h5 h6=>Eq.trans at_upd (hfr q h5 h6),by rw [hfi];exact hI⟩
    ·refine AN ?_
     exact R.callPan rfl rfl (panM hI) (bad (hbad (hfold (by rw [hfi];exact hI))) (by omega) fun q h5 h6=>Eq.trans at_upd (hfr q h5 h6))
  rintro _ nx2 G2 ⟨hx2,hG2o,hG2e,hfr2,hfo⟩
  rw [h2] at hG2o
  rw [hB] at hG2e
  have hname:=hname hfo
  have hmk:expR srcs names ahead (.mk op name n' fold calcs kids) depth (60-n)=if nameIs srcs names ahead op name then (if calcRs calcs (other op) 0 (60-n) 1 < 0 then -1 else expRs srcs names ahead kids depth (60-n) (calcRs calcs (other op) 0 (60-n) 1)) else -1:=by
   rw [expR,hs];simp only [if_neg (show ¬ (depth > 10\/(60-n) < 1) by omega),hname]
  generalize expR srcs names ahead (.mk op name n' fold calcs kids) depth (60-n)=res at hmk bad ⊢
  clear hbad hname hfold hnone hL hr hF hF2 hE hC hD hS hfo hB h2
  refine A1 ?_
  refine A1 ?_
  refine W.cut (X:=Unit) (fun _=>[(0, .ptr o 0),(2, .imm (.int .i64 depth)),(4, .ptr (nx+0) 0)])
   (fun _ nx3 G3=>nx2<=nx3/\G3=G2/\nameIs srcs names ahead op name=true) ?_ ?_
  ·have hno:nameIs srcs names ahead op name=false->res = -1:=fun h=>by rw [hmk,h];rfl
   by_cases e1:op=1
   ·subst e1
    have hni:nameIs srcs names ahead 1 name=srcs.contains name:=rfl
    rcases Bool.eq_false_or_eq_true (srcs.contains name) with hI|hI
    ·have hr:=retM hI
     refine AN ?_
     exact W.skipCut () .auto ⟨by omega,rfl,by rw [hni];exact hI⟩
    ·refine AN ?_
     exact R.callPan rfl rfl (panM hI) (bad (hno (by rw [hni];exact hI)) (by omega) hfr2)
   by_cases e2:op=2
   ·subst e2
    have hni:nameIs srcs names ahead 2 name=(names.contains name&&decide (((idxN names name:Nat):Int) < (ahead:Int))):=idxN_take ahead
    rcases Bool.eq_false_or_eq_true (names.contains name) with hI|hI
    ·rcases Bool.eq_false_or_eq_true (decide (((idxN names name:Nat):Int) < (ahead:Int))) with hJ|hJ
     ·have hr:=retM hJ
      refine AN ?_
      exact W.skipCut () .auto ⟨by omega,rfl,by rw [hni,hI,hJ];rfl⟩
     ·refine AN ?_
      exact R.callPan rfl rfl (panM hJ) (bad (hno (by rw [hni,hI,hJ];rfl)) (by omega) hfr2)
    ·refine AN ?_
     exact R.callPan rfl rfl pan86 (bad (hno (by rw [hni,hI];rfl)) (by omega) hfr2)
   by_cases e3:op=3
   ·subst e3
    have hni:nameIs srcs names ahead 3 name=names.contains name:=rfl
    rcases Bool.eq_false_or_eq_true (names.contains name) with hI|hI
    ·have hr:=retM hI
     refine AN ?_
     exact W.skipCut () .auto ⟨by omega,rfl,by rw [hni];exact hI⟩
    ·refine AN ?_
     exact R.callPan rfl rfl (panM hI) (bad (hno (by rw [hni];exact hI)) (by omega) hfr2)
   have hn:nameIs srcs names ahead op name=true:=by unfold nameIs;simp [e1,e2,e3]
   have e1':(op==1)=false:=by simpa using e1
   have e2':(op==2)=false:=by simpa using e2
   have e3':(op==3)=false:=by simpa using e3
   refine AN ?_
   exact W.skipCut () .auto ⟨by omega,rfl,hn⟩
  rintro _ nx3 G3 ⟨hx3,rfl,hni⟩
  rw [hni,if_pos rfl] at hmk
  clear hL1 hL2
  have hGe:=hG2e
  refine AN ?_
  refine W.loop (X:=Nat×Int) (fun x=>[(0, .ptr o 0),(2, .imm (.int .i64 depth)),(4, .ptr (nx+0) 0),(137, .imm (.lst (Trm.ivs calcs))),(138, .imm (.int .i64 (Trm.ivs calcs).length)),(139, .imm (.int .i64 x.1))])
   (fun x nx4 G4=>nx+1<=nx4/\G4 o = .box [.imm (numIV srcs), .imm (numIV names), .imm shapesIV, .imm (.int .i64 ahead), .imm (.int .i64 (n+x.2))] false/\G4 (nx+0) = .box [.imm (.int .i64 op), .imm (sv name), .imm (.int .i64 n'), .imm (.int .i64 fold), .imm (.lst (Trm.ivs calcs)), .imm (.lst (Exp.ivs kids))] false /\
    (∀ q,q < nx->q≠o->G4 q=G q)/\x.1<=calcs.length/\(1<=x.2/\x.2<=60-n)/\res=(if calcRs (calcs.drop x.1) (other op) 0 (60-n) x.2 < 0 then -1 else expRs srcs names ahead kids depth (60-n) (calcRs (calcs.drop x.1) (other op) 0 (60-n) x.2)))
   (fun x=>calcs.length-x.1) (0,1) .auto ⟨by omega,hG2o,hGe,hfr2,Nat.zero_le _,by dsimp only;omega,hmk⟩ ?_
  clear hG2o hG2e hGe hfr2 hmk hx2 hx3 hni hfr
  rintro ⟨i,m⟩ nx4 G4 ⟨hx4,hGo,hGe,hfr,hi,hm,he⟩
  dsimp only at hGo hi hm he ⊢
  rcases Bool.eq_false_or_eq_true (decide ((i:Int) < ((Trm.ivs calcs).length:Int))) with hc|hc
  ·have hlt:i < calcs.length:=by have:=of_decide_eq_true hc;omega
   obtain ⟨kid,hxk⟩:=at_lt hlt
   have hxi:=tivs_at hxk
   have hcl:=kid.cells_len
   have ihk:=fun (oth:Bool) (nx:Nat) (G:Nat->Obj) (n:Int) h1 h2 h3=>@cal104 o (.imm (numIV srcs)) (.imm (numIV names)) (.imm shapesIV) (.imm (.int .i64 ahead)) kid (hcs kid (List.mem_of_getElem? hxk)) nx G n 1 oth h1 h2 h3 (by omega)
   have hle:=calcR_le kid (other op) 1 (60-n-m)
   rw [calcRs_drop hxk,show (0:Int)+1=1 from rfl] at he
   have hmu:calcs.length-(i+1) < calcs.length-i:=by omega
   obtain ⟨o',m',k'⟩:=kid
   have go:∀ oth:Bool,other op=oth->∀ {nx5:Nat} {G5:Nat->Obj} (hx5:nx4<=nx5) (hGo:G5 o = .box [.imm (numIV srcs), .imm (numIV names), .imm shapesIV, .imm (.int .i64 ahead), .imm (.int .i64 (n+m))] false),CalP CC 163 [.ptr o 0, .imm (Trm.mk o' m' k').iv, .imm (.bool oth), .imm (.int .i64 1)] G5 nx5
    (SPost o (.imm (numIV srcs)) (.imm (numIV names)) (.imm shapesIV) (.imm (.int .i64 ahead)) (n+m) (calcR (.mk o' m' k') (other op) 1 (60-n-m)) G5 nx5):=by
    intro oth ho2 nx5 G5 h5 h6
    subst ho2
    have:=ihk (other op) nx5 G5 (n+m) h6 (by omega) (by omega)
    rwa [show (60:Int)-(n+m)=60-n-m by omega] at this
   clear ihk
   have fin:∀ {r:CR} {nx5:Nat} {G5:Nat->Obj},nx4<=nx5->(∀ q,q < nx4->q≠o->G5 q=G4 q)->SPost o (.imm (numIV srcs)) (.imm (numIV names)) (.imm shapesIV) (.imm (.int .i64 ahead)) (n+m) (calcR (.mk o' m' k') (other op) 1 (60-n-m)) G5 nx5 r->match r with
     | .ret v G6 nx6=>v = .imm (.tup [])/\nx+1<=nx6/\G6 o = .box [.imm (numIV srcs), .imm (numIV names), .imm shapesIV, .imm (.int .i64 ahead), .imm (.int .i64 (n+(m+calcR (.mk o' m' k') (other op) 1 (60-n-m))))] false/\G6 (nx+0) = .box [.imm (.int .i64 op), .imm (sv name), .imm (.int .i64 n'), .imm (.int .i64 fold), .imm (.lst (Trm.ivs calcs)), .imm (.lst (Exp.ivs kids))] false /\
       (∀ q,q < nx->q≠o->G6 q=G q)/\(1<=m+calcR (.mk o' m' k') (other op) 1 (60-n-m)/\m+calcR (.mk o' m' k') (other op) 1 (60-n-m)<=60-n)/\¬ (calcR (.mk o' m' k') (other op) 1 (60-n-m) < 0)
     | .pan u G6 nx6=>u=unf/\nx+1<=nx6/\(∀ q,q < nx->q≠o->G6 q=G q)/\calcR (.mk o' m' k') (other op) 1 (60-n-m) < 0:=by
    intro r nx5 G5 h5 h6 hr
    cases r with
    |pan u G6 nx6=>
     obtain ⟨g0,g1,g2,g3⟩:=hr
     exact ⟨g0,by omega,fun q h7 h8=>(g3 q (by omega) h8).trans ((h6 q (by omega) h8).trans (hfr q h7 h8)),g1⟩
    |ret v G6 nx6=>
     obtain ⟨g0,g1,g2,g3,g4⟩:=hr
     have:=hle g1
     exact ⟨g0,by omega,by rw [g2,Int.add_assoc],(g4 _ (by omega) (by omega)).trans ((h6 _ (by omega) (by omega)).trans hGe),fun q h7 h8=>(g4 q (by omega) h8).trans ((h6 q (by omega) h8).trans (hfr q h7 h8)),by omega,by omega⟩
   rcases Bool.eq_false_or_eq_true (op==12) with h12|h12
   all_goals
    refine AN ?_
    refine R.callBP rfl rfl rfl rfl rfl ((go _ (by unfold other;rw [h12];rfl) (by omega) at_upd).mono fun r hr=>?_)
    have hf:=fin (by omega) (fun q h1 h2=>at_upd) hr
    clear hr
    cases r with
    |pan u G6 nx6=>
     obtain ⟨rfl,g1,g2,g3⟩:=hf
     rw [if_pos g3] at he
     exact bad (by rw [he];rfl) g1 g2
    |ret v G6 nx6=>
     obtain ⟨rfl,g1,g2,g3,g4,g5,g6⟩:=hf
     rw [if_neg g6] at he
     refine AN ?_
     exact W.skipLop (i+1,m+calcR (.mk o' m' k') (other op) 1 (60-n-m)) hmu .auto ⟨by omega,g2,g3,g4,hlt,g5,he⟩
  have hge:calcs.length<=i:=by have:=of_decide_eq_false hc;omega
  rw [List.drop_eq_nil_of_le hge,calcRs,if_neg (by omega)] at he
  refine AN ?_
  refine W.loop (X:=Nat×Int) (fun x=>[(0, .ptr o 0),(2, .imm (.int .i64 depth)),(156, .imm (.lst (Exp.ivs kids))),(157, .imm (.int .i64 (Exp.ivs kids).length)),(158, .imm (.int .i64 x.1))])
   (fun x nx4 G4=>nx+1<=nx4/\G4 o = .box [.imm (numIV srcs), .imm (numIV names), .imm shapesIV, .imm (.int .i64 ahead), .imm (.int .i64 (n+x.2))] false /\
    (∀ q,q < nx->q≠o->G4 q=G q)/\x.1<=kids.length/\(1<=x.2/\x.2<=60-n)/\res=expRs srcs names ahead (kids.drop x.1) depth (60-n) x.2)
   (fun x=>kids.length-x.1) (0,m) .auto ⟨by omega,hGo,hfr,Nat.zero_le _,hm,he⟩ ?_
  clear hGo hGe hfr he hm hc hge hi
  clear i m hx4
  rintro ⟨i,m⟩ nx4 G4 ⟨hx4,hGo,hfr,hi,hm,he⟩
  dsimp only at hGo hi hm he ⊢
  rcases Bool.eq_false_or_eq_true (decide ((i:Int) < ((Exp.ivs kids).length:Int))) with hc|hc
  ·have hlt:i < kids.length:=by have:=of_decide_eq_true hc;omega
   obtain ⟨kid,hxk⟩:=at_lt hlt
   have hxi:=ivs_at hxk
   have hcl:=kid.cells_len
   have ihk:=@ih kid (List.mem_of_getElem? hxk)
   have hle:=(expR_le srcs names ahead kid (depth+1) (60-n-m)).2
   rw [expRs_drop srcs names ahead hxk] at he
   have hmu:kids.length-(i+1) < kids.length-i:=by omega
   obtain ⟨o',s',m',f',c',k'⟩:=kid
   refine AN ?_
   refine R.callBP rfl rfl rfl rfl rfl ((ihk (n:=n+m) (depth:=depth+1) at_upd (by omega) (by omega) (by omega)).mono fun r hr=>?_)
   rw [show (60:Int)-(n+m)=60-n-m by omega] at hr
   cases r with
   |pan u G' nx'=>
    obtain ⟨rfl,g1,g2,g3⟩:=hr
    rw [if_pos g1] at he
    exact bad he (by omega) fun q h4 h5=>(g3 q (by omega) h5).trans (Eq.trans at_upd (hfr q h4 h5))
   |ret v G' nx'=>
    obtain ⟨rfl,g1,g2,g3,g4⟩:=hr
    rw [if_neg (by omega)] at he
    refine AN ?_
    refine W.skipLop (i+1,m+expR srcs names ahead (.mk o' s' m' f' c' k') (depth+1) (60-n-m)) hmu .auto ⟨by omega,?_,fun q h4 h5=>(g4 q (by omega) h5).trans (Eq.trans at_upd (hfr q h4 h5)),hlt,?_,he⟩
    ·rw [g2,Int.add_assoc]
    ·dsimp only
     have:=hle g1
     omega
  ·have hge:kids.length<=i:=by have:=of_decide_eq_false hc;omega
   rw [List.drop_eq_nil_of_le hge,expRs] at he
   rw [he]
   refine AN ?_
   exact W.skipFinP rfl ⟨rfl,by omega,hGo,by omega,hfr⟩
end Go.Abs

/- Walks over the nodes of an expression. -/
open Go Go.Abs
namespace Go.Abs
set_option maxRecDepth 100000
set_option maxHeartbeats 4000000
def ty101:TyI:={ d:=TyD.fn,sz:=1,bytes:=8,zero:=AV.imm IV.nilfn }
instance tyis101:TyIs CC 115 ty101:=⟨by kernel_rfl⟩
def ty111:TyI:={ d:=TyD.fn,sz:=1,bytes:=8,zero:=AV.imm IV.nilfn }
instance tyis111:TyIs CC 200 ty111:=⟨by kernel_rfl⟩
abbrev Own1:=Nat->Prop
abbrev Kp:=Nat->Own1->(Nat->Obj)->Nat->Prop
structure Walk (q N:Nat) (l:List Exp) (K:Kp) (J:(Nat->Obj)->Nat->Prop) (Pn:IV->(Nat->Obj)->Nat->Prop):Prop where
 frame:∀ i own G nx G' nx',K i own G nx->nx<=nx'->(∀ o,o < nx->G' o=G o)->K i own G' nx'
 lt:∀ i own G nx,K i own G nx->∀ o,own o->o < nx
 frameJ:∀ G nx G' nx',J G nx->nx<=nx'->(∀ o,o < nx->G' o=G o)->J G' nx'
 round:∀ i x own G nx,l[i]? = some x->N<=nx->K i own G nx->RndP CC q [.imm x.iv] G nx fun
  | .ret v G' nx'=>nx<=nx'/\∃ own',(∀ o,o < nx->own' o->own o)/\(∀ o,N<=o->o < nx->¬ own o->G' o=G o)/\((v = .imm (.bool true)/\K (i+1) own' G' nx')\/(v = .imm (.bool false)/\J G' nx'))
  | .pan u G' nx'=>Pn u G' nx'
variable {q N:Nat} {l:List Exp} {K:Kp} {J:(Nat->Obj)->Nat->Prop} {Pn:IV->(Nat->Obj)->Nat->Prop}
def WPost (N:Nat) (K:Kp) (J:(Nat->Obj)->Nat->Prop) (Pn:IV->(Nat->Obj)->Nat->Prop) (k:Nat) (go:AV->Prop) (stop:AV->Prop) (own:Own1) (G:Nat->Obj) (nx:Nat):CR->Prop
 | .ret v G' nx'=>nx<=nx'/\∃ own',(∀ o,o < nx->own' o->own o)/\(∀ o,N<=o->o < nx->¬ own o->G' o=G o)/\((go v/\K k own' G' nx')\/(stop v/\J G' nx'))
 | .pan u G' nx'=>Pn u G' nx'
def isB (b:Bool) (v:AV):Prop:=v = .imm (.bool b)
theorem WPost.trans {k:Nat} {go stop:AV->Prop} {own own1:Own1} {G G1:Nat->Obj} {nx nx1:Nat} {r:CR} (h:WPost N K J Pn k go stop own1 G1 nx1 r) (hn:nx<=nx1) (ho:∀ o,o < nx->own1 o->own o) (hG:∀ o,N<=o->o < nx->¬ own o->G1 o=G o):WPost N K J Pn k go stop own G nx r:=by
 cases r with
 |ret v G' nx'=>
  obtain ⟨h1,own',h0,h2,h3⟩:=h
  exact ⟨by omega,own',fun o h4 h5=>ho o h4 (h0 o (by omega) h5),fun o h4 h5 h6=>(h2 o h4 (by omega) fun h7=>h6 (ho o h5 h7)).trans (hG o h4 h5 h6),h3⟩
 |pan u G' nx'=>exact h
structure Bx (q N yb wb nx:Nat) (own:Own1) (G:Nat->Obj):Prop where
 y:G yb = .box [.yld q] false
 w:G wb = .box [.fn (.func 132) [.ptr yb 0, .ptr wb 0]] false
 yl:N<=yb/\yb < nx/\¬ own yb
 wl:N<=wb/\wb < nx/\¬ own wb
theorem Bx.fr {q N yb wb nx nx':Nat} {own own':Own1} {G G':Nat->Obj} (h:Bx q N yb wb nx own G) (hn:nx<=nx') (ho:∀ o,o < nx->own' o->own o) (hG:∀ o,N<=o->o < nx->¬ own o->G' o=G o):Bx q N yb wb nx' own' G':=
 ⟨(hG _ h.yl.1 h.yl.2.1 h.yl.2.2).trans h.y,(hG _ h.wl.1 h.wl.2.1 h.wl.2.2).trans h.w,⟨h.yl.1,by have:=h.yl.2.1;omega,fun h'=>h.yl.2.2 (ho _ h.yl.2.1 h')⟩,⟨h.wl.1,by have:=h.wl.2.1;omega,fun h'=>h.wl.2.2 (ho _ h.wl.2.1 h')⟩⟩
def From (l m:List Exp) (k:Nat):Prop:=∀ j x,m[j]? = some x->l[k+j]? = some x
def WalkOK (q N:Nat) (l:List Exp) (K:Kp) (J:(Nat->Obj)->Nat->Prop) (Pn:IV->(Nat->Obj)->Nat->Prop) (e:Exp):Prop:=
 ∀ k own yb wb nx G,From l (allE e) k->K k own G nx->Bx q N yb wb nx own G->CalP CC 132 [.imm e.iv, .ptr yb 0, .ptr wb 0] G nx (WPost N K J Pn (k+(allE e).length) (isB true) (isB false) own G nx)
theorem cal83 (hw:Walk q N l K J Pn) {e:Exp} (he:WalkOK q N l K J Pn e) {k yb wb nx:Nat} {own:Own1} {G:Nat->Obj} (hf:From l (allE e) k) (hI:K k own G nx) (hB:Bx q N yb wb nx own G) :
  CalP CC 134 [.imm e.iv, .ptr wb 0] G nx (WPost N K J Pn (k+(allE e).length) (isB false) (isB true) own G nx):=by
 have hc:=fun nx1 G1 (h2:nx<=nx1) (h3:∀ o,o < nx->G1 o=G o)=>he k own yb wb nx1 G1 hf (hw.frame k own G nx G1 nx1 hI h2 h3) (hB.fr (nx':=nx1) h2 (fun _ _ h=>h) fun o _ h _=>h3 o h)
 have hwG:=hB.w
 have hwl:=hB.wl
 obtain ⟨op,name,n',fold,calcs,kids⟩:=e
 refine CalP.of (fn:=Go.Proofs.Tryz.f134) (by kernel_rfl) rfl rfl ?_
 refine AN ?_
 refine R.callBP rfl rfl rfl rfl rfl ((hc _ _ (by omega) (fun o h2=>at_upd)).mono fun r hr=>?_)
 have hr:=hr.trans (nx:=nx) (own:=own) (G:=G) (by omega) (fun _ _ h=>h) (fun o h1 h2 h3=>at_upd)
 cases r with
 |pan u G' nx'=>exact panTo (by exact hr)
 |ret v G' nx'=>
  obtain ⟨h1,own',h0,h2,⟨rfl,h3⟩|⟨rfl,h3⟩⟩:=hr
  ·refine AN ?_
   exact W.retFinP rfl ⟨by omega,own',h0,h2, .inl ⟨rfl,hw.frame _ _ _ _ _ _ h3 (by omega) fun _ _=>rfl⟩⟩
  ·refine AN ?_
   exact W.retFinP rfl ⟨by omega,own',h0,h2, .inr ⟨rfl,hw.frameJ _ _ _ _ h3 (by omega) fun _ _=>rfl⟩⟩
theorem allEs_split:∀ {kids:List Exp} {i:Nat} {k:Exp},kids[i]? = some k->allEs kids=allEs (kids.take i)++(allE k++allEs (kids.drop (i+1)))
 |[],_,_,h=>by simp at h
 |x::r,0,k,h=>by
  simp at h
  subst h
  simp [allEs]
 |x::r,i+1,k,h=>by
  simp at h
  rw [List.take_succ_cons,List.drop_succ_cons,allEs,allEs,allEs_split h]
  simp
theorem From.kid {kids:List Exp} {i k:Nat} {e:Exp} (h:From l (allEs kids) k) (hi:kids[i]? = some e):From l (allE e) (k+(allEs (kids.take i)).length):=by
 intro j x hx
 have:=h ((allEs (kids.take i)).length+j) x (by
  rw [allEs_split hi,List.getElem?_append_right (by omega)]
  have hj:=(List.getElem?_eq_some_iff.1 hx).1
  rw [show (allEs (kids.take i)).length+j-(allEs (kids.take i)).length=j by omega,List.getElem?_append_left hj]
  exact hx)
 rwa [<-Nat.add_assoc] at this
def isNeg (v:AV):Prop:=v = .imm (.int .i64 (-1))
def isPos (v:AV):Prop:=∃ n:Nat,v = .imm (.int .i64 n)
theorem cal102 (hw:Walk q N l K J Pn) {kids:List Exp} (hk:kids.length<=9223372036854775807) (he:∀ e∈kids,WalkOK q N l K J Pn e) {k yb wb nx:Nat} {own:Own1} {G:Nat->Obj} (hf:From l (allEs kids) k) (hI:K k own G nx) (hB:Bx q N yb wb nx own G) :
  CalP CC 175 [.imm (.lst (Exp.ivs kids)), .fn (.func 134) [.ptr wb 0]] G nx (WPost N K J Pn (k+(allEs kids).length) isNeg isPos own G nx):=by
 have hlk:=ivs_len kids
 refine CalP.of (fn:=Go.Proofs.Tryz.f175) (by kernel_rfl) rfl rfl ?_
 refine AN ?_
 refine W.loop (X:=Nat×Own1) (fun x=>[(0, .imm (.lst (Exp.ivs kids))),(1, .fn (.func 134) [.ptr wb 0]),(6, .imm (.lst (Exp.ivs kids))),(7, .imm (.int .i64 (Exp.ivs kids).length)),(8, .imm (.int .i64 x.1))])
  (fun x nx1 G1=>nx<=nx1/\(∀ o,o < nx->x.2 o->own o)/\(∀ o,N<=o->o < nx->¬ own o->G1 o=G o)/\x.1<=kids.length/\K (k+(allEs (kids.take x.1)).length) x.2 G1 nx1) (fun x=>kids.length-x.1) (0,own) .auto
  ⟨by omega,fun _ _ h=>h,fun _ _ _ _=>rfl,Nat.zero_le _,hw.frame _ _ _ _ _ _ hI (by omega) fun _ _=>rfl⟩ ?_
 clear hI
 rintro ⟨i,own1⟩ nx1 G1 ⟨hx,ho1,hfr,hi,hI⟩
 dsimp only at ho1 hi hI ⊢
 rcases Bool.eq_false_or_eq_true (decide ((i:Int) < ((Exp.ivs kids).length:Int))) with hc|hc
 ·have hlt:i < kids.length:=by have:=of_decide_eq_true hc;omega
  obtain ⟨kid,hxk⟩:=at_lt hlt
  have hxi:=ivs_at hxk
  have hcl:=kid.cells_len
  have hcal:=fun nx2 (h:nx1<=nx2)=>cal83 (nx:=nx2) hw (he kid (List.mem_of_getElem? hxk)) (hf.kid hxk) (hw.frame _ _ _ _ _ _ hI h fun _ _=>rfl) (hB.fr (nx':=nx2) (by omega) ho1 hfr)
  have hmu:kids.length-(i+1) < kids.length-i:=by omega
  have htk:=allEs_take hxk
  obtain ⟨o',s',m',f',c',k'⟩:=kid
  refine AN ?_
  refine R.callBP rfl rfl rfl rfl rfl ((hcal _ (by omega)).mono fun r hr=>?_)
  have hr:=hr.trans (nx:=nx) (own:=own) (G:=G) (by omega) ho1 hfr
  cases r with
  |pan u G' nx'=>exact panTo (by exact hr)
  |ret v G' nx'=>
   obtain ⟨h1,own',h0,h2,⟨rfl,h3⟩|⟨rfl,h3⟩⟩:=hr
   ·refine AN ?_
    refine W.skipLop (i+1,own') hmu .auto ⟨by omega,h0,h2,hlt,?_⟩
    rw [htk,List.length_append,<-Nat.add_assoc];exact hw.frame _ _ _ _ _ _ h3 (by omega) fun _ _=>rfl
   ·refine AN ?_
    exact W.retFinP rfl ⟨by omega,own',h0,h2, .inr ⟨⟨_,rfl⟩,hw.frameJ _ _ _ _ h3 (by omega) fun _ _=>rfl⟩⟩
 ·have hge:kids.length<=i:=by have:=of_decide_eq_false hc;omega
  rw [List.take_of_length_le hge] at hI
  refine AN ?_
  exact W.retFinP rfl ⟨by omega,own1,ho1,hfr, .inl ⟨rfl,hw.frame _ _ _ _ _ _ hI (by omega) fun _ _=>rfl⟩⟩
theorem cal82 (hw:Walk q N l K J Pn) {kids:List Exp} (hk:kids.length<=9223372036854775807) (he:∀ e∈kids,WalkOK q N l K J Pn e) {k yb wb nx:Nat} {own:Own1} {G:Nat->Obj} (hf:From l (allEs kids) k) (hI:K k own G nx) (hB:Bx q N yb wb nx own G) :
  CalP CC 133 [.imm (.lst (Exp.ivs kids)), .fn (.func 134) [.ptr wb 0]] G nx (WPost N K J Pn (k+(allEs kids).length) (isB false) (isB true) own G nx):=by
 have hc:=fun nx1 (h2:nx<=nx1)=>cal102 hw hk he hf (hw.frame _ _ _ _ _ _ hI h2 fun _ _=>rfl) (hB.fr (nx':=nx1) h2 (fun _ _ h=>h) fun _ _ _ _=>rfl)
 refine CalP.of (fn:=Go.Proofs.Tryz.f133) (by kernel_rfl) rfl rfl ?_
 refine AN ?_
 refine R.callBP rfl rfl rfl rfl rfl ((hc _ (by omega)).mono fun r hr=>?_)
 have hr:=hr.trans (nx:=nx) (own:=own) (G:=G) (by omega) (fun _ _ h=>h) (fun o h1 h2 h3=>rfl)
 cases r with
 |pan u G' nx'=>exact panTo (by exact hr)
 |ret v G' nx'=>
  obtain ⟨h1,own',h0,h2,⟨rfl,h3⟩|⟨⟨n,rfl⟩,h3⟩⟩:=hr
  ·refine AN ?_
   exact W.retFinP rfl ⟨by omega,own',h0,h2, .inl ⟨rfl,hw.frame _ _ _ _ _ _ h3 (by omega) fun _ _=>rfl⟩⟩
  ·refine AN ?_
   refine W.retFinP rfl ⟨by omega,own',h0,h2, .inr ⟨?_,hw.frameJ _ _ _ _ h3 (by omega) fun _ _=>rfl⟩⟩
   show AV.imm (.bool (decide ((n:Int)>=0))) = .imm (.bool true)
   rw [decide_eq_true (by omega)]
theorem walk_ok (hw:Walk q N l K J Pn) {e:Exp} (hfit:e.Fits):WalkOK q N l K J Pn e:=by
 induction hfit with
 |mk op name n' fold calcs kids hnm hw' hc hk hcs hks ih=>
 intro k own yb wb nx G hf hI hB
 have hk':kids.length<=9223372036854775807:=hk
 have hyl:=hB.yl
 have hwl:=hB.wl
 have hyG:=hB.y
 have h0:=hf 0 _ (by rw [allE];rfl)
 have hkf:From l (allEs kids) (k+1):=fun j x hx=>by
  have:=hf (j+1) x (by rw [allE];simpa using hx)
  rwa [show k+(j+1)=k+1+j by omega] at this
 have hr:=fun nx1 G1 (h:N<=nx1) (h1:nx<=nx1) (h2:∀ o,o < nx->G1 o=G o)=>hw.round k _ own G1 nx1 h0 h (hw.frame k own G nx G1 nx1 hI h1 h2)
 have hlen:k+1+(allEs kids).length=k+(allE (.mk op name n' fold calcs kids)).length:=by rw [allE];simp;omega
 refine CalP.of (fn:=Go.Proofs.Tryz.f132) (by kernel_rfl) rfl rfl ?_
 refine AN ?_
 refine R.roundP rfl rfl rfl ((hr _ _ (by omega) (by omega) (fun o h=>at_upd)).mono fun r hr=>?_)
 cases r with
 |pan u G' nx'=>exact panTo (by exact hr)
 |ret v G' nx'=>
  obtain ⟨h1,own1,ho1,h2,hv⟩:=hr
  have hnu:¬ own (nx+0):=fun h=>by have:=hw.lt _ _ _ _ hI _ h;omega
  have hfr:∀ o,N<=o->o < nx->¬ own o->G' o=G o:=fun o h4 h5 h6=>(h2 o h4 (by omega) h6).trans at_upd
  rcases hv with ⟨rfl,h3⟩|⟨rfl,h3⟩
  ·have hb:G' (nx+0) = .box [.imm (.int .i64 op), .imm (sv name), .imm (.int .i64 n'), .imm (.int .i64 fold), .imm (.lst (Trm.ivs calcs)), .imm (.lst (Exp.ivs kids))] false:=(h2 _ (by omega) (by omega) hnu).trans at_upd
   have hc:=fun nx1 (h:nx'<=nx1)=>cal82 (nx:=nx1) hw hk' ih hkf (hw.frame _ _ _ _ _ _ h3 h fun _ _=>rfl) (hB.fr (nx':=nx1) (by omega) (fun o h4 h5=>ho1 o (by omega) h5) hfr)
   refine AN ?_
   refine R.callBP rfl rfl rfl rfl rfl ((hc _ (by omega)).mono fun r hr=>?_)
   have hr:=hr.trans (nx:=nx) (own:=own) (G:=G) (by omega) (fun o h4 h5=>ho1 o (by omega) h5) hfr
   rw [hlen] at hr
   cases r with
   |pan u G' nx'=>exact panTo (by exact hr)
   |ret v G' nx'=>
    obtain ⟨g1,own',g0,g2,⟨rfl,g3⟩|⟨rfl,g3⟩⟩:=hr
    ·refine AN ?_
     exact W.retFinP rfl ⟨by omega,own',g0,g2, .inl ⟨rfl,hw.frame _ _ _ _ _ _ g3 (by omega) fun _ _=>rfl⟩⟩
    ·refine AN ?_
     exact W.retFinP rfl ⟨by omega,own',g0,g2, .inr ⟨rfl,hw.frameJ _ _ _ _ g3 (by omega) fun _ _=>rfl⟩⟩
  ·refine AN ?_
   exact W.retFinP rfl ⟨by omega,own1,fun o h4 h5=>ho1 o (by omega) h5,hfr, .inr ⟨rfl,hw.frameJ _ _ _ _ h3 (by omega) fun _ _=>rfl⟩⟩
theorem cal80 {e:Exp} (hw:Walk q N (allE e) K J Pn) (hfit:e.Fits) {nx:Nat} {own:Own1} {G:Nat->Obj} (hn:N<=nx) (hI:K 0 own G nx) :
  CalP CC 131 [.yld q, .imm (.fptr e.iv.cells 0)] G nx fun
   | .ret _ G' nx'=>nx<=nx'/\((∃ own',K (allE e).length own' G' nx')\/J G' nx')
   | .pan u G' nx'=>Pn u G' nx':=by
 have hc:=fun k own yb wb nx G=>walk_ok hw hfit k own yb wb nx G
 have hlt:=hw.lt _ _ _ _ hI
 obtain ⟨op,name,n',fold,calcs,kids⟩:=e
 refine CalP.of (fn:=Go.Proofs.Tryz.f131) (by kernel_rfl) rfl rfl ?_
 refine AN ?_
 have hB:∀ {G1:Nat->Obj},(∀ o,nx<=o->o < nx+2->G1 o=upd (upd (upd G (nx+0) (.box [.yld q] false)) (nx+1+0) (.box ty101.zero.cells false)) (nx+1+0) (.box [.fn (.func 132) [.ptr (nx+0) 0, .ptr (nx+1+0) 0]] false) o)->Bx q N (nx+0) (nx+1+0) (nx+1+1+2+3) own G1:=fun h=>
  ⟨(h _ (by omega) (by omega)).trans at_upd,(h _ (by omega) (by omega)).trans at_upd,⟨by omega,by omega,fun h=>by have:=hlt _ h;omega⟩,⟨by omega,by omega,fun h=>by have:=hlt _ h;omega⟩⟩
 refine R.callBP rfl rfl rfl rfl rfl ((hc 0 own _ _ _ _ (fun j x hx=>by rwa [Nat.zero_add]) (hw.frame 0 own G nx _ _ hI (by omega) fun o h=>at_upd) (hB fun o h1 h2=>rfl)).mono fun r hr=>?_)
 cases r with
 |pan u G' nx'=>exact panTo (by exact hr)
 |ret v G' nx'=>
  obtain ⟨h1,own',h0,h2,h3⟩:=hr
  rw [Nat.zero_add] at h3
  refine AN ?_
  refine W.skipFinP rfl ⟨by omega,?_⟩
  rcases h3 with ⟨_,h3⟩|⟨_,h3⟩
  ·exact .inl ⟨own',h3⟩
  ·exact .inr h3
theorem W.nodesK {f:Operand} {ps:Array Nat} {assign body:Code} {fid nt nx:Nat} {lv:Env} {G:Nat->Obj} {df:List (AV×List AV)} {pk:Pk} {Φ:Out->Prop} (e:Exp) (hfit:e.Fits)
  (K:Kp) (J:(Nat->Obj)->Nat->Prop) (Pn:IV->(Nat->Obj)->Nat->Prop)
  (hf:lookO lv f=some (.imm (.fn (.func 131) [.fptr e.iv.cells 0]))) (hpk:pk.isRnd=false) (hfn:(CC.fn fid).isSome=true) (hps:ps.toList.length=1) (hps2:(ps.toList.all fun t=>decide (t < nt))=true)
  (hK:∀ i own G n G' n',K i own G n->n<=n'->(∀ o,o < n->o≠nx->G' o=G o)->K i own G' n') (hlt:∀ i own G n,K i own G n->∀ o,own o->nx+2<=o/\o < n)
  (hJ:∀ G n G' n',J G n->n<=n'->(∀ o,o < n->o≠nx->G' o=G o)->J G' n') (h0:K 0 (fun _=>False) G nx)
  (hround:∀ (q i:Nat) x own G1 nx1 (lp0 lp1:Obj) (Φr:Out->Prop),q=nx->(allE e)[i]? = some x->q+2<=nx1->K i own G1 nx1->G1 q=lp0 ->
   (∀ {f' l' G' nx'} (own':Own1),nx1<=nx'->(∀ o,o < nx1->own' o->own o)->(∀ o,q+2<=o->o < nx1->¬ own o->G' o=G1 o)->K (i+1) own' G' nx'->G' q=lp1->W CC f' nt .skip l' G' nx' [] .rnd Φr) ->
   (∀ {l' G' nx'} (own':Own1),nx1<=nx'->(∀ o,o < nx1->own' o->own o)->(∀ o,q+2<=o->o < nx1->¬ own o->G' o=G1 o)->J G' nx'->G' q=lp1->W CC fid nt .ret l' G' nx' [] .rnd Φr) ->
   (∀ {l':Env} {u G' nx'},Pn u G' nx'->∀ t,Agree t l'->Φr (.pan u ⟨t,G',nx',[], .rnd⟩)) ->
   W CC fid nt assign (bindE lv (ps.toList.zip [.imm x.iv])) G1 nx1 [] .rnd (astQ CC q lp0 lp1 fid nt body Φr))
  (hend:∀ own G1 nx1,K (allE e).length own G1 nx1->nx<=nx1->W CC fid nt .skip lv G1 nx1 df pk Φ)
  (hret:∀ G1 nx1,J G1 nx1->nx<=nx1->W CC fid nt .ret lv G1 nx1 df pk Φ)
  (hpan:∀ u G1 nx1,Pn u G1 nx1->∀ t,Agree t lv->Φ (.pan u ⟨t,G1,nx1,df,pk⟩)):W CC fid nt (.rangeFunc f ps assign body) lv G nx df pk Φ:=by
 refine W.rangeP hf rfl rfl hpk fun t ht=>?_
 have hw:Walk nx (nx+2) (allE e) (fun i own G1 n=>nx < n/\K i own G1 n/\G1 nx = .lp t nt ps.toList assign body fid 0 none) (fun G1 n=>nx < n/\J G1 n/\G1 nx = .lp t nt ps.toList assign body fid 2 (some .ret)) Pn:=by
  refine ⟨fun i own G n G' n' ⟨h0,h1,h2⟩ hn hG=>⟨by omega,hK _ _ _ _ _ _ h1 hn fun o h _=>hG o h,(hG nx h0).trans h2⟩,fun i own G n ⟨h0,h1,h2⟩ o ho=>(hlt _ _ _ _ h1 o ho).2,fun G n G' n' ⟨h0,h1,h2⟩ hn hG=>⟨by omega,hJ _ _ _ _ h1 hn fun o h _=>hG o h,(hG nx h0).trans h2⟩,?_⟩
  rintro i x own G1 nx1 hx hn ⟨h0,h1,h2⟩
  refine RndP.of hfn h2 ht (by rw [hps];rfl) hps2 ?_
  refine W.mono (Φ:=astQ CC nx (.lp t nt ps.toList assign body fid 0 none) (.lp t nt ps.toList assign body fid 1 none) fid nt body (frdP nx fun
   | .ret v G' nx'=>nx1<=nx'/\∃ own',(∀ o,o < nx1->own' o->own o)/\(∀ o,nx+2<=o->o < nx1->¬ own o->G' o=G1 o)/\((v = .imm (.bool true)/\(nx < nx'/\K (i+1) own' G' nx'/\G' nx = .lp t nt ps.toList assign body fid 0 none))\/(v = .imm (.bool false)/\(nx < nx'/\J G' nx'/\G' nx = .lp t nt ps.toList assign body fid 2 (some .ret))))
   | .pan u G' nx'=>Pn u G' nx')) (hround nx i x own G1 nx1 (.lp t nt ps.toList assign body fid 0 none) (.lp t nt ps.toList assign body fid 1 none) _ rfl hx hn h1 h2 ?_ ?_ ?_) fun o ho=>?_
  ·intro f' l' G' nx' own' h3 h4 h5 h6 h7
   exact W.skipFrdP h7 ⟨h3,own',h4,fun o h8 h9 h10=>(upd_ne _ _ _ _ (by omega)).trans (h5 o h8 h9 h10), .inl ⟨rfl,by omega,hK _ _ _ _ _ _ h6 (Nat.le_refl _) fun o _ h=>upd_ne _ _ _ _ h,upd_same _ _ _⟩⟩
  ·intro l' G' nx' own' h3 h4 h5 h6 h7
   exact W.retFrdP h7 ⟨h3,own',h4,fun o h8 h9 h10=>(upd_ne _ _ _ _ (by omega)).trans (h5 o h8 h9 h10), .inr ⟨rfl,by omega,hJ _ _ _ _ h6 (Nat.le_refl _) fun o _ h=>upd_ne _ _ _ _ h,upd_same _ _ _⟩⟩
  ·intro l' u G' nx' h3 t _
   exact ⟨rfl,h3⟩
  ·cases o with
   |norm s=>
    obtain ⟨h3,h4⟩:=ho
    exact ⟨_,_,_,_,_,_,_,h3,h4⟩
   |_=>exact ho
 have hc:=cal80 hw hfit (nx:=nx+2) (own:=fun _=>False) (G:=upd G nx (.lp t nt ps.toList assign body fid 0 none)) (by omega) ⟨by omega,hK _ _ _ _ _ _ h0 (by omega) fun o h h'=>upd_ne _ _ _ _ h',upd_same _ _ _⟩
 obtain ⟨n,r,h1,h2⟩:=hc
 refine ⟨n,r,h1,?_⟩
 cases r with
 |pan u G' nx'=>exact hpan u G' nx' h2 t ht
 |ret v G' nx'=>
  obtain ⟨h3,⟨own',h4,h5,h6⟩|⟨h4,h5,h6⟩⟩:=h2
  ·exact ⟨_,_,_,_,_,_,_,_,h6,by decide,(hend own' _ nx' (hK _ _ _ _ _ _ h5 (Nat.le_refl _) fun o _ h=>upd_ne _ _ _ _ h) (by omega)).skipI t ht⟩
  ·exact ⟨_,_,_,_,_,_,_,_,h6,by decide,(hret _ nx' (hJ _ _ _ _ h5 (Nat.le_refl _) fun o _ h=>upd_ne _ _ _ _ h) (by omega)).retI t ht⟩
theorem W.nodes {f:Operand} {ps:Array Nat} {assign body:Code} {fid nt nx:Nat} {lv:Env} {G:Nat->Obj} {df:List (AV×List AV)} {pk:Pk} {Φ:Out->Prop} (e:Exp) (hfit:e.Fits)
  (I:Nat->(Nat->Obj)->Prop) (J:(Nat->Obj)->Prop) (Pn:IV->(Nat->Obj)->Nat->Prop)
  (hf:lookO lv f=some (.imm (.fn (.func 131) [.fptr e.iv.cells 0]))) (hpk:pk.isRnd=false) (hfn:(CC.fn fid).isSome=true) (hps:ps.toList.length=1) (hps2:(ps.toList.all fun t=>decide (t < nt))=true)
  (hI:∀ i G G',I i G->(∀ o,o < nx->G' o=G o)->I i G') (hJ:∀ G G',J G->(∀ o,o < nx->G' o=G o)->J G') (h0:I 0 G)
  (hround:∀ (q i:Nat) x G1 nx1 (lp0 lp1:Obj) (Φr:Out->Prop),q=nx->(allE e)[i]? = some x->q+2<=nx1->I i G1->G1 q=lp0 ->
   (∀ {f' l' G' nx'},nx1<=nx'->(∀ o,q+2<=o->o < nx1->G' o=G1 o)->I (i+1) G'->G' q=lp1->W CC f' nt .skip l' G' nx' [] .rnd Φr) ->
   (∀ {l' G' nx'},nx1<=nx'->(∀ o,q+2<=o->o < nx1->G' o=G1 o)->J G'->G' q=lp1->W CC fid nt .ret l' G' nx' [] .rnd Φr) ->
   (∀ {l':Env} {u G' nx'},Pn u G' nx'->∀ t,Agree t l'->Φr (.pan u ⟨t,G',nx',[], .rnd⟩)) ->
   W CC fid nt assign (bindE lv (ps.toList.zip [.imm x.iv])) G1 nx1 [] .rnd (astQ CC q lp0 lp1 fid nt body Φr))
  (hend:∀ G1 nx1,I (allE e).length G1->nx<=nx1->W CC fid nt .skip lv G1 nx1 df pk Φ)
  (hret:∀ G1 nx1,J G1->nx<=nx1->W CC fid nt .ret lv G1 nx1 df pk Φ)
  (hpan:∀ u G1 nx1,Pn u G1 nx1->∀ t,Agree t lv->Φ (.pan u ⟨t,G1,nx1,df,pk⟩)):W CC fid nt (.rangeFunc f ps assign body) lv G nx df pk Φ:=by
 refine W.nodesK e hfit (fun i own G1 n=>nx<=n/\(∀ o,¬ own o)/\I i G1) (fun G1 n=>nx<=n/\J G1) Pn hf hpk hfn hps hps2
  (fun i own G n G' n' ⟨h0,h1,h2⟩ hn hG=>⟨by omega,h1,hI i G G' h2 fun o h=>hG o (by omega) (by omega)⟩) (fun i own G n ⟨h0,h1,h2⟩ o ho=>(h1 o ho).elim)
  (fun G n G' n' ⟨h0,h1⟩ hn hG=>⟨by omega,hJ G G' h1 fun o h=>hG o (by omega) (by omega)⟩) ⟨Nat.le_refl _,fun _ h=>h,h0⟩ ?_ (fun own G1 nx1 ⟨_,_,h⟩ hn=>hend G1 nx1 h hn) (fun G1 nx1 ⟨_,h⟩ hn=>hret G1 nx1 h hn) hpan
 rintro q i x own G1 nx1 lp0 lp1 Φr hq hx hn ⟨h0,h1,h2⟩ hlp next stop pan
 refine hround q i x G1 nx1 lp0 lp1 Φr hq hx hn h2 hlp (fun h3 h4 h5 h6=>next (fun _=>False) h3 (fun _ _ h=>h.elim) (fun o h7 h8 _=>h4 o h7 h8) ⟨by omega,fun _ h=>h,h5⟩ h6) (fun h3 h4 h5 h6=>stop (fun _=>False) h3 (fun _ _ h=>h.elim) (fun o h7 h8 _=>h4 o h7 h8) ⟨by omega,h5⟩ h6) pan
end Go.Abs

/- What a graph's nodes reach; how it is found, depth first. (No program in sight.) -/
namespace Go.Abs
theorem Reach.head {tos:List (List Nat)} {i k j:Nat} (hk:k∈tos.getD i []) (h:Reach tos k j):Reach tos i j:=by
 induction h with
 |one h=>exact .more (.one hk) h
 |more _ h ih=>exact .more ih h
theorem Reach.trans {tos:List (List Nat)} {i k j:Nat} (h0:Reach tos i k) (h:Reach tos k j):Reach tos i j:=by
 induction h with
 |one h=>exact .more h0 h
 |more _ h ih=>exact .more ih h
theorem nodup_le {α:Type} [BEq α] [LawfulBEq α]:∀ (a b:List α),a.Nodup->(∀ x∈a,x∈b)->a.length<=b.length
 |[],b,_,_=>by simp
 |x::r,b,hn,h=>by
  have hx:=h x (by simp)
  rw [List.nodup_cons] at hn
  have:=nodup_le r (b.erase x) hn.2 fun y hy=>by
   have hne:y≠x:=fun e=>hn.1 (e▸hy)
   exact (List.mem_erase_of_ne hne).2 (h y (by simp [hy]))
  rw [List.length_erase_of_mem hx] at this
  have:0 < b.length:=List.length_pos_of_mem hx
  simp only [List.length_cons];omega
theorem nodup_lt {a:List Nat} {n:Nat} (hn:a.Nodup) (h:∀ x∈a,x < n):a.length<=n:=by
 have:=nodup_le a (List.range n) hn fun x hx=>by simpa using h x hx
 simpa using this
structure Dfs (tos:List (List Nat)) (d:Nat) (done out out':List Nat):Prop where
 ext:∃ new,out'=out++new
 nodup:out'.Nodup
 bnd:∀ x∈out',x < tos.length
 snd:∀ x∈out',x∈out\/Reach tos d x
 hit:∀ x∈done,x∈out'
 clos:∀ x∈out',x∈out\/∀ y∈tos.getD x [],y∈out'
variable {tos:List (List Nat)} {d k:Nat} {done out out1 out2:List Nat}
theorem Dfs.init (hn:out.Nodup) (hb:∀ x∈out,x < tos.length):Dfs tos d [] out out:=
 ⟨⟨[],by simp⟩,hn,hb,fun _ h => .inl h,(fun _ h=>by cases h),fun _ h => .inl h⟩
theorem Dfs.sub (h:Dfs tos d done out out1):∀ x∈out,x∈out1:=by
 obtain ⟨new,rfl⟩:=h.ext
 intro x hx;simp [hx]
theorem Dfs.skip (h:Dfs tos d done out out1) (hk:k∈out1):Dfs tos d (done++[k]) out out1:=
 ⟨h.ext,h.nodup,h.bnd,h.snd,(fun x hx=>(List.mem_append.1 hx).elim (h.hit x) fun hx=>by rw [List.mem_singleton.1 hx];exact hk),h.clos⟩
theorem Dfs.start (h:Dfs tos d done out out1) (hk:k∉out1) (hb:k < tos.length):(out1++[k]).Nodup/\(∀ x∈out1++[k],x < tos.length):=by
 refine ⟨?_,fun x hx=>?_⟩
 ·rw [List.nodup_append]
  exact ⟨h.nodup,by simp,fun a ha b hb=>by rw [List.mem_singleton.1 hb];exact fun e=>hk (e▸ha)⟩
 ·rcases List.mem_append.1 hx with hx|hx
  ·exact h.bnd x hx
  ·rw [List.mem_singleton.1 hx];exact hb
theorem Dfs.step (h:Dfs tos d done out out1) (hk:k∈tos.getD d []) (h2:Dfs tos k (tos.getD k []) (out1++[k]) out2):Dfs tos d (done++[k]) out out2:=by
 have hs:∀ x∈out1,x∈out2:=fun x hx=>h2.sub x (by simp [hx])
 refine ⟨?_,h2.nodup,h2.bnd,fun x hx=>?_,fun x hx=>?_,fun x hx=>?_⟩
 ·obtain ⟨a,ha⟩:=h.ext
  obtain ⟨b,hb⟩:=h2.ext
  exact ⟨a++[k]++b,by rw [hb,ha];simp⟩
 ·rcases h2.snd x hx with hx|hx
  ·rcases List.mem_append.1 hx with hx|hx
   ·exact h.snd x hx
   ·rw [List.mem_singleton.1 hx];exact .inr (.one hk)
  ·exact .inr (.head hk hx)
 ·rcases List.mem_append.1 hx with hx|hx
  ·exact hs x (h.hit x hx)
  ·rw [List.mem_singleton.1 hx];exact h2.sub k (by simp)
 ·rcases h2.clos x hx with hx|hx
  ·rcases List.mem_append.1 hx with hx|hx
   ·rcases h.clos x hx with hx|hx
    ·exact .inl hx
    ·exact .inr fun y hy=>hs y (hx y hy)
   ·rw [List.mem_singleton.1 hx];exact .inr h2.hit
  ·exact .inr hx
theorem Dfs.fin (h:Dfs tos d (tos.getD d []) [] out1) (x:Nat):x∈out1↔Reach tos d x:=by
 refine ⟨fun hx=>(h.snd x hx).elim (fun h=>by cases h) id,fun hx=>?_⟩
 induction hx with
 |one hx=>exact h.hit _ hx
 |more _ hj ih=>exact (h.clos _ ih).elim (fun h=>by cases h) fun h=>h _ hj
end Go.Abs

/- Programs that are looked at: what a definition reaches. -/
open Go Go.Abs
namespace Go.Abs
set_option maxRecDepth 100000
set_option maxHeartbeats 4000000
def ty74:TyI:={ d:=TyD.mp 3 4,sz:=1,bytes:=8,zero:=AV.imm IV.nilmap }
instance tyis74:TyIs CC 116 ty74:=⟨by kernel_rfl⟩
instance fnis47:FnIs CC 68:=⟨rfl,fun _=>rfl⟩
instance fnis49:FnIs CC 71:=⟨rfl,fun _=>rfl⟩
theorem ret49 (e:Exp):Ret CC 71 [e.iv] (.fn (.func 131) [.fptr e.iv.cells 0]):=by
 obtain ⟨op,name,n',fold,calcs,kids⟩:=e
 refine Ret.of (fn:=Go.Proofs.Tryz.f71) (by kernel_rfl) rfl rfl ?_
 refine AA ?_
 exact W.retFin1 rfl ⟨[0],rfl⟩
def scopeIV (p:Pgm) (ahead n:Int):IV := .fptr [numIV p.srcs,numIV (defNames p),shapesIV, .int .i64 ahead, .int .i64 n] 0
def setIV (l:List Nat):IV := .fmp (l.map natIV) (l.map fun _ => .bool true)
def setObj (l:List Nat):Obj := .mp (l.map natIV) ((l.map fun _=>IV.bool true).map .imm) false
def stepsN (names:List Str) (l:List Exp):List Nat:=(l.filter namesDef).map fun x=>idxN names x.name
theorem natKey (k:Nat):∀ l:List Nat,keyFind (natIV k) (l.map natIV)=some (l.findIdx? fun x=>k==x)
 |[]=>rfl
 |x::r=>by
  have e:scalarEq (natIV k) (natIV x)=some (k==x):=by
   show (if IntKind.i64=IntKind.i64 then some (((k:Nat):Int)==((x:Nat):Int)) else none)=_
   rw [if_pos rfl]
   congr 1
   by_cases h:k=x
   ·subst h;simp
   ·have:¬ (k:Int)=(x:Int):=by omega
    rw [beq_eq_false_iff_ne.2 h,beq_eq_false_iff_ne.2 this]
  rw [List.map_cons,keyFind,e,List.findIdx?_cons]
  cases k==x with
  |true=>rfl
  |false=>simp only [natKey k r];rfl
theorem findIdx_contains' {α:Type} [BEq α] [LawfulBEq α] (s:α):∀ l:List α,(l.findIdx? fun x=>s==x).isSome=l.contains s
 |[]=>rfl
 |x::r=>by
  rw [List.findIdx?_cons,List.contains_cons]
  cases h:s==x with
  |true=>simp
  |false=>
   simp only [Bool.false_or]
   rw [<-findIdx_contains' s r]
   cases (r.findIdx? fun x=>s==x)<;>rfl
theorem findIdx_lt' {α:Type} [BEq α] {s:α} {j:Nat}:∀ {l:List α},(l.findIdx? fun x=>s==x)=some j->j < l.length
 |[],h=>by cases h
 |x::r,h=>by
  rw [List.findIdx?_cons] at h
  split at h
  ·cases h;simp
  ·cases hr:r.findIdx? fun x=>s==x with
   |none=>rw [hr] at h;cases h
   |some k=>
    rw [hr] at h
    cases h
    have:=findIdx_lt' hr
    simp;omega
theorem setLook (l:List Nat) (k:Nat):lookIs (some ty3) (some ty4) (some (l.map natIV,(l.map fun _=>IV.bool true).map .imm)) (natIV k) false (.imm (.bool (l.contains k))):=by
 refine ⟨rfl,?_⟩
 rw [natKey,<-findIdx_contains']
 cases h:l.findIdx? fun x=>k==x with
 |none=>exact .inr ⟨rfl,rfl⟩
 |some j=>
  have:=findIdx_lt' h
  refine .inl ⟨j, .imm (.bool true),rfl,?_,rfl⟩
  simp [this]
theorem setNew {l:List Nat} {k:Nat} (h:l.contains k=false):keyFind (natIV k) (l.map natIV)=some none:=by
 rw [natKey]
 rw [<-findIdx_contains'] at h
 cases h':l.findIdx? fun x=>k==x with
 |none=>rfl
 |some j=>rw [h'] at h;cases h
theorem setObj_add (l:List Nat) (k:Nat):setObj (l++[k]) = .mp (l.map natIV++[natIV k]) ((l.map fun _=>IV.bool true).map .imm++[.imm (.bool true)]) false:=by
 unfold setObj;simp
theorem stepsN_take {names:List Str} {l:List Exp} {x:Exp} {i:Nat} (h:l[i]? = some x):stepsN names (l.take (i+1))=stepsN names (l.take i)++(if namesDef x then [idxN names x.name] else []):=by
 unfold stepsN
 rw [List.take_add_one,h,List.filter_append,List.map_append]
 congr 1
 simp only [Option.toList,List.filter_cons,List.filter_nil]
 split<;>rfl
structure Lb (p:Pgm) (ahead n:Int) (M pb sb ob lb nx:Nat) (G:Nat->Obj):Prop where
 bp:G pb = .box [.imm (.lst (p.srcs.map sv)), .imm (.lst (p.defs.map Dfn.iv))] false
 bs:G sb = .box [.imm (scopeIV p ahead n)] false
 bo:G ob = .box [.map M] false
 bl:G lb = .box [.fn (.func 129) [.ptr pb 0, .ptr sb 0, .ptr ob 0, .ptr lb 0]] false
 lt:(M < nx/\pb < nx/\sb < nx/\ob < nx/\lb < nx)/\M≠pb/\M≠sb/\M≠ob/\M≠lb
theorem Lb.fr {p:Pgm} {ahead n:Int} {M pb sb ob lb nx nx':Nat} {G G':Nat->Obj} (h:Lb p ahead n M pb sb ob lb nx G) (hn:nx<=nx') (hG:∀ o,o < nx->o≠M->G' o=G o):Lb p ahead n M pb sb ob lb nx' G':=by
 obtain ⟨h1,h2,h3,h4,⟨a,b,c,d,e⟩,f,g,i,j⟩:=h
 exact ⟨(hG _ b (Ne.symm f)).trans h1,(hG _ c (Ne.symm g)).trans h2,(hG _ d (Ne.symm i)).trans h3,(hG _ e (Ne.symm j)).trans h4,by omega⟩
structure Tos (p:Pgm) (tos:List (List Nat)):Prop where
 len:tos.length=p.defs.length
 at':∀ (i:Nat) d,p.defs[i]? = some d->tos.getD i []=stepsN (defNames p) (allE d.exp)
 lt:∀ (i:Nat) d,p.defs[i]? = some d->∀ k∈stepsN (defNames p) (allE d.exp),k < tos.length
theorem cal78 {p:Pgm} (hp:p.Fits) {tos:List (List Nat)} (ht:Tos p tos) {ahead n:Int}:∀ (m d:Nat) (out:List Nat) (M pb sb ob lb nx:Nat) (G:Nat->Obj),tos.length-out.length<=m->out.Nodup->(∀ x∈out,x < tos.length)->d < tos.length->Lb p ahead n M pb sb ob lb nx G->G M=setObj out ->
  CalP CC 129 [.imm (natIV d), .ptr pb 0, .ptr sb 0, .ptr ob 0, .ptr lb 0] G nx fun
   | .ret v G' nx'=>v = .imm (.tup [])/\nx<=nx'/\(∀ o,o < nx->o≠M->G' o=G o)/\∃ out',G' M=setObj out'/\Dfs tos d (tos.getD d []) out out'
   | .pan _ _ _=>False:=by
 intro m
 induction m using Nat.strongRecOn with
 |ind m ih=>
 intro d out M pb sb ob lb nx G hm hnd hbd hd hL hM
 obtain ⟨⟨l1,l2,l3,l4,l5⟩,n1,n2,n3,n4⟩:=hL.lt
 obtain ⟨df,hx⟩:∃ df,p.defs[d]? = some df:=at_lt (by rw [<-ht.len];exact hd)
 have hxi:=at_map Dfn.iv hx
 have hdc:=df.cells_len
 have hfit:=hp.exp df (List.mem_of_getElem? hx)
 have hr49:=ret49 df.exp
 have hat:=ht.at' d df hx
 have hlt:=ht.lt d df hx
 have hbp:=hL.bp
 rw [<-hat] at hlt
 refine CalP.of (fn:=Go.Proofs.Tryz.f129) (by kernel_rfl) rfl rfl ?_
 obtain ⟨nm,e⟩:=df
 obtain ⟨op,name,n',fold,calcs,kids⟩:=e
 refine AN ?_
 refine W.nodes _ hfit (fun i G1=>(∀ o,o < nx->o≠M->G1 o=G o)/\∃ out1,G1 M=setObj out1/\Dfs tos d (stepsN (defNames p) ((allE (.mk op name n' fold calcs kids)).take i)) out out1) (fun _=>False) (fun _ _ _=>False)
  rfl rfl rfl rfl rfl ?_ ?_ ?_ ?_ ?_ ?_ ?_
 ·rintro i G1 G2 ⟨h1,out1,h2,h3⟩ hG
  exact ⟨fun o h4 h5=>(hG o (by omega)).trans (h1 o h4 h5),out1,(hG M (by omega)).trans h2,h3⟩
 ·intro _ _ h;exact h.elim
 ·exact ⟨fun o _ _=>rfl,out,hM, .init hnd hbd⟩
 ·rintro q i x G1 nx1 lp0 lp1 Φr hq hxa hn ⟨h1,out1,h2,h3⟩ hlp next _ _
  have hst:=stepsN_take (names:=defNames p) hxa
  rw [hst] at next
  have hL1:Lb p ahead n M pb sb ob lb nx1 G1:=hL.fr (by omega) h1
  have hmem:namesDef x=true->idxN (defNames p) x.name∈tos.getD d []:=fun h=>by
   rw [hat]
   exact List.mem_map.2 ⟨x,List.mem_filter.2 ⟨List.mem_of_getElem? hxa,h⟩,rfl⟩
  obtain ⟨op',name',m',fold',calcs',kids'⟩:=x
  refine W.regionN ?_
  refine AQ ?_
  refine R.doneAstQ at_upd ?_
  have hbs:=hL1.bs
  have hbo:=hL1.bo
  have hbl:=hL1.bl
  have hL2:=numLook0 (defNames p) name'
  have hL2':(Exp.mk op' name' m' fold' calcs' kids').name=name':=rfl
  rw [hL2'] at hmem next
  generalize idxN (defNames p) name'=k at *
  have hset:=setLook out1 k
  refine W.gen' (fun G2=>G2 (nx1+0) = .box [.imm (.int .i64 op'), .imm (sv name'), .imm (.int .i64 m'), .imm (.int .i64 fold'), .imm (.lst (Trm.ivs calcs')), .imm (.lst (Exp.ivs kids'))] false/\G2 q=lp1/\∀ o,o < nx1->o≠q->G2 o=G1 o) ⟨at_upd,at_upd,fun o _ _=>at_upd⟩ ?_
  rintro G2 ⟨hbx,hlp2,hfr2⟩
  have hM2:G2 M=setObj out1:=(hfr2 M (by omega) (by omega)).trans h2
  have hbs2:=(hfr2 sb (by omega) (by omega)).trans hbs
  have hbo2:=(hfr2 ob (by omega) (by omega)).trans hbo
  have hbl2:=(hfr2 lb (by omega) (by omega)).trans hbl
  have hset2:lookIs (some ty3) (some ty4) (mapKV G2 (.map M)) (natIV k) false (.imm (.bool (out1.contains k))):=by
   simp only [mapKV,hM2,setObj];exact hset
  have hnext:∀ {f':Nat} {G3:Nat->Obj} {nx3:Nat} {l3:Env} {out3:List Nat},nx1<=nx3->(∀ o,o < nx1->o≠M->G3 o=G2 o)->G3 M=setObj out3->Dfs tos d (stepsN (defNames p) (List.take i (allE (Exp.mk op name n' fold calcs kids)))++if namesDef (Exp.mk op' name' m' fold' calcs' kids')=true then [k] else []) out out3 ->
    W CC f' Go.Proofs.Tryz.f129.ntmps .skip l3 G3 nx3 [] .rnd Φr:=by
   intro f' G3 nx3 l3 out3 g1 g2 g3 g4
   refine next g1 (fun o g5 g6=>?_) ⟨fun o g5 g6=>?_,out3,g3,g4⟩ ((g2 q (by omega) (by omega)).trans hlp2)
   ·rw [g2 o (by omega) (by omega),hfr2 o (by omega) (by omega)]
   ·rw [g2 o (by omega) g6,hfr2 o (by omega) (by omega),h1 o g5 g6]
  clear hset hbs hbo hbl h2 hlp next
  have hcase:((op' != 2)=true/\(op' != 3)=true)\/((op' != 2)=false\/((op' != 2)=true/\(op' != 3)=false)):=by
   cases op' != 2<;>cases op' != 3<;>simp
  rcases hcase with ⟨hA,hB⟩|hyes
  ·have hnd:namesDef (.mk op' name' m' fold' calcs' kids')=false:=by
    show (op'==2||op'==3)=false
    simp at hA hB
    simp [hA,hB]
   rw [hnd,if_neg (by decide),List.append_nil] at hnext
   refine AN ?_
   exact hnext (by omega) (fun o _ _=>rfl) hM2 h3
  ·have hnd:namesDef (.mk op' name' m' fold' calcs' kids')=true:=by
    show (op'==2||op'==3)=true
    simp at hyes
    rcases hyes with h|⟨_,h⟩<;>simp [h]
   rw [hnd,if_pos rfl] at hnext
   have hmem:=hmem hnd
   rcases Bool.eq_false_or_eq_true (out1.contains k) with hC|hC
   ·have hC':(!out1.contains k)=false:=by rw [hC];rfl
    rcases hyes with hA|⟨hA,hB⟩
    all_goals
     refine AN ?_
     exact hnext (by omega) (fun o _ _=>rfl) hM2 (h3.skip (by simpa using hC))
   ·have hC':(!out1.contains k)=true:=by rw [hC];rfl
    have hnk:k∉out1:=by simpa using hC
    have hkl:=hlt k hmem
    obtain ⟨e1,e2⟩:=h3.start hnk hkl
    have hle:=nodup_lt e1 e2
    rw [List.length_append] at hle
    simp only [List.length_cons,List.length_nil] at hle
    rcases hyes with hA|⟨hA,hB⟩
    all_goals
     refine AN ?_
     refine R.opN1 (O.mapNew rfl inferInstance rfl rfl rfl hM2 rfl (setNew hC)) ?_
     refine R.done ?_
     refine AN ?_
     refine R.callBP rfl rfl rfl rfl rfl ((ih (tos.length-(out1.length+1)) (by have:=h3.ext;obtain ⟨new,hnew⟩:=this;rw [hnew,List.length_append] at hle ⊢;omega) k (out1++[k]) M pb sb ob lb _ _ (by simp) e1 e2 hkl (hL.fr (by omega) fun o g5 g6=>?_) ?_).mono fun r hr=>?_)
     ·rw [upd_ne _ _ _ _ g6,hfr2 o (by omega) (by omega),h1 o g5 g6]
     ·rw [upd_same,setObj_add]
     cases r with
     |pan u G4 nx4=>exact hr.elim
     |ret v G4 nx4=>
      obtain ⟨rfl,g1,g2,out2,g3,g4⟩:=hr
      refine AN ?_
      exact hnext (by omega) (fun o g5 g6=>by rw [g2 o (by omega) g6,upd_ne _ _ _ _ g6]) g3 (h3.step hmem g4)
 ·rintro G1 nx1 ⟨h1,out1,h2,h3⟩ hn
  rw [List.take_length,<-hat] at h3
  refine AN ?_
  exact W.skipFinP rfl ⟨rfl,by omega,h1,out1,h2,h3⟩
 ·intro _ _ h;exact h.elim
 ·intro _ _ _ h;exact h.elim
theorem ret47 {p:Pgm} (hp:p.Fits) {tos:List (List Nat)} (ht:Tos p tos) (ahead n:Int) {d:Nat} (hd:d < tos.length) :
  ∃ out,out.Nodup/\(∀ x∈out,x < tos.length)/\(∀ x,x∈out↔Reach tos d x)/\Ret CC 68 [scopeIV p ahead n,p.iv,natIV d] (setIV out):=by
 have key:Cal CC 68 ([scopeIV p ahead n,p.iv,natIV d].map .imm) (fun _ => .gone) 0 fun v G' _=>∃ out,Dfs tos d (tos.getD d []) [] out/\∃ ids,peek G' pkDepth v=some (setIV out,ids):=by
  obtain ⟨srcs,defs⟩:=p
  refine Cal.of (fn:=Go.Proofs.Tryz.f68) (by kernel_rfl) rfl rfl ?_
  refine AA ?_
  refine R.callBP rfl rfl rfl rfl rfl ((cal78 hp ht (ahead:=ahead) (n:=n) tos.length d [] (0+3+0) (0+1) (0+0) (0+3+1) (0+3+3+0) _ _ (by simp) (by simp) (by simp) hd ⟨rfl,rfl,rfl,rfl,by omega⟩ rfl).mono fun r hr=>?_)
  cases r with
  |pan u G4 nx4=>exact hr.elim
  |ret v G4 nx4=>
   obtain ⟨rfl,g1,g2,out2,g3,g4⟩:=hr
   have g5:G4 (0+3+1) = .box [.map (0+3+0)] false:=(g2 _ (by omega) (by omega)).trans rfl
   refine AN ?_
   exact W.retFin1 rfl ⟨out2,g4,peek_mp g3⟩
 obtain ⟨n',v,G',nx',h1,out,h2,ids,h3⟩:=key
 exact ⟨out,h2.nodup,h2.bnd,h2.fin,n',v,G',nx',_,ids,h1,h3⟩
end Go.Abs

/- Rings, and what reaches itself; names that are fresh, and different. (No program in sight.) -/
open Go Go.Abs
namespace Go.Abs
set_option maxRecDepth 100000
/-! ### different names -/
theorem getD_append_left {a b:List Str} {i:Nat} (h:i < a.length):(a++b).getD i []=a.getD i []:=by
 simp [List.getD_eq_getElem?_getD,List.getElem?_append_left h]
theorem getD_append_right {a b:List Str} {i:Nat}:(a++b).getD (a.length+i) []=b.getD i []:=by
 simp [List.getD_eq_getElem?_getD,List.getElem?_append_right]
theorem diff_append (a b:List Str):diff (a++b)=(fresh [] a&&fresh a b):=by
 unfold diff fresh
 rw [List.length_append,List.range_add,List.all_append,List.all_map]
 congr 1
 ·rw [Bool.eq_iff_iff,List.all_eq_true,List.all_eq_true]
  constructor <;>
  ·intro h i hi
   have hl:i < a.length:=by simpa using hi
   have:=h i hi
   unfold okAt at *
   rw [getD_append_left hl,List.take_append_of_le_length (by omega)] at *
   simpa using this
 ·have key:∀ i,i < b.length->(nameOk ((a++b).getD (a.length+i) []) && !((a++b).take (a.length+i)).contains ((a++b).getD (a.length+i) []))=okAt a b i:=by
   intro i hi
   unfold okAt
   rw [getD_append_right,List.take_append,List.take_of_length_le (show a.length<=a.length+i by omega),show a.length+i-a.length=i by omega,Bool.and_assoc]
   congr 1
   rw [Bool.eq_iff_iff]
   simp
   exact And.comm
  rw [Bool.eq_iff_iff,List.all_eq_true,List.all_eq_true]
  constructor
  ·intro h i hi
   rw [<-key i (by simpa using hi)];exact h i hi
  ·intro h i hi
   exact (key i (by simpa using hi)).trans (h i hi)
/-! ### what definitions name -/
theorem idxFrom_idxN {s:Str}:∀ {l:List Str} {k:Nat},s∈l->idxFrom l s k=((k+idxN l s:Nat):Int)
 |[],_,h=>by cases h
 |x::r,k,h=>by
  unfold idxFrom idxN
  rw [List.findIdx?_cons]
  by_cases hx:(x==s)=true
  ·rw [if_pos hx,if_pos (by rw [idxFrom_sym];exact hx)];rfl
  ·have hx':¬ (s==x)=true:=by rw [idxFrom_sym];exact hx
   have hs:s∈r:=by
    rcases List.mem_cons.1 h with h|h
    ·exact absurd (by rw [h];simp) hx
    ·exact h
   rw [if_neg hx,if_neg hx',idxFrom_idxN hs]
   have:=findIdx_contains s r
   have hc:r.contains s=true:=by simpa using hs
   rw [hc] at this
   unfold idxN
   cases hf:r.findIdx? fun x=>s==x with
   |none=>rw [hf] at this;cases this
   |some j=>simp;omega
theorem idxN_lt {s:Str} {l:List Str} (h:s∈l):idxN l s < l.length:=by
 have:=findIdx_contains s l
 have hc:l.contains s=true:=by simpa using h
 rw [hc] at this
 unfold idxN
 cases hf:l.findIdx? fun x=>s==x with
 |none=>rw [hf] at this;cases this
 |some j=>exact findIdx_lt hf
theorem Pgm.Good.tos {p:Pgm} (h:p.Good):Tos p (tosR p):=by
 have hl:(tosR p).length=p.defs.length:=h.steps.2.1
 have hnl:(defNames p).length=p.defs.length:=by have:=h.defs;simp [defNames];omega
 refine ⟨hl,fun i d hd=>?_,fun i d hd k hk=>?_⟩
 ·unfold tosR stepsR
  rw [List.getD_eq_getElem?_getD,List.map_map,List.getElem?_map,hd]
  simp only [Option.map_some,Option.getD_some,Function.comp,stepsL,stepsN,List.map_map]
  apply List.map_congr_left
  intro x hx
  rw [List.mem_filter] at hx
  have:=h.names d (List.mem_of_getElem? hd) x hx.1 hx.2
  simp only [Function.comp]
  rw [idxFrom_idxN this]
  omega
 ·simp only [stepsN,List.mem_map,List.mem_filter] at hk
  obtain ⟨x,⟨hx,hn⟩,rfl⟩:=hk
  rw [hl,<-hnl]
  exact idxN_lt (h.names d (List.mem_of_getElem? hd) x hx hn)
/-! ### rings, and what reaches itself -/
theorem at2_reach {tos:List (List Nat)} {i j:Nat} (hi:i < tos.length) (hj:j < tos.length):at2 (reachR tos) i j=reachB tos i j:=by
 unfold at2 reachR reachRow
 simp [List.getD_eq_getElem?_getD,hi,hj]
theorem inRing_iff {tos:List (List Nat)} {i j:Nat} (hi:i < tos.length) (hj:j < tos.length):inRing (reachR tos) i j=true↔j=i\/(Reach tos i j/\Reach tos j i):=by
 unfold inRing
 rw [at2_reach hi hj,at2_reach hj hi]
 simp [reachB_iff]
theorem mem_ringTo {tos:List (List Nat)} {i j:Nat} (hi:i < tos.length):j∈ringTo (reachR tos) i tos.length↔j < tos.length/\(j=i\/(Reach tos i j/\Reach tos j i)):=by
 unfold ringTo
 rw [List.mem_filter,List.mem_range]
 constructor
 ·intro ⟨h1,h2⟩;exact ⟨h1,(inRing_iff hi h1).1 h2⟩
 ·intro ⟨h1,h2⟩;exact ⟨h1,(inRing_iff hi h1).2 h2⟩
theorem ringTo_same {tos:List (List Nat)} {i j:Nat} (hi:i < tos.length) (hj:j < tos.length) (h1:Reach tos i j) (h2:Reach tos j i):ringTo (reachR tos) i tos.length=ringTo (reachR tos) j tos.length:=by
 unfold ringTo
 apply List.filter_congr
 intro k hk
 rw [List.mem_range] at hk
 rw [Bool.eq_iff_iff,inRing_iff hi hk,inRing_iff hj hk]
 constructor
 ·rintro (rfl|⟨a,b⟩)
  ·exact .inr ⟨h2,h1⟩
  ·exact .inr ⟨h2.trans a,b.trans h1⟩
 ·rintro (rfl|⟨a,b⟩)
  ·exact .inr ⟨h1,h2⟩
  ·exact .inr ⟨h1.trans a,b.trans h2⟩
theorem rings_mem {tos:List (List Nat)} {k:Nat}:(∃ r∈ringsR (reachR tos),k∈r)↔k < tos.length/\Reach tos k k:=by
 have hlen:=reachR_len tos
 unfold ringsR ringsTo
 rw [hlen]
 constructor
 ·rintro ⟨r,hr,hk⟩
  rw [List.mem_map] at hr
  obtain ⟨i,hi,rfl⟩:=hr
  rw [List.mem_filter,List.mem_range] at hi
  obtain ⟨hi,his⟩:=hi
  unfold ringIs at his
  rw [Bool.and_eq_true,at2_reach hi hi,reachB_iff] at his
  obtain ⟨h1,h2⟩:=(mem_ringTo hi).1 hk
  refine ⟨h1,?_⟩
  rcases h2 with rfl|⟨a,b⟩
  ·exact his.1
  ·exact b.trans a
 ·rintro ⟨hk,hr⟩
  have hmem:k∈ringTo (reachR tos) k tos.length:=(mem_ringTo hk).2 ⟨hk, .inl rfl⟩
  cases hc:ringTo (reachR tos) k tos.length with
  |nil=>rw [hc] at hmem;cases hmem
  |cons i r=>
   have hi:i∈ringTo (reachR tos) k tos.length:=by rw [hc];simp
   obtain ⟨h1,h2⟩:=(mem_ringTo hk).1 hi
   have h3:Reach tos k i/\Reach tos i k:=by
    rcases h2 with rfl|h2
    ·exact ⟨hr,hr⟩
    ·exact h2
   have hs:=ringTo_same hk h1 h3.1 h3.2
   refine ⟨ringTo (reachR tos) i tos.length,?_,by rw [<-hs];exact hmem⟩
   rw [List.mem_map]
   refine ⟨i,?_,rfl⟩
   rw [List.mem_filter,List.mem_range]
   refine ⟨h1,?_⟩
   unfold ringIs
   rw [hlen,at2_reach h1 h1,<-hs,hc]
   simp [reachB_iff.2 (h3.2.trans h3.1)]
theorem progR_eq {p:Pgm} (hc:0<=countR p):progR p=true↔∀ i,i < p.defs.length->Reach (tosR p) i i->foreAt p.defs i=false:=by
 have hg:=countR_good hc
 have hl:(tosR p).length=p.defs.length:=hg.steps.2.1
 unfold progR ringsOf
 rw [if_neg (by omega),List.all_eq_true]
 constructor
 ·intro h i hi hr
  obtain ⟨r,h1,h2⟩:=rings_mem.2 ⟨by rw [hl];exact hi,hr⟩
  have:=List.all_eq_true.1 (h r h1) i h2
  simpa using this
 ·intro h r hr
  rw [List.all_eq_true]
  intro k hk
  obtain ⟨h1,h2⟩:=rings_mem.1 ⟨r,hr,hk⟩
  rw [h k (by rw [<-hl];exact h1) h2];rfl
end Go.Abs

/- Programs that are looked at: which ones are formed. -/
open Go Go.Abs
namespace Go.Abs
set_option maxRecDepth 100000
set_option maxHeartbeats 4000000
def ty20:TyI:={ d:=TyD.ifc,sz:=1,bytes:=16,zero:=AV.imm IV.niliface }
instance tyis20:TyIs CC 20 ty20:=⟨by kernel_rfl⟩
def ty115:TyI:={ d:=TyD.st [],sz:=0,bytes:=0,zero:=AV.imm (IV.agg []) }
instance tyis115:TyIs CC 175 ty115:=⟨by kernel_rfl⟩
instance fnis54:FnIs CC 49:=⟨rfl,fun _=>rfl⟩
theorem cal85n {rb nx:Nat} {G:Nat->Obj}:CalD CC 102 [.ptr rb 0] none G nx fun _ G' nx'=>G'=G/\nx<=nx':=by
 refine CalD.of (fn:=Go.Proofs.Tryz.f102) (by kernel_rfl) rfl rfl rfl ?_
 refine AN ?_
 refine R.op0 O.recoverN rfl ?_
 refine AN ?_
 refine R.op0 (O.ifcNil rfl rfl rfl rfl) rfl ?_
 refine AN ?_
 exact W.skipFinDf ⟨rfl,by omega⟩
theorem cal85p {rb nx:Nat} {G:Nat->Obj} {u:AV} (hG:G rb = .box [u] false) (hr:rb < nx):CalD CC 102 [.ptr rb 0] (some unf) G nx fun x G' _=>x=true/\G' rb = .box [.imm .nilp] false:=by
 refine CalD.of (fn:=Go.Proofs.Tryz.f102) (by kernel_rfl) rfl rfl rfl ?_
 refine AN ?_
 refine R.recover rfl ?_
 refine AN ?_
 refine R.op0 (O.ifcSome rfl rfl rfl) rfl ?_
 refine AN ?_
 refine R.op0 (O.typeIs rfl ⟨(fun h=>by cases h),(fun h=>by cases h)⟩) rfl ?_
 refine AN ?_
 exact W.skipFinDf ⟨rfl,at_upd⟩
noncomputable def lookedIV (p:Pgm):IV:=if progR p then scopeIV p ((p.defs.length-1:Nat):Int) (countR p) else .nilp
theorem ret54 (p:Pgm) (hp:p.Fits):Ret CC 49 [p.iv] (lookedIV p):=by
 refine Cal.ret ?_
 have hsl:p.srcs.length<=9223372036854775807:=hp.srcs
 have hdl:p.defs.length<=9223372036854775807:=hp.defs
 have hdn:defNames p=(p.defs.take 7).map Dfn.name:=rfl
 generalize hres:lookedIV p=res
 have hbad:progR p=false->res = .nilp:=fun h=>by rw [<-hres];unfold lookedIV;rw [h];rfl
 have hgood:progR p=true->res=scopeIV p ((p.defs.length-1:Nat):Int) (countR p):=fun h=>by rw [<-hres];unfold lookedIV;rw [h];rfl
 clear hres
 refine Cal.ofD (fn:=Go.Proofs.Tryz.f49) (by kernel_rfl) rfl rfl ?_
 obtain ⟨srcs,defs⟩:=p
 simp only at hsl hdl
 have hsm:(srcs.map sv).length=srcs.length:=List.length_map ..
 have hdm:(defs.map Dfn.iv).length=defs.length:=List.length_map ..
 refine AN ?_
 refine R.defer rfl rfl rfl rfl ?_
 refine R.done ?_
 have bad:progR ⟨srcs,defs⟩=false->∀ {G:Nat->Obj} {nx:Nat} {l:Env} {u:AV},look l 2=some (.ptr 1 0)->G 1 = .box [u] false->2<=nx->∀ t',Agree t' l->finD CC Go.Proofs.Tryz.f49.results.toList (fun v G x=>∃ ids,peek G pkDepth v=some (res,ids)) (.pan unf ⟨t',G,nx,[(mkFn (.func 102) [.ptr (0+1) 0],[])], .no⟩):=by
  intro h G nx l u h1 h2 h3
  refine panD rfl rfl h1 rfl ?_
  obtain ⟨n,v,m',x,G',nx',g1,g2,g3⟩:=cal85p h2 (show 1 < nx by omega)
  exact ⟨n,v,m',x,G',nx',g1,g2,_,_,g3,[],by rw [hbad h];rfl⟩
 have hneg:countR ⟨srcs,defs⟩ < 0->progR ⟨srcs,defs⟩=false:=fun h=>by unfold progR;rw [if_pos h]
 have hlen:(srcs.length < 1\/4 < srcs.length\/6 < defs.length)->progR ⟨srcs,defs⟩=false:=fun h=>hneg (by unfold countR;rw [if_pos h];decide)
 have hr87:=ret87
 rcases Bool.eq_false_or_eq_true (decide (((srcs.map sv).length:Int) > 0)) with hA|hA
 rotate_left
 ·have hA':=of_decide_eq_false hA
  refine AN ?_
  exact R.callPan rfl rfl pan86 (bad (hlen (by omega)) rfl rfl (by omega))
 rcases Bool.eq_false_or_eq_true (decide (((srcs.map sv).length:Int)<=4)) with hB|hB
 rotate_left
 ·have hB':=of_decide_eq_false hB
  refine AN ?_
  exact R.callPan rfl rfl pan86 (bad (hlen (by omega)) rfl rfl (by omega))
 rcases Bool.eq_false_or_eq_true (decide (((defs.map Dfn.iv).length:Int)<=6)) with hC|hC
 rotate_left
 ·have hC':=of_decide_eq_false hC
  refine AN ?_
  exact R.callPan rfl rfl (panM hC) (bad (hlen (by omega)) rfl rfl (by omega))
 have hA':=of_decide_eq_true hA
 have hB':=of_decide_eq_true hB
 have hC':=of_decide_eq_true hC
 have hr:=retM hC
 have hdn:defNames ⟨srcs,defs⟩=defs.map Dfn.name:=by rw [hdn];show (defs.take 7).map _=_;rw [List.take_of_length_le (by omega)]
 refine A1 ?_
 refine A1 ?_
 have hcr:countR ⟨srcs,defs⟩=if diff (srcs++defs.map Dfn.name) then countL srcs (defs.map Dfn.name) defs 0 0 else -1:=by
  unfold countR;rw [if_neg (show ¬ (srcs.length < 1\/4 < srcs.length\/6 < defs.length) by omega),hdn]
 rw [diff_append] at hcr
 obtain ⟨f1,f2⟩:=ret88 (l:=srcs) others_nil hsl hp.src
 rcases Bool.eq_false_or_eq_true (fresh [] srcs) with hF|hF
 rotate_left
 ·refine W.seqR ?_
  refine W.drawXN ?_
  refine AX ?_
  exact DX.callPan rfl rfl (f2 hF) rfl (by kernel_rfl) (bad (hneg (by rw [hcr,hF];simp)) rfl rfl (by omega))
 have hr88:=f1 hF
 refine W.seqR ?_
 refine W.drawN ?_
 refine AD ?_
 refine D.done (by kernel_rfl) ?_
 have hr75:=ret75 defs (by omega)
 obtain ⟨g1,g2⟩:=ret88 (l:=defs.map Dfn.name) (others_num srcs) (by rw [List.length_map];omega) (fun s hs=>by obtain ⟨d,hd,rfl⟩:=List.mem_map.1 hs;exact hp.name d hd)
 rcases Bool.eq_false_or_eq_true (fresh srcs (defs.map Dfn.name)) with hG|hG
 rotate_left
 ·refine W.seqR ?_
  refine W.drawXN ?_
  refine AX ?_
  exact DX.callPan rfl rfl (g2 hG) rfl (by kernel_rfl) (bad (hneg (by rw [hcr,hF,hG];simp)) rfl rfl (by omega))
 have hr88':=g1 hG
 refine W.seqR ?_
 refine W.drawN ?_
 refine AD ?_
 refine D.done (by kernel_rfl) ?_
 rw [hF,hG] at hcr
 simp only [Bool.and_self,if_true] at hcr
 have hnm:(defs.map Dfn.name).length=defs.length:=List.length_map ..
 have hfor:∀ i d,defs[i]? = some d->foreAt defs i=(allE d.exp).any Exp.fore:=fun i d h=>by unfold foreAt;rw [h];rfl
 have hpq:0<=countR ⟨srcs,defs⟩->(progR ⟨srcs,defs⟩=true↔∀ i,i < defs.length->Reach (tosR ⟨srcs,defs⟩) i i->foreAt defs i=false):=fun h=>progR_eq h
 have hgd:0<=countR ⟨srcs,defs⟩->Pgm.Good ⟨srcs,defs⟩:=fun h=>countR_good h
 have hfit:=hp.exp
 simp only at hfit
 have hsc:∀ n:Int,scopeIV ⟨srcs,defs⟩ ((defs.length-1:Nat):Int) n = .fptr [numIV srcs,numIV (defs.map Dfn.name),shapesIV, .int .i64 ((defs.length-1:Nat):Int), .int .i64 n] 0:=fun n=>by unfold scopeIV;rw [hdn]
 generalize hnames:defs.map Dfn.name=names at *
 refine AN ?_
 refine W.loop (X:=Nat×Int) (fun x=>[(1, .ptr 0 0),(2, .ptr 1 0),(50, .imm (.lst (defs.map Dfn.iv))),(51, .imm (.int .i64 (defs.map Dfn.iv).length)),(52, .imm (.int .i64 x.1))])
  (fun x nx G=>24<=nx/\G 0 = .box [.imm (.lst (srcs.map sv)), .imm (.lst (defs.map Dfn.iv))] false/\G 1 = .box [.ptr 23 0] false/\G 23 = .box [.imm (numIV srcs), .imm (numIV names), .imm shapesIV, .imm (.int .i64 ((x.1-1:Nat):Int)), .imm (.int .i64 x.2)] false /\
   x.1<=defs.length/\(0<=x.2/\x.2<=60)/\countR ⟨srcs,defs⟩=countL srcs names (defs.drop x.1) x.1 x.2)
  (fun x=>defs.length-x.1) (0,0) .auto ⟨by omega,rfl,rfl,rfl,Nat.zero_le _,by decide,hcr⟩ ?_
 clear f1 f2 g1 g2 hr88 hr88' hr75 hr87 hcr hlen hA hB hC hF hG hr
 rintro ⟨i,m⟩ nx G ⟨hnx,hG0,hG1,hG2,hi,hm,he⟩
 dsimp only at hG2 hi hm he ⊢
 rcases Bool.eq_false_or_eq_true (decide ((i:Int) < ((defs.map Dfn.iv).length:Int))) with hc|hc
 ·have hlt:i < defs.length:=by have:=of_decide_eq_true hc;omega
  obtain ⟨d,hx⟩:=at_lt hlt
  have hxi:=at_map Dfn.iv hx
  have hdc:=d.cells_len
  have hmu:defs.length-(i+1) < defs.length-i:=by omega
  have hcal:=fun nx G h1 h2=>@cal89 23 srcs names i d.exp (hfit d (List.mem_of_getElem? hx)) nx G m 1 h1 h2 hm (by omega)
  have hle:=(expR_le srcs names i d.exp 1 (60-m)).2
  rw [countL_drop srcs names hx] at he
  obtain ⟨nm,⟨o',s',n',f',c',k'⟩⟩:=d
  refine AN ?_
  refine R.callBP rfl rfl rfl rfl rfl ((hcal _ _ at_upd (by omega)).mono fun r hr=>?_)
  cases r with
  |pan u G' nx'=>
   obtain ⟨rfl,g1,g2,g3⟩:=hr
   rw [if_pos g1] at he
   exact bad (hneg (by rw [he];decide)) rfl ((g3 1 (by omega) (by decide)).trans at_upd) (by omega)
  |ret v G' nx'=>
   obtain ⟨rfl,g1,g2,g3,g4⟩:=hr
   rw [if_neg (by omega)] at he
   refine AN ?_
   exact W.skipLop (i+1,m+expR srcs names i (.mk o' s' n' f' c' k') 1 (60-m)) hmu .auto ⟨by omega,(g4 0 (by omega) (by decide)).trans at_upd,(g4 1 (by omega) (by decide)).trans at_upd,g2,hlt,by have:=hle g1;dsimp only at *;omega,he⟩
 have hge:defs.length<=i:=by have:=of_decide_eq_false hc;omega
 have hil:i=defs.length:=by omega
 subst hil
 rw [List.drop_eq_nil_of_le hge,countL] at he
 have h0:0<=countR ⟨srcs,defs⟩:=by omega
 have hpq:=hpq h0
 have hgd:=hgd h0
 have htos:=hgd.tos
 have htl:(tosR ⟨srcs,defs⟩).length=defs.length:=htos.len
 clear hneg
 have hgood2:(∀ i,i < defs.length->Reach (tosR ⟨srcs,defs⟩) i i->foreAt defs i=false)->res = .fptr [numIV srcs,numIV names,shapesIV, .int .i64 ((defs.length-1:Nat):Int), .int .i64 m] 0:=fun h=>by
  rw [hgood (hpq.2 h),<-hsc,he]
 have hbad2:∀ i,i < defs.length->Reach (tosR ⟨srcs,defs⟩) i i->foreAt defs i=true->progR ⟨srcs,defs⟩=false:=fun i h1 h2 h3=>by
  rw [Bool.eq_false_iff]
  intro h
  rw [hpq.1 h i h1 h2] at h3
  cases h3
 have hreach:=fun (d:Nat) (h:d < defs.length)=>ret47 hp htos ((defs.length-1:Nat):Int) m (d:=d) (by rw [htl];exact h)
 rw [hsc] at hreach
 generalize tosR ⟨srcs,defs⟩=tos at *
 refine AN ?_
 refine W.loop (X:=Nat) (fun i=>[(1, .ptr 0 0),(2, .ptr 1 0),(67, .imm (.lst (defs.map Dfn.iv))),(68, .imm (.int .i64 (defs.map Dfn.iv).length)),(69, .imm (.int .i64 i))])
  (fun i nx G=>24<=nx/\G 0 = .box [.imm (.lst (srcs.map sv)), .imm (.lst (defs.map Dfn.iv))] false/\G 1 = .box [.ptr 23 0] false/\(∃ fr,G 23 = .box ([numIV srcs,numIV names,shapesIV, .int .i64 ((defs.length-1:Nat):Int), .int .i64 m].map .imm) fr) /\
   i<=defs.length/\∀ j,j < i->Reach tos j j->foreAt defs j=false)
  (fun i=>defs.length-i) 0 .auto ⟨by omega,hG0,hG1,⟨false,hG2⟩,Nat.zero_le _,fun j h=>by omega⟩ ?_
 clear hG0 hG1 hG2 hnx hi hc hge nx G he
 rintro i nx G ⟨hnx,hG0,hG1,⟨fr,hG2⟩,hi,hall⟩
 rcases Bool.eq_false_or_eq_true (decide ((i:Int) < ((defs.map Dfn.iv).length:Int))) with hc|hc
 ·have hlt:i < defs.length:=by have:=of_decide_eq_true hc;omega
  obtain ⟨d,hx⟩:=at_lt hlt
  have hxi:=at_map Dfn.iv hx
  have hdc:=d.cells_len
  have hmu:defs.length-(i+1) < defs.length-i:=by omega
  have hf:=hfit d (List.mem_of_getElem? hx)
  have hfo:=hfor i d hx
  obtain ⟨out,ho1,ho2,ho3,hr47⟩:=hreach i hlt
  have hset:=setLook out i
  have hr49:=ret49 d.exp
  obtain ⟨nm,⟨o',s',n',f',c',k'⟩⟩:=d
  refine AN ?_
  refine R.opU (O.callFz (ids:=[23]) rfl ?_ hr47 rfl) rfl ?_
  ·exact peeks_cons (vs:=[(Pgm.mk srcs defs).iv,natIV i]) (peek_box (fr:=fr) (by exact at_upd))
  refine R.gen' (fun G2=>G2 0 = .box [.imm (.lst (srcs.map sv)), .imm (.lst (defs.map Dfn.iv))] false/\G2 1 = .box [.ptr 23 0] false/\G2 23 = .box ([numIV srcs,numIV names,shapesIV, .int .i64 ((defs.length-1:Nat):Int), .int .i64 m].map .imm) true /\
   G2 (nx+1+3) = .box [.imm (sv nm), .imm (.int .i64 o'), .imm (sv s'), .imm (.int .i64 n'), .imm (.int .i64 f'), .imm (.lst (Trm.ivs c')), .imm (.lst (Exp.ivs k'))] false) ⟨?_,?_,frz1 (fr:=fr) at_upd,?_⟩ ?_
  iterate 3 exact (frz1_ne (by omega)).trans at_upd
  clear hG0 hG1 hG2 G
  rintro G ⟨hG0,hG1,hG2,hG3⟩
  have hmem:out.contains i=true->Reach tos i i:=fun h=>(ho3 i).1 (by simpa using h)
  have hnmem:out.contains i=false->¬ Reach tos i i:=fun h hr=>by
   have:=(ho3 i).2 hr
   simp [this] at h
  rcases Bool.eq_false_or_eq_true (out.contains i) with hC|hC
  ·have hri:=hmem hC
   refine AN ?_
   refine W.nodes _ hf (fun k G1=>(∀ o,o < nx->G1 o=G o)/\((allE (.mk o' s' n' f' c' k')).take k).any Exp.fore=false) (fun _=>False) (fun u G1 nx1=>u=unf/\nx<=nx1/\(∀ o,o < nx->G1 o=G o)/\foreAt defs i=true)
    rfl rfl rfl rfl rfl ?_ ?_ ?_ ?_ ?_ ?_ ?_
   ·rintro k G1 G2 ⟨h1,h2⟩ h3
    exact ⟨fun o h=>(h3 o (by omega)).trans (h1 o h),h2⟩
   ·intro _ _ h;exact h.elim
   ·exact ⟨fun _ _=>rfl,rfl⟩
   ·rintro q k x G1 nx1 lp0 lp1 Φr hq hxa hn ⟨h1,h2⟩ hlp next _ hpn
    have htk:=fun h=>any_take (p:=Exp.fore) hxa h2 h
    have hany:=fun h=>any_at (p:=Exp.fore) hxa h
    obtain ⟨op',name',m',fold',calcs',kids'⟩:=x
    refine W.regionN ?_
    refine AQ ?_
    refine R.doneAstQ at_upd ?_
    refine W.gen' (fun G2=>G2 (nx1+0) = .box [.imm (.int .i64 op'), .imm (sv name'), .imm (.int .i64 m'), .imm (.int .i64 fold'), .imm (.lst (Trm.ivs calcs')), .imm (.lst (Exp.ivs kids'))] false/\G2 q=lp1/\∀ o,o < nx1->o≠q->G2 o=G1 o) ⟨at_upd,at_upd,fun o _ _=>at_upd⟩ ?_
    rintro G2 ⟨hbx,hlp2,hfr2⟩
    have hfr3:∀ o,o < nx->G2 o=G o:=fun o h=>(hfr2 o (by omega) (by omega)).trans (h1 o h)
    have hfr4:∀ o,q+2<=o->o < nx1->G2 o=G1 o:=fun o h h'=>hfr2 o h' (by omega)
    rcases Bool.eq_false_or_eq_true (op' != 14) with hP|hP
    ·rcases Bool.eq_false_or_eq_true (op' != 7) with hQ|hQ
     ·have hr:=retM (b:=true) rfl
      refine AN ?_
      refine next (by omega) hfr4 ⟨hfr3,htk ?_⟩ hlp2
      show (op'==14||(op'==7&&decide (m' < 0)))=false
      simp at hP hQ
      simp [hP,hQ]
     ·rcases Bool.eq_false_or_eq_true (decide (m'>=0)) with hR|hR
      ·have hr:=retM hR
       refine AN ?_
       refine next (by omega) hfr4 ⟨hfr3,htk ?_⟩ hlp2
       show (op'==14||(op'==7&&decide (m' < 0)))=false
       simp at hP hR
       simp [hP,hR]
      ·refine AN ?_
       refine R.callPan rfl rfl (panM hR) (hpn ⟨rfl,by omega,hfr3,?_⟩)
       rw [hfo]
       apply hany
       show (op'==14||(op'==7&&decide (m' < 0)))=true
       simp at hQ hR
       simp [hQ,hR]
    ·refine AN ?_
     refine R.callPan rfl rfl pan86 (hpn ⟨rfl,by omega,hfr3,?_⟩)
     rw [hfo]
     apply hany
     show (op'==14||(op'==7&&decide (m' < 0)))=true
     simp at hP
     simp [hP]
   ·rintro G1 nx1 ⟨h1,h2⟩ hn
    rw [List.take_length] at h2
    refine AN ?_
    refine W.skipLop (i+1) hmu .auto ⟨by omega,(h1 0 (by omega)).trans hG0,(h1 1 (by omega)).trans hG1,⟨true,(h1 23 (by omega)).trans hG2⟩,hlt,fun j h3 h4=>?_⟩
    by_cases hj:j=i
    ·subst hj;rw [hfo];exact h2
    ·exact hall j (by omega) h4
   ·intro _ _ h;exact h.elim
   ·rintro u G1 nx1 ⟨rfl,h1,h2,h3⟩
    exact bad (hbad2 i hlt hri h3) rfl ((h2 1 (by omega)).trans hG1) (by omega)
  ·have hnr:=hnmem hC
   refine AN ?_
   refine W.skipLop (i+1) hmu .auto ⟨by omega,hG0,hG1,⟨true,hG2⟩,hlt,fun j h3 h4=>?_⟩
   by_cases hj:j=i
   ·subst hj;exact absurd h4 hnr
   ·exact hall j (by omega) h4
 ·have hge:defs.length<=i:=by have:=of_decide_eq_false hc;omega
  have hres:=hgood2 fun j h1 h2=>hall j (by omega) h2
  refine AN ?_
  refine W.retFinD rfl rfl rfl rfl ?_
  obtain ⟨n,v,m',x,G',nx',g1,rfl,g3⟩:=cal85n (rb:=1) (nx:=nx+1+2) (G:=upd G 1 (.box [.ptr 23 0] false))
  refine ⟨n,v,m',x,_,nx',g1,_,_,upd_same _ _ _,[23],?_⟩
  rw [hres]
  exact peek_box (fr:=fr) at_upd
end Go.Abs

/- TermChecks: the law. -/
open Go Go.Abs
namespace Go.Abs
set_option maxRecDepth 100000
set_option maxHeartbeats 4000000
instance fnis29:FnIs CC 74:=⟨rfl,fun _=>rfl⟩
instance fnis46:FnIs CC 70:=⟨rfl,fun _=>rfl⟩
theorem ret29 (p:Pgm) (hp:p.Fits):Ret CC 74 [p.iv] (.int .i64 (if progR p then 0 else 2)):=by
 have hr:=ret54 p hp
 unfold lookedIV at hr
 generalize progR p=b at *
 generalize countR p=n at *
 generalize ((p.defs.length-1:Nat):Int)=m at *
 obtain ⟨srcs,defs⟩:=p
 refine Ret.of (fn:=Go.Proofs.Tryz.f74) (by kernel_rfl) rfl rfl ?_
 cases b with
 |true=>
  rw [if_pos rfl] at hr
  refine AA ?_
  exact W.retFin1 rfl ⟨[],rfl⟩
 |false=>
  rw [if_neg (by decide)] at hr
  refine AA ?_
  exact W.retFin1 rfl ⟨[],rfl⟩
end Go.Abs

/- Copies of terms and expressions, as the program makes them; and comparing them. -/
open Go Go.Abs
namespace Go.Abs
set_option maxRecDepth 100000
set_option maxHeartbeats 4000000
instance fnis90:FnIs CC 110:=⟨rfl,fun _=>rfl⟩
instance fnis91:FnIs CC 111:=⟨rfl,fun _=>rfl⟩
instance fnis92:FnIs CC 112:=⟨rfl,fun _=>rfl⟩
instance fnis63:FnIs CC 73:=⟨rfl,fun _=>rfl⟩
theorem tivs_take {l:List Trm} {i:Nat} {c:Trm} (h:l[i]? = some c):Trm.ivs (l.take (i+1))=Trm.ivs (l.take i)++[c.iv]:=by
 rw [Trm.ivs_map,Trm.ivs_map,List.take_add_one,h];simp
theorem ivs_take {l:List Exp} {i:Nat} {c:Exp} (h:l[i]? = some c):Exp.ivs (l.take (i+1))=Exp.ivs (l.take i)++[c.iv]:=by
 rw [Exp.ivs_map,Exp.ivs_map,List.take_add_one,h];simp
theorem Trm.iv_fits (c:Trm):(AV.imm c.iv).fits 3=true:=by cases c;rfl
theorem Exp.iv_fits (c:Exp):(AV.imm c.iv).fits 6=true:=by cases c;rfl
theorem ret90 {f:FuncId} {cap:List IV} {g:Trm->Trm} (hfi:FnIs CC f) (l:List Trm) (hl:l.length<=1048576) (h:∀ c∈l,Ret CC f ([c.iv]++cap) (g c).iv):Ret CC 110 [.lst (Trm.ivs l), .fn (.func f) cap] (.lst (Trm.ivs (l.map g))):=by
 have hlm:=tivs_len l
 refine Ret.of (fn:=Go.Proofs.Tryz.f110) (by kernel_rfl) rfl rfl ?_
 refine AA ?_
 refine W.loop (X:=Nat×AV) (fun x=>[(1, .imm (.fn (.func f) cap)),(8, .imm (.lst (Trm.ivs l))),(9, .imm (.int .i64 (Trm.ivs l).length)),(10, .imm (.int .i64 x.1)),(5,x.2)])
  (fun x nx G=>x.1<=l.length/\Own 172 3 0 nx (Trm.ivs ((l.map g).take x.1)) G x.2)
  (fun x=>l.length-x.1) (0, .nils) .auto ⟨Nat.zero_le _, .nil ..⟩ ?_
 rintro ⟨i,v⟩ nx G ⟨hi,ho⟩
 dsimp only at hi ho ⊢
 rcases Bool.eq_false_or_eq_true (decide ((i:Int) < ((Trm.ivs l).length:Int))) with hc|hc
 ·have hlt:i < l.length:=by have:=of_decide_eq_true hc;omega
  obtain ⟨d,hx⟩:=at_lt hlt
  have hxi:=tivs_at hx
  have hdc:=d.cells_len
  have hmu:l.length-(i+1) < l.length-i:=by omega
  have hr:=h d (List.mem_of_getElem? hx)
  have hgf:=(g d).iv_fits
  have htk:Trm.ivs ((l.map g).take (i+1))=Trm.ivs ((l.map g).take i)++[(g d).iv]:=tivs_take (by rw [List.getElem?_map,hx];rfl)
  have hlen:(Trm.ivs ((l.map g).take i)).length<=1048576:=by rw [tivs_len,List.length_take];omega
  generalize (g d).iv=gd at *
  obtain ⟨o',m',k'⟩:=d
  refine AA ?_
  refine R.op1 (O.buildX rfl inferInstance rfl rfl (by decide) rfl (by show ([AV.imm gd].all (AV.fits 3))=true;rw [List.all_cons,hgf];rfl) (by decide)) rfl ?_
  refine R.app1 ho at_upd (by simp only [most];omega) fun v' G' ho' hG'=>?_
  rw [<-htk] at ho'
  refine AA ?_
  exact W.skipLop (i+1,v') hmu .auto ⟨hlt,ho'.fr⟩
 ·have hge:l.length<=i:=by have:=of_decide_eq_false hc;omega
  rw [List.take_of_length_le (by simpa using hge)] at ho
  refine AA ?_
  exact W.retFin1 rfl ho.peek
theorem ret91 {c:Trm} (h:c.Sm):Ret CC 111 [c.iv] c.iv:=by
 induction h with
 |mk op n kids hl hk ih=>
 have hr:=ret90 (g:=id) (cap:=[]) fnis91 kids hl ih
 rw [List.map_id] at hr
 refine Ret.of (fn:=Go.Proofs.Tryz.f111) (by kernel_rfl) rfl rfl ?_
 refine AA ?_
 exact W.retFinCA rfl rfl rfl rfl ⟨[],rfl⟩
theorem ret92 {f:FuncId} {cap:List IV} {g:Exp->Exp} (hfi:FnIs CC f) (l:List Exp) (hl:l.length<=1048576) (h:∀ c∈l,Ret CC f ([c.iv]++cap) (g c).iv):Ret CC 112 [.lst (Exp.ivs l), .fn (.func f) cap] (.lst (Exp.ivs (l.map g))):=by
 have hlm:=ivs_len l
 refine Ret.of (fn:=Go.Proofs.Tryz.f112) (by kernel_rfl) rfl rfl ?_
 refine AA ?_
 refine W.loop (X:=Nat×AV) (fun x=>[(1, .imm (.fn (.func f) cap)),(8, .imm (.lst (Exp.ivs l))),(9, .imm (.int .i64 (Exp.ivs l).length)),(10, .imm (.int .i64 x.1)),(5,x.2)])
  (fun x nx G=>x.1<=l.length/\Own 93 6 0 nx (Exp.ivs ((l.map g).take x.1)) G x.2)
  (fun x=>l.length-x.1) (0, .nils) .auto ⟨Nat.zero_le _, .nil ..⟩ ?_
 rintro ⟨i,v⟩ nx G ⟨hi,ho⟩
 dsimp only at hi ho ⊢
 rcases Bool.eq_false_or_eq_true (decide ((i:Int) < ((Exp.ivs l).length:Int))) with hc|hc
 ·have hlt:i < l.length:=by have:=of_decide_eq_true hc;omega
  obtain ⟨d,hx⟩:=at_lt hlt
  have hxi:=ivs_at hx
  have hdc:=d.cells_len
  have hmu:l.length-(i+1) < l.length-i:=by omega
  have hr:=h d (List.mem_of_getElem? hx)
  have hgf:=(g d).iv_fits
  have htk:Exp.ivs ((l.map g).take (i+1))=Exp.ivs ((l.map g).take i)++[(g d).iv]:=ivs_take (by rw [List.getElem?_map,hx];rfl)
  have hlen:(Exp.ivs ((l.map g).take i)).length<=1048576:=by rw [ivs_len,List.length_take];omega
  generalize (g d).iv=gd at *
  obtain ⟨o',s',m',f',c',k'⟩:=d
  refine AA ?_
  refine R.op1 (O.buildX rfl inferInstance rfl rfl (by decide) rfl (by show ([AV.imm gd].all (AV.fits 6))=true;rw [List.all_cons,hgf];rfl) (by decide)) rfl ?_
  refine R.app1 ho at_upd (by simp only [most];omega) fun v' G' ho' hG'=>?_
  rw [<-htk] at ho'
  refine AA ?_
  exact W.skipLop (i+1,v') hmu .auto ⟨hlt,ho'.fr⟩
 ·have hge:l.length<=i:=by have:=of_decide_eq_false hc;omega
  rw [List.take_of_length_le (by simpa using hge)] at ho
  refine AA ?_
  exact W.retFin1 rfl ho.peek
theorem ret63 {e:Exp} (h:e.Sm):Ret CC 73 [e.iv] e.iv:=by
 induction h with
 |mk op name n fold calcs kids hc hk hcs hks ih=>
 have hr:=ret92 (g:=id) (cap:=[]) fnis63 kids hk ih
 have hr2:=ret90 (g:=id) (cap:=[]) fnis91 calcs hc fun c h=>ret91 (hcs c h)
 rw [List.map_id] at hr hr2
 refine Ret.of (fn:=Go.Proofs.Tryz.f73) (by kernel_rfl) rfl rfl ?_
 refine AA ?_
 exact W.retFinCA rfl rfl rfl rfl ⟨[],rfl⟩
end Go.Abs

/- TermParts: nodes and depths. -/
open Go Go.Abs
namespace Go.Abs
set_option maxRecDepth 100000
set_option maxHeartbeats 4000000
/-! ### what is formed is short -/
mutual
theorem calcR_sm:∀ (c:Trm) (other:Bool) (depth left:Int),0<=calcR c other depth left->c.Sm
 | .mk op n kids,other,depth,left,h=>by
  rw [calcR] at h
  split at h
  ·omega
  ·cases hk:kidsOf op n other with
   |none=>rw [hk] at h;simp at h
   |some k=>
    rw [hk] at h
    dsimp only at h
    split at h
    ·omega
    ·rename_i h1
     have hk2:k<=2:=by
      unfold kidsOf at hk
      (repeat' split at hk)<;>cases hk<;>omega
     exact .mk op n kids (by omega) (calcRs_sm kids other depth left 1 h)
theorem calcRs_sm:∀ (l:List Trm) (other:Bool) (depth left n:Int),0<=calcRs l other depth left n->∀ c∈l,c.Sm
 |[],_,_,_,_,_,c,hc=>by cases hc
 |k::r,other,depth,left,n,h,c,hc=>by
  rw [calcRs] at h
  split at h
  ·omega
  ·rename_i h1
   rcases List.mem_cons.1 hc with he|hc
   ·rw [he];exact calcR_sm k other (depth+1) (left-n) (by omega)
   ·exact calcRs_sm r other depth left _ h c hc
end
theorem shape_le {op:Int} {s:Shp} (h:shapeR op=some s):s.calcs<=2/\s.kids<=2:=by
 rcases ops15 op with rfl|rfl|rfl|rfl|rfl|rfl|rfl|rfl|rfl|rfl|rfl|rfl|rfl|rfl|rfl|⟨n1,n2,n3,n4,n5,n6,n7,n8,n9,n10,n11,n12,n13,n14,n15⟩
 iterate 15 (cases h;decide)
 unfold shapeR at h
 simp [n1,n2,n3,n4,n5,n6,n7,n8,n9,n10,n11,n12,n13,n14,n15] at h
mutual
theorem expR_sm (srcs defs:List Str) (ahead:Nat):∀ (e:Exp) (depth left:Int),0<=expR srcs defs ahead e depth left->e.Sm
 | .mk op name n fold calcs kids,depth,left,h=>by
  rw [expR] at h
  cases hs:shapeR op with
  |none=>rw [hs] at h;simp at h
  |some s=>
   rw [hs] at h
   dsimp only at h
   split at h
   ·omega
   ·split at h
    ·rename_i hh
     split at h
     ·omega
     ·rename_i hc
      have hle:=shape_le hs
      unfold headIs at hh
      simp only [Bool.and_eq_true,beq_iff_eq] at hh
      exact .mk op name n fold calcs kids (by omega) (by omega) (calcRs_sm calcs (other op) 0 left 1 (by omega)) (expRs_sm srcs defs ahead kids depth left _ h)
    ·omega
theorem expRs_sm (srcs defs:List Str) (ahead:Nat):∀ (l:List Exp) (depth left n:Int),0<=expRs srcs defs ahead l depth left n->∀ e∈l,e.Sm
 |[],_,_,_,_,e,he=>by cases he
 |k::r,depth,left,n,h,e,he=>by
  rw [expRs] at h
  split at h
  ·omega
  ·rename_i h1
   rcases List.mem_cons.1 he with hk|he
   ·rw [hk];exact expR_sm srcs defs ahead k (depth+1) (left-n) (by omega)
   ·exact expRs_sm srcs defs ahead r depth left _ h e he
end
theorem countL_sm (srcs names:List Str):∀ (ds:List Dfn) (i:Nat) (n:Int),0<=countL srcs names ds i n->∀ d∈ds,d.exp.Sm
 |[],_,_,_,d,hd=>by cases hd
 |k::r,i,n,h,d,hd=>by
  rw [countL] at h
  split at h
  ·omega
  ·rename_i h1
   rcases List.mem_cons.1 hd with hk|hd
   ·rw [hk];exact expR_sm srcs names i k.exp 1 (60-n) (by omega)
   ·exact countL_sm srcs names r (i+1) _ h d hd
theorem countR_sm {p:Pgm} (h:0<=countR p):∀ d∈p.defs,d.exp.Sm:=by
 unfold countR at h
 split at h
 ·omega
 ·split at h
  ·exact countL_sm _ _ _ _ _ h
  ·omega
theorem progR_count {p:Pgm} (h:progR p=true):0<=countR p:=by
 unfold progR at h
 split at h
 ·cases h
 ·omega
noncomputable def hasR (p:Pgm) (d:Int):Bool:=progR p&&decide (d>=0)&&decide (d < (p.defs.length:Int))
theorem hasR_at {p:Pgm} {d:Int} (h:hasR p d=true):progR p=true/\∃ (n:Nat) (x:Dfn),d=(n:Int)/\p.defs[n]? = some x:=by
 unfold hasR at h
 simp only [Bool.and_eq_true,decide_eq_true_eq] at h
 obtain ⟨⟨h1,h2⟩,h3⟩:=h
 obtain ⟨x,hx⟩:=at_lt (l:=p.defs) (i:=d.toNat) (by omega)
 exact ⟨h1,d.toNat,x,by omega,hx⟩
theorem ret46 (p:Pgm) (hp:p.Fits) (d:Int):Ret CC 70 [p.iv, .int .i64 d] (.tup [lookedIV p, .bool (hasR p d)]):=by
 have hr:=ret54 p hp
 unfold lookedIV at hr ⊢
 unfold hasR
 generalize progR p=b at *
 generalize countR p=n at *
 generalize ((p.defs.length-1:Nat):Int)=m at *
 obtain ⟨srcs,defs⟩:=p
 have hdm:(defs.map Dfn.iv).length=defs.length:=List.length_map ..
 simp only
 rw [<-hdm]
 have bt:(!false)=true:=rfl
 have bf:(!true)=false:=rfl
 refine Ret.of (fn:=Go.Proofs.Tryz.f70) (by kernel_rfl) rfl rfl ?_
 cases b with
 |true=>
  rw [if_pos rfl] at hr ⊢
  rcases Bool.eq_false_or_eq_true (decide (d>=0)) with h1|h1
  ·refine AA ?_
   refine W.retFin2 rfl rfl ⟨[],?_⟩
   rw [h1];rfl
  ·refine AA ?_
   refine W.retFin2 rfl rfl ⟨[],?_⟩
   rw [h1];rfl
 |false=>
  rw [if_neg (by decide)] at hr ⊢
  refine AA ?_
  exact W.retFin2 rfl rfl ⟨[],rfl⟩
end Go.Abs

/- What each node of a formed program is like. -/
open Go Go.Abs
namespace Go.Abs
set_option maxRecDepth 100000
def NodeIs (srcs defs:List Str) (ahead:Nat) (x:Exp):Prop:=∃ s,shapeR x.op=some s/\headIs srcs defs ahead s x.op x.name x.n x.fold x.calcs.length x.kids.length=true
mutual
theorem expR_head (srcs defs:List Str) (ahead:Nat):∀ (e:Exp) (depth left:Int),0<=expR srcs defs ahead e depth left->∀ x∈allE e,NodeIs srcs defs ahead x
 | .mk op name n fold calcs kids,depth,left,h,x,hx=>by
  rw [expR] at h
  rw [allE] at hx
  cases hs:shapeR op with
  |none=>rw [hs] at h;simp at h
  |some s=>
   rw [hs] at h
   dsimp only at h
   split at h
   ·omega
   ·split at h
    ·rename_i hh
     split at h
     ·omega
     ·rcases List.mem_cons.1 hx with he|hx
      ·rw [he]
       exact ⟨s,hs,hh⟩
      ·exact expRs_head srcs defs ahead kids depth left _ h x hx
    ·omega
theorem expRs_head (srcs defs:List Str) (ahead:Nat):∀ (l:List Exp) (depth left n:Int),0<=expRs srcs defs ahead l depth left n->∀ x∈allEs l,NodeIs srcs defs ahead x
 |[],_,_,_,_,x,hx=>by cases hx
 |k::r,depth,left,n,h,x,hx=>by
  rw [expRs] at h
  rw [allEs] at hx
  split at h
  ·omega
  ·rcases List.mem_append.1 hx with hx|hx
   ·exact expR_head srcs defs ahead k (depth+1) (left-n) (by omega) x hx
   ·exact expRs_head srcs defs ahead r depth left _ h x hx
end
theorem countL_head (srcs names:List Str):∀ (ds:List Dfn) (i:Nat) (n:Int),0<=countL srcs names ds i n->∀ j d,ds[j]? = some d->∀ x∈allE d.exp,NodeIs srcs names (i+j) x
 |[],_,_,_,j,d,hd=>by simp at hd
 |k::r,i,n,h,j,d,hd=>by
  rw [countL] at h
  split at h
  ·omega
  ·cases j with
   |zero=>
    simp at hd
    subst hd
    exact expR_head srcs names i k.exp 1 (60-n) (by omega)
   |succ j=>
    have:=countL_head srcs names r (i+1) _ h j d (by simpa using hd)
    rwa [show i+1+j=i+(j+1) by omega] at this
theorem countR_parts {p:Pgm} (h:0<=countR p):(1<=p.srcs.length/\p.srcs.length<=4/\p.defs.length<=6)/\diff (p.srcs++defNames p)=true/\defNames p=p.defs.map Dfn.name/\∀ i d,p.defs[i]? = some d->∀ x∈allE d.exp,NodeIs p.srcs (defNames p) i x:=by
 unfold countR at h
 split at h
 ·omega
 ·rename_i h0
  split at h
  ·rename_i h1
   refine ⟨by omega,h1,?_,fun i d hd=>?_⟩
   ·unfold defNames
    rw [List.take_of_length_le (by omega)]
   ·have:=countL_head p.srcs (defNames p) p.defs 0 0 h i d hd
    rwa [Nat.zero_add] at this
  ·omega
theorem nameOk_ne {s:Str} (h:nameOk s=true):s≠[]:=by
 rintro rfl
 simp [nameOk] at h
theorem diff_get {l:List Str} (h:diff l=true) {i:Nat} {s:Str} (hi:l[i]? = some s):nameOk s=true/\s∉l.take i:=by
 unfold diff at h
 have hlt:=(List.getElem?_eq_some_iff.1 hi).1
 have:=List.all_eq_true.1 h i (List.mem_range.2 hlt)
 rw [show l.getD i []=s from by rw [List.getD_eq_getElem?_getD,hi];rfl] at this
 simp only [Bool.and_eq_true,Bool.not_eq_true'] at this
 exact ⟨this.1,by simpa using this.2⟩
theorem diff_nodup {l:List Str} (h:diff l=true):l.Nodup:=by
 refine List.pairwise_iff_getElem.2 fun i j hi hj hij he=>?_
 have hs:l[j]? = some l[j]:=List.getElem?_eq_getElem hj
 have:=(diff_get h hs).2
 exact this (List.mem_iff_getElem?.2 ⟨i,by rw [List.getElem?_take];simp [hij,he,hi]⟩)
theorem diff_mem {l:List Str} (h:diff l=true) {s:Str} (hs:s∈l):nameOk s=true:=by
 obtain ⟨i,hi⟩:=List.mem_iff_getElem?.1 hs
 exact (diff_get h hi).1
theorem idxN_at {l:List Str} (hn:l.Nodup) {i:Nat} {s:Str} (hi:l[i]? = some s):idxN l s=i:=by
 have hs:s∈l:=List.mem_iff_getElem?.2 ⟨i,hi⟩
 have hlt:=(List.getElem?_eq_some_iff.1 hi).1
 unfold idxN
 cases hf:l.findIdx? (fun x=>s==x) with
 |none=>
  rw [List.findIdx?_eq_none_iff] at hf
  have:=hf s hs
  simp at this
 |some j=>
  have h1:=List.findIdx?_eq_some_iff_getElem.1 hf
  obtain ⟨h2,h3,_⟩:=h1
  have h3:s=l[j]:=by simpa using h3
  have h4:l[j]? = some s:=by rw [List.getElem?_eq_getElem h2,<-h3]
  by_cases hij:j=i
  ·exact hij
  ·exfalso
   have hi':l[i]=s:=(List.getElem?_eq_some_iff.1 hi).2
   rcases Nat.lt_or_gt_of_ne hij with h|h
   ·exact List.pairwise_iff_getElem.1 hn j i h2 hlt h (by rw [<-h3,hi'])
   ·exact List.pairwise_iff_getElem.1 hn i j hlt h2 h (by rw [<-h3,hi'])
theorem NodeIs.named {srcs defs:List Str} {ahead:Nat} {x:Exp} (h:NodeIs srcs defs ahead x):x.name=[]\/x.name∈srcs++defs:=by
 obtain ⟨s,h1,h2⟩:=h
 unfold headIs at h2
 simp only [Bool.and_eq_true] at h2
 obtain ⟨⟨⟨⟨⟨_,_⟩,h5⟩,_⟩,_⟩,h8⟩:=h2
 by_cases hn:x.name=[]
 ·exact .inl hn
 ·right
  have h5:s.name=true:=by
   have:(x.name==[])=false:=by simpa using hn
   rw [this] at h5
   simpa using h5
  have hop:x.op=1\/x.op=2\/x.op=3:=by
   rcases ops15 x.op with h|h|h|h|h|h|h|h|h|h|h|h|h|h|h|h
   case inl=>exact .inl h
   case inr.inl=>exact .inr (.inl h)
   case inr.inr.inl=>exact .inr (.inr h)
   all_goals
    exfalso
    simp [shapeR,h] at h1
   all_goals
    subst h1
    simp at h5
  unfold nameIs at h8
  rcases hop with h|h|h
  ·rw [h] at h8
   exact List.mem_append_left _ (by simpa using h8)
  ·rw [h] at h8
   have h8:((defs.take ahead).contains x.name)=true:=h8
   exact List.mem_append_right _ (List.mem_of_mem_take (by simpa using h8))
  ·rw [h] at h8
   have h8:(defs.contains x.name)=true:=h8
   exact List.mem_append_right _ (by simpa using h8)
end Go.Abs

/- Going round a ring until nothing changes: the rounds end after as many as there are members. -/
namespace Go.Abs.Iter
def le:Option Int->Option Int->Prop
 |none,_=>True
 |some _,none=>False
 |some a,some b=>a<=b
def lt (a b:Option Int):Prop:=¬ le b a
theorem le_refl:∀ a,le a a
 |none=>trivial
 |some _=>Int.le_refl _
theorem le_trans {a b c:Option Int} (h:le a b) (h2:le b c):le a c:=by
 cases a with
 |none=>trivial
 |some x=>cases b with
  |none=>exact absurd h id
  |some y=>cases c with
   |none=>exact absurd h2 id
   |some z=>exact Int.le_trans h h2
theorem le_antisymm {a b:Option Int} (h:le a b) (h2:le b a):a=b:=by
 cases a with
 |none=>cases b with
  |none=>rfl
  |some y=>exact absurd h2 id
 |some x=>cases b with
  |none=>exact absurd h id
  |some y=>exact congrArg some (Int.le_antisymm h h2)
theorem le_total (a b:Option Int):le a b\/le b a:=by
 cases a with
 |none=>exact .inl trivial
 |some x=>cases b with
  |none=>exact .inr trivial
  |some y=>exact Int.le_total x y
theorem lt_of_ne {a b:Option Int} (h:le a b) (hn:a≠b):lt a b:=fun h2=>hn (le_antisymm h h2)
theorem lt_of_lt_of_le {a b c:Option Int} (h:lt a b) (h2:le b c):lt a c:=fun h3=>h (le_trans h2 h3)
def LE (u v:Nat->Option Int):Prop:=∀ d,le (u d) (v d)
theorem nodup_le:∀ (a b:List Nat),a.Nodup->(∀ x∈a,x∈b)->a.length<=b.length
 |[],_,_,_=>Nat.zero_le _
 |x::a,b,hn,h=>by
  rw [List.nodup_cons] at hn
  have hx:x∈b:=h x (List.mem_cons_self ..)
  have:=nodup_le a (b.erase x) hn.2 (fun y hy=>by
   have hne:y≠x:=fun e=>hn.1 (e▸hy)
   exact (List.mem_erase_of_ne hne).2 (h y (List.mem_cons_of_mem _ hy)))
  rw [List.length_erase_of_mem hx] at this
  have:0 < b.length:=List.length_pos_of_mem hx
  simp only [List.length_cons];omega
section
variable (F:(Nat->Option Int)->Nat->Option Int) (g:List Nat)
def jac (v:Nat->Option Int):Nat->Option Int:=fun d=>if d∈g then F v d else v d
def one (v:Nat->Option Int) (d:Nat):Nat->Option Int:=fun x=>if x=d then F v d else v x
def gs (v:Nat->Option Int):Nat->Option Int:=g.foldl (one F) v
def it (f:(Nat->Option Int)->(Nat->Option Int)):Nat->(Nat->Option Int)->(Nat->Option Int)
 |0,v=>v
 |n+1,v=>f (it f n v)
structure Ok (v0:Nat->Option Int):Prop where
 start:∀ d∈g,v0 d=none
 mono:∀ u v,LE u v->∀ d,le (F u d) (F v d)
 wit:∀ u v,LE u v->(∀ d,d∉g->u d=v d)->∀ d∈g,lt (F u d) (F v d)->∃ e∈g,le (F v d) (v e)/\lt (u e) (v e)
variable {F g} {v0:Nat->Option Int} (h:Ok F g v0)
include h
theorem jac_mono {u v:Nat->Option Int} (huv:LE u v):LE (jac F g u) (jac F g v):=fun d=>by
 unfold jac;split
 ·exact h.mono u v huv d
 ·exact huv d
omit h in
theorem it_out (n:Nat):∀ d,d∉g->it (jac F g) n v0 d=v0 d:=by
 induction n with
 |zero=>exact fun d _=>rfl
 |succ n ih=>
  intro d hd
  show jac F g _ d=_
  unfold jac;rw [if_neg hd];exact ih d hd
theorem it_up (n:Nat):LE (it (jac F g) n v0) (it (jac F g) (n+1) v0):=by
 induction n with
 |zero=>
  intro d
  by_cases hd:d∈g
  ·show le (v0 d) _
   rw [h.start d hd];trivial
  ·rw [it_out (0+1) d hd];exact le_refl _
 |succ n ih=>exact jac_mono h ih
theorem it_upto {m n:Nat} (hmn:m<=n):LE (it (jac F g) m v0) (it (jac F g) n v0):=by
 induction hmn with
 |refl=>exact fun d=>le_refl _
 |step _ ih=>exact fun d=>le_trans (ih d) (it_up h _ d)
theorem chain (t:Nat):∀ d,lt (it (jac F g) t v0 d) (it (jac F g) (t+1) v0 d) ->
  ∃ l:List Nat,l.length=t+1/\l.Nodup/\(∀ x∈l,x∈g)/\∀ x∈l,∃ j,j<=t/\le (it (jac F g) (t+1) v0 d) (it (jac F g) (j+1) v0 x):=by
 induction t with
 |zero=>
  intro d hd
  have hg:d∈g:=Classical.byContradiction fun hg=>by
   rw [it_out (0+1) d hg] at hd;exact hd (le_refl _)
  exact ⟨[d],rfl,List.nodup_cons.2 ⟨List.not_mem_nil,List.nodup_nil⟩,fun x hx=>by simp only [List.mem_singleton] at hx;exact hx▸hg,fun x hx=>by
   simp only [List.mem_singleton] at hx;exact ⟨0,Nat.le_refl _,hx▸le_refl _⟩⟩
 |succ t ih=>
  intro d hd
  have hg:d∈g:=Classical.byContradiction fun hg=>by
   rw [it_out (t+1+1) d hg,it_out (t+1) d hg] at hd;exact hd (le_refl _)
  have hs:∀ n,it (jac F g) (n+1) v0 d=F (it (jac F g) n v0) d:=fun n=>by
   show jac F g _ d=_;unfold jac;rw [if_pos hg]
  have hd':=hd
  rw [hs (t+1),hs t] at hd'
  obtain ⟨e,_,he1,he2⟩:=h.wit _ _ (it_up h t) (fun x hx=>by rw [it_out t x hx,it_out (t+1) x hx]) d hg hd'
  obtain ⟨l,hl,hn,hm,hj⟩:=ih e he2
  rw [<-hs (t+1)] at he1
  refine ⟨d::l,by simp [hl],List.nodup_cons.2 ⟨?_,hn⟩,?_,?_⟩
  ·intro hdl
   obtain ⟨j,hjt,hle⟩:=hj d hdl
   exact hd (le_trans (le_trans he1 hle) (it_upto h (Nat.add_le_add_right hjt 1) d))
  ·intro x hx
   rcases List.mem_cons.1 hx with rfl|hx
   ·exact hg
   ·exact hm x hx
  ·intro x hx
   rcases List.mem_cons.1 hx with rfl|hx
   ·exact ⟨t+1,Nat.le_refl _,le_refl _⟩
   ·obtain ⟨j,hjt,hle⟩:=hj x hx
    exact ⟨j,Nat.le_succ_of_le hjt,le_trans he1 hle⟩
theorem jac_fix:jac F g (it (jac F g) g.length v0)=it (jac F g) g.length v0:=by
 funext d
 refine Classical.byContradiction fun hne=>?_
 have hup:=it_up h g.length d
 obtain ⟨l,hl,hn,hm,_⟩:=chain h g.length d (lt_of_ne hup fun e=>hne e.symm)
 have:=nodup_le l g hn hm
 omega
theorem gsl_up:∀ (r:List Nat) (u:Nat->Option Int),(∀ d,le (u d) (if d∈g then F u d else u d))->(∀ d∈r,d∈g)->LE u (r.foldl (one F) u)/\(∀ d,le (r.foldl (one F) u d) (if d∈g then F (r.foldl (one F) u) d else r.foldl (one F) u d))/\∀ d∈r,le (F u d) (r.foldl (one F) u d)
 |[],u,hu,_=>⟨fun d=>le_refl _,hu,fun d hd=>absurd hd List.not_mem_nil⟩
 |x::r,u,hu,hr=>by
  have hxg:x∈g:=hr x (List.mem_cons_self ..)
  have h1:LE u (one F u x):=fun d=>by
   unfold one;split
   ·rename_i e;subst e;have:=hu d;rwa [if_pos hxg] at this
   ·exact le_refl _
  have h2:∀ d,le (one F u x d) (if d∈g then F (one F u x) d else one F u x d):=fun d=>by
   by_cases hd:d∈g
   ·rw [if_pos hd]
    have hle:le (one F u x d) (F u d):=by
     unfold one;split
     ·rename_i e;subst e;exact le_refl _
     ·have:=hu d;rwa [if_pos hd] at this
    exact le_trans hle (h.mono _ _ h1 d)
   ·rw [if_neg hd];exact le_refl _
  obtain ⟨h3,h4,h5⟩:=gsl_up r (one F u x) h2 (fun d hd=>hr d (List.mem_cons_of_mem _ hd))
  refine ⟨fun d=>le_trans (h1 d) (h3 d),h4,fun d hd=>?_⟩
  rcases List.mem_cons.1 hd with rfl|hd
  ·have:=h3 d
   unfold one at this;rw [if_pos rfl] at this;exact this
  ·exact le_trans (h.mono _ _ h1 d) (h5 d hd)
theorem gsl_le {w:Nat->Option Int} (hw:∀ d∈g,F w d=w d):∀ (r:List Nat) (u:Nat->Option Int),(∀ d∈r,d∈g)->LE u w->LE (r.foldl (one F) u) w
 |[],u,_,hu=>hu
 |x::r,u,hr,hu=>by
  refine gsl_le hw r (one F u x) (fun d hd=>hr d (List.mem_cons_of_mem _ hd)) fun d=>?_
  unfold one;split
  ·rename_i e;subst e
   rw [<-hw d (hr d (List.mem_cons_self ..))];exact h.mono _ _ hu d
  ·exact hu d
theorem gs_it (n:Nat):LE (it (jac F g) n v0) (it (gs F g) n v0)/\LE (it (gs F g) n v0) (it (jac F g) g.length v0)/\∀ d,le (it (gs F g) n v0 d) (if d∈g then F (it (gs F g) n v0) d else it (gs F g) n v0 d):=by
 induction n with
 |zero=>
  refine ⟨fun d=>le_refl _,it_upto h (Nat.zero_le _),fun d=>?_⟩
  by_cases hd:d∈g
  ·show le (v0 d) _
   rw [h.start d hd];trivial
  ·rw [if_neg hd];exact le_refl _
 |succ n ih=>
  obtain ⟨h1,h2,h3⟩:=ih
  obtain ⟨a1,a2,a3⟩:=gsl_up h g (it (gs F g) n v0) h3 (fun _ hd=>hd)
  refine ⟨fun d=>?_,?_,a2⟩
  ·show le (jac F g _ d) (gs F g _ d)
   unfold jac;split
   ·rename_i hd
    exact le_trans (h.mono _ _ h1 d) (a3 d hd)
   ·exact le_trans (h1 d) (a1 d)
  ·refine gsl_le h (fun d hd=>?_) g _ (fun _ hd=>hd) h2
   have:=congrFun (jac_fix h) d
   unfold jac at this;rwa [if_pos hd] at this
theorem gs_eq {n:Nat} (hn:g.length<=n):it (gs F g) n v0=it (jac F g) g.length v0:=by
 funext d
 obtain ⟨h1,h2,_⟩:=gs_it h n
 exact le_antisymm (h2 d) (le_trans (it_upto h hn d) (h1 d))
end
end Go.Abs.Iter

/- How expressions depend on sources: what the reference says, and what of it goes round a ring. -/
open Go Go.Abs
namespace Go.Abs
set_option maxRecDepth 100000
structure Lg where
 on:Bool
 ever:Bool
 back:Int
 ahead:Int
def Lg.z:Lg:=⟨false,false,0,0⟩
def Lg.iv (a:Lg):IV := .agg [.bool a.on, .bool a.ever, .int .i64 a.back, .int .i64 a.ahead]
structure Lg.Ok (a:Lg):Prop where
 back:a.ever=true->a.back=0
 none:a.on=false->a=Lg.z
def mxI (a b:Int):Int:=if b > a then b else a
theorem mxI_eq (a b:Int):mxI a b=max a b:=by unfold mxI;split<;>omega
def Lg.both (a b:Lg):Lg:=if a.on then (if b.on then ⟨true,a.ever||b.ever,if a.ever||b.ever then 0 else mxI a.back b.back,mxI a.ahead b.ahead⟩ else a) else b
def Lg.thru (a:Lg) (ev:Bool) (bk ah:Int):Lg:=if a.on then ⟨true,a.ever||ev,if a.ever||ev then 0 else a.back+bk,a.ahead+ah⟩ else a
def kidL (op n:Int) (i:Nat) (a:Lg):Lg:=
 if op=7 then a.thru false n (-n) else if op=8 then a.thru false (n-1) 0 else if op=9\/op=12 then a.thru false n 0
 else if op=10\/op=11 then a.thru true 0 0 else if op=13 then a.thru (i==1) 0 0 else if op=14 then a.thru false (n*i) (n*i) else a
mutual
/-- An expression's lag about one source, by those of the definitions. -/
def expG (srcs names:List Str) (v:Nat->Lg) (s:Nat):Exp->Lg
 | .mk op name n _ _ kids=>if op=1 then (if idxN srcs name=s then ⟨true,false,0,0⟩ else Lg.z) else if op=2\/op=3 then (v (idxN names name)).thru false n (-n) else kidsG srcs names v s op n kids 0 Lg.z
def kidsG (srcs names:List Str) (v:Nat->Lg) (s:Nat) (op n:Int):List Exp->Nat->Lg->Lg
 |[],_,out=>out
 |x::r,i,out=>kidsG srcs names v s op n r (i+1) (out.both (kidL op n i (expG srcs names v s x)))
end
theorem Lg.okz:Lg.z.Ok:=⟨fun _=>rfl,fun _=>rfl⟩
theorem Lg.Ok.both {a b:Lg} (ha:a.Ok) (hb:b.Ok):(a.both b).Ok:=by
 unfold Lg.both
 split
 ·split
  ·exact ⟨fun h=>by simp only at h;simp only [h,if_true],fun h=>by cases h⟩
  ·exact ha
 ·exact hb
theorem Lg.Ok.thru {a:Lg} (ha:a.Ok) (ev:Bool) (bk ah:Int):(a.thru ev bk ah).Ok:=by
 unfold Lg.thru
 split
 ·exact ⟨fun h=>by simp only at h;simp only [h,if_true],fun h=>by cases h⟩
 ·exact ha
theorem Lg.Ok.kid {a:Lg} (ha:a.Ok) (op n:Int) (i:Nat):(kidL op n i a).Ok:=by
 unfold kidL
 repeat' split
 all_goals first|exact ha.thru _ _ _|exact ha
mutual
theorem expG_ok (srcs names:List Str) {v:Nat->Lg} (hv:∀ d,(v d).Ok) (s:Nat):∀ e,(expG srcs names v s e).Ok
 | .mk op name n fold calcs kids=>by
  rw [expG]
  split
  ·split
   ·exact ⟨fun _=>rfl,fun h=>by cases h⟩
   ·exact Lg.okz
  ·split
   ·exact (hv _).thru _ _ _
   ·exact kidsG_ok srcs names hv s op n kids 0 _ Lg.okz
theorem kidsG_ok (srcs names:List Str) {v:Nat->Lg} (hv:∀ d,(v d).Ok) (s:Nat) (op n:Int):∀ (l:List Exp) (i:Nat) (out:Lg),out.Ok->(kidsG srcs names v s op n l i out).Ok
 |[],_,_,h=>h
 |x::r,i,out,h=>by
  rw [kidsG]
  exact kidsG_ok srcs names hv s op n r (i+1) _ (h.both ((expG_ok srcs names hv s x).kid op n i))
end
/-! How far ahead. -/
def Lg.key (a:Lg):Option Int:=if a.on then some a.ahead else none
def omax:Option Int->Option Int->Option Int
 |none,b=>b
 |some a,none=>some a
 |some a,some b=>some (max a b)
def oup (k:Int):Option Int->Option Int
 |none=>none
 |some a=>some (a+k)
def foreK (op n:Int) (i:Nat):Int:=if op=7 then -n else if op=14 then n*i else 0
theorem key_both (a b:Lg):(a.both b).key=omax a.key b.key:=by
 unfold Lg.both Lg.key
 cases ha:a.on<;>cases hb:b.on<;>simp [omax,ha,hb,mxI_eq]
theorem key_thru (a:Lg) (ev:Bool) (bk ah:Int):(a.thru ev bk ah).key=oup ah a.key:=by
 unfold Lg.thru Lg.key
 cases ha:a.on<;>simp [oup,ha]
theorem key_kid (op n:Int) (i:Nat) (a:Lg):(kidL op n i a).key=oup (foreK op n i) a.key:=by
 have h0:a.key=oup 0 a.key:=by cases a.key<;>simp [oup]
 unfold kidL foreK
 by_cases h7:op=7
 ·simp only [h7,if_true];exact key_thru ..
 simp only [h7,if_false]
 by_cases h8:op=8
 ·subst h8;simp [key_thru]
 simp only [h8,if_false]
 by_cases h9:op=9\/op=12
 ·rcases h9 with rfl|rfl<;>simp [key_thru]
 simp only [h9,if_false]
 by_cases h10:op=10\/op=11
 ·rcases h10 with rfl|rfl<;>simp [key_thru]
 simp only [h10,if_false]
 by_cases h13:op=13
 ·subst h13;simp [key_thru]
 simp only [h13,if_false]
 by_cases h14:op=14
 ·simp only [h14,if_true];exact key_thru ..
 simp only [h14,if_false];exact h0
open Iter in
theorem le_omax {a a' b b':Option Int} (h:le a b) (h':le a' b'):le (omax a a') (omax b b'):=by
 cases a<;>cases a'<;>cases b<;>cases b'<;>simp only [le,omax] at h h' ⊢ <;> omega
open Iter in
theorem le_oup {a b:Option Int} (k:Int) (h:le a b):le (oup k a) (oup k b):=by
 cases a<;>cases b<;>simp only [le,oup] at h ⊢;omega
section
open Iter
variable (srcs names:List Str) (s:Nat)
mutual
theorem expG_mono {u v:Nat->Lg} (h:∀ d,le (u d).key (v d).key):∀ e,le (expG srcs names u s e).key (expG srcs names v s e).key
 | .mk op name n fold calcs kids=>by
  rw [expG,expG]
  split
  ·exact le_refl _
  ·split
   ·rw [key_thru,key_thru];exact le_oup _ (h _)
   ·exact kidsG_mono h op n kids 0 (le_refl _)
theorem kidsG_mono {u v:Nat->Lg} (h:∀ d,le (u d).key (v d).key) (op n:Int):∀ (l:List Exp) (i:Nat) {a b:Lg},le a.key b.key->le (kidsG srcs names u s op n l i a).key (kidsG srcs names v s op n l i b).key
 |[],_,_,_,hab=>by rw [kidsG,kidsG];exact hab
 |x::r,i,a,b,hab=>by
  rw [kidsG,kidsG]
  refine kidsG_mono h op n r (i+1) ?_
  rw [key_both,key_both,key_kid,key_kid]
  exact le_omax hab (le_oup _ (expG_mono h x))
end
def Wit (g:List Nat) (u v:Nat->Lg) (a b:Option Int):Prop:=lt a b->∃ e∈g,le b (v e).key/\lt (u e).key (v e).key
theorem Wit.max {g:List Nat} {u v:Nat->Lg} {a a' b b':Option Int} (h:Wit g u v a b) (h':Wit g u v a' b'):Wit g u v (omax a a') (omax b b'):=by
 intro hlt
 have hb:omax b b'=b\/omax b b'=b':=by
  cases b<;>cases b'<;>simp only [omax]
  ·exact .inl trivial
  ·exact .inr trivial
  ·exact .inl trivial
  ·rename_i x y;rcases Int.le_total x y with h|h
   ·right;rw [Int.max_eq_right h]
   ·left;rw [Int.max_eq_left h]
 have h1:le a (omax a a'):=by cases a<;>cases a'<;>simp only [omax,le]<;>omega
 have h2:le a' (omax a a'):=by cases a<;>cases a'<;>simp only [omax,le]<;>omega
 rcases hb with hb|hb<;>rw [hb] at hlt ⊢
 ·exact h fun hc=>hlt (le_trans hc h1)
 ·exact h' fun hc=>hlt (le_trans hc h2)
theorem Wit.up {g:List Nat} {u v:Nat->Lg} {a b:Option Int} {k:Int} (hk:k<=0) (h:Wit g u v a b):Wit g u v (oup k a) (oup k b):=by
 intro hlt
 obtain ⟨e,he,h1,h2⟩:=h fun hc=>hlt (le_oup k hc)
 refine ⟨e,he,le_trans ?_ h1,h2⟩
 cases b<;>simp only [oup,le];omega
mutual
theorem expG_wit {g:List Nat} {u v:Nat->Lg} (h:∀ d,d∉g->u d=v d):∀ e,(∀ x∈allE e,x.fore=false/\(x.op=2\/x.op=3->0<=x.n))->Wit g u v (expG srcs names u s e).key (expG srcs names v s e).key
 | .mk op name n fold calcs kids,he=>by
  have h0:=he (.mk op name n fold calcs kids) (by rw [allE];exact List.mem_cons_self ..)
  rw [expG,expG]
  split
  ·exact fun hc=>absurd (le_refl _) hc
  ·split
   ·rename_i hop
    have hn:0<=n:=h0.2 hop
    rw [key_thru,key_thru]
    refine Wit.up (by omega) fun hlt=>?_
    by_cases hd:idxN names name∈g
    ·exact ⟨_,hd,le_refl _,hlt⟩
    ·rw [h _ hd] at hlt;exact absurd (le_refl _) hlt
   ·have h1:op≠14/\(op=7->0<=n):=by
     have:=h0.1
     unfold Exp.fore at this
     rw [Bool.or_eq_false_iff] at this
     refine ⟨by simpa [Exp.op] using this.1,fun h7=>?_⟩
     have h2:=this.2
     simp only [Exp.op,Exp.n,h7,beq_self_eq_true,Bool.true_and] at h2
     have:=of_decide_eq_false h2
     omega
    exact kidsG_wit h op n h1 kids 0 (fun x hx=>he x (by rw [allE];exact List.mem_cons_of_mem _ hx)) (fun hc=>absurd (le_refl _) hc)
theorem kidsG_wit {g:List Nat} {u v:Nat->Lg} (h:∀ d,d∉g->u d=v d) (op n:Int) (hop:op≠14/\(op=7->0<=n)):∀ (l:List Exp) (i:Nat) {a b:Lg},(∀ x∈allEs l,x.fore=false/\(x.op=2\/x.op=3->0<=x.n))->Wit g u v a.key b.key->Wit g u v (kidsG srcs names u s op n l i a).key (kidsG srcs names v s op n l i b).key
 |[],_,_,_,_,hab=>by rw [kidsG,kidsG];exact hab
 |x::r,i,a,b,he,hab=>by
  rw [kidsG,kidsG]
  refine kidsG_wit h op n hop r (i+1) (fun y hy=>he y (by rw [allEs];exact List.mem_append_right _ hy)) ?_
  rw [key_both,key_both,key_kid,key_kid]
  refine hab.max (Wit.up ?_ (expG_wit h x fun y hy=>he y (by rw [allEs];exact List.mem_append_left _ hy)))
  unfold foreK
  split
  ·rename_i h7;have:=hop.2 h7;omega
  ·rw [if_neg hop.1];exact Int.le_refl _
end
end
end Go.Abs
