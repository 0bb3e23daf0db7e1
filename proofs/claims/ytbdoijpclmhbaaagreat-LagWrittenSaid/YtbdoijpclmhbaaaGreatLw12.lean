/- Programs with other names, as the program makes them. -/
import Derived.Test.YtbdoijpclmhbaaaGreatLw11
open Go Go.Abs
namespace Go.Abs
set_option maxRecDepth 100000
set_option maxHeartbeats 4000000
instance fnis45:FnIs CC 14:=⟨rfl,fun _=>rfl⟩
theorem toLook {old now:List Str} (hl:now.length=old.length) (s:Str):lookIs (some ty9) (some ty9) (some (old.map sv,(now.map sv).map .imm)) (sv s) false (.imm (sv (if old.contains s then now.getD (idxN old s) [] else []))):=by
 refine ⟨rfl,?_⟩
 rw [keyFind_sv,<-findIdx_contains]
 unfold idxN
 cases h:old.findIdx? fun x=>s==x with
 |none=>exact .inr ⟨rfl,rfl⟩
 |some j=>
  have hj:=findIdx_lt h
  obtain ⟨t,ht⟩:=at_lt (l:=now) (i:=j) (by omega)
  refine .inl ⟨j, .imm (sv t),rfl,by simp [ht],?_⟩
  simp [ht]
theorem toIs_of {p:Pgm} (hn:∀ s∈oldN p,nameOk s=true) {s:Str} (h:s=[]\/s∈oldN p):ToIs ((oldN p).map sv) ((canonL (oldN p).length).map sv) (toC p) s:=by
 refine ⟨fun he=>?_,fun hne=>?_⟩
 ·subst he
  unfold toC toR
  rw [if_neg]
  intro h
  exact nameOk_ne (hn [] (by simpa using h)) rfl
 ·have hm:s∈oldN p:=h.resolve_left hne
  have:=toLook (canonL_len (oldN p).length) s
  unfold toC toR
  rw [if_pos (by simpa using hm)] at this ⊢
  exact this
theorem setLast {old:List Str} {i:Nat} {s:Str} (hn:old.Nodup) (hi:old[i]? = some s):keyFind (sv s) ((old.take i).map sv)=some none:=by
 rw [keyFind_sv]
 cases h':(old.take i).findIdx? fun x=>s==x with
 |none=>rfl
 |some j=>
  exfalso
  obtain ⟨h1,h2,_⟩:=List.findIdx?_eq_some_iff_getElem.1 h'
  have h2:s=(old.take i)[j]:=by simpa using h2
  have hj:j < i:=by rw [List.length_take] at h1;omega
  have hil:=(List.getElem?_eq_some_iff.1 hi).1
  rw [List.getElem_take] at h2
  exact List.pairwise_iff_getElem.1 hn j i (by omega) hil hj (by rw [<-h2,(List.getElem?_eq_some_iff.1 hi).2])
theorem touch_map {G:Nat->Obj} {o:Nat} {ks vs:List IV} {fr:Bool} (h:G o = .mp ks (vs.map .imm) fr):touch G pkDepth (.map o)=[o]:=by
 show touch G (99+1) _=_
 unfold touch
 rw [h]
 dsimp only
 rw [touch_imms]
theorem ret45 {p:Pgm} (hp:p.Fits):Ret CC 14 [p.iv] (.tup [(canonR p).1.iv, .int .i64 (canonR p).2]):=by
 have h54:=ret54 p hp
 unfold canonR
 unfold lookedIV at h54
 cases hb:progR p with
 |false=>
  rw [hb] at h54
  simp only [Bool.false_eq_true,if_false] at h54 ⊢
  obtain ⟨srcs,defs⟩:=p
  refine Ret.of (fn:=Go.Proofs.Tryz.f14) (by kernel_rfl) rfl rfl ?_
  refine BB ?_
  exact W.retFinCT rfl rfl rfl rfl rfl ⟨[],rfl⟩
 |true=>
 rw [hb] at h54
 simp only [if_true] at h54 ⊢
 obtain ⟨cs,hcs⟩:∃ cs,scopeIV p ((p.defs.length-1:Nat):Int) (countR p) = .fptr cs 0:=⟨_,rfl⟩
 rw [hcs] at h54
 obtain ⟨hn,hs,hd,hsm,hok,hnode⟩:=progR_parts hb
 have hol:(oldN p).length=p.srcs.length+p.defs.length:=oldN_len p
 have hON:oldN p=p.srcs++p.defs.map Dfn.name:=rfl
 have hdef:=fun i d h=>toC_def hn (i:=i) (d:=d) h
 have hren:∀ d∈p.defs,Ret CC 54 [d.exp.iv, .fmp ((oldN p).map sv) ((canonL (oldN p).length).map sv)] (renE (toC p) d.exp).iv:=fun d hd=>ret77 (hsm d hd) fun x hx=>by
  obtain ⟨i,hi⟩:=List.mem_iff_getElem?.1 hd
  exact toIs_of hok (hnode i d hi x hx).named
 have htk:(canonL (oldN p).length).take p.srcs.length=canonL p.srcs.length:=canonL_take (by omega)
 have hlk:∀ d∈p.defs,lookIs (some ty9) (some ty9) (some ((oldN p).map sv,((canonL (oldN p).length).map sv).map .imm)) (sv d.name) false (.imm (sv (toC p d.name))):=fun d hd=>
  (toIs_of hok (.inr (List.mem_append_right _ (List.mem_map.2 ⟨d,hd,rfl⟩)))).2 (nameOk_ne (hok _ (List.mem_append_right _ (List.mem_map.2 ⟨d,hd,rfl⟩))))
 have h75:=ret75 p.defs (by omega)
 unfold canonP
 generalize toC p=to at *
 generalize hold:oldN p=old at *
 obtain ⟨srcs,defs⟩:=p
 simp only at *
 have horc:CC.orc 50 [.lst (srcs.map sv)]=some (.own 9 1 (srcs.map sv)):=by
  show (if (srcs.map sv).all isStrIV=true/\(srcs.map sv).length<=4294967296 then some (OrcR.own 9 1 (srcs.map sv)) else none)=_
  rw [if_pos ⟨by rw [List.all_map];exact List.all_eq_true.2 fun _ _=>rfl,by simp;omega⟩]
 have hfs:∀ l:List Str,((l.map sv).map AV.imm).all (AV.fits 1)=true:=fun l=>fits_all (fun y hy=>by obtain ⟨z,_,rfl⟩:=List.mem_map.1 hy;rfl)
 refine Ret.of (fn:=Go.Proofs.Tryz.f14) (by kernel_rfl) rfl rfl ?_
 refine BB ?_
 refine D.op1 (O.callOwnI rfl horc rfl rfl) rfl rfl ?_
 refine BD ?_
 have hsl:(srcs.map sv).length=srcs.length:=List.length_map ..
 refine D.op1 (O.appRow (xs:=(srcs.map sv).map AV.imm) (ys:=((defs.map Dfn.name).map sv).map AV.imm) rfl rfl rfl at_upd (List.length_map ..) rfl rfl (by decide) (by decide) rfl (hfs _) (by simp only [List.length_map,most];omega)) rfl rfl ?_
 have hrow:(srcs.map sv).map AV.imm++((defs.map Dfn.name).map sv).map AV.imm=(old.map sv).map AV.imm:=by rw [hON,List.map_append,List.map_append]
 rw [hrow]
 have hlo:((old.map sv).map AV.imm).length=old.length:=by simp
 rw [hlo]
 refine BB ?_
 refine W.loop (X:=Nat×AV) (fun x=>[(1, .ptr 0 0),(2, .ptr 1 0),(4, .map 6),(5,x.2),(22, .row 11 old.length),(23, .imm (.int .i64 old.length)),(24, .imm (.int .i64 x.1))])
  (fun x nx G=>18<=nx/\G 0 = .box [.imm (.lst (srcs.map sv)), .imm (.lst (defs.map Dfn.iv))] false/\G 1 = .box ty29.zero.cells false/\G 6 = .mp ((old.take x.1).map sv) (((canonL x.1).map sv).map .imm) false/\G 11 = .row 9 1 ((old.map sv).map AV.imm) false/\x.1<=old.length/\Own 9 1 18 nx ((canonL x.1).map sv) G x.2)
  (fun x=>old.length-x.1) (0, .nils) .auto ⟨by omega,rfl,rfl,rfl,rfl,Nat.zero_le _, .nil ..⟩ ?_
 rintro ⟨i,w⟩ nx G ⟨hnx,g0,g1,g6,g11,hi,ho⟩
 dsimp only at g6 hi ho ⊢
 rcases Bool.eq_false_or_eq_true (decide ((i:Int) < (old.length:Int))) with hcc|hcc
 ·have hlt:i < old.length:=by have:=of_decide_eq_true hcc;omega
  have hmu:old.length-(i+1) < old.length-i:=by omega
  obtain ⟨s,hsi⟩:=at_lt hlt
  have hxn:((old.map sv).map AV.imm)[((i:Nat):Int).toNat]? = some (.imm (sv s)):=by
   rw [Int.toNat_natCast,List.getElem?_map,List.getElem?_map,hsi];rfl
  have hr:=ret12f (l:=canonL i) (by rw [canonL_len];omega)
  obtain ⟨ids,hids⟩:=ho.peek (k:=99)
  have hcl:((canonL i).map sv).length<=100:=by rw [List.length_map,canonL_len];omega
  have hcs:(canonL (i+1)).map sv=(canonL i).map sv++[sv (freshOf (canonL i))]:=by rw [canonL,List.map_append];rfl
  have hts:(old.take (i+1)).map sv=(old.take i).map sv++[sv s]:=by rw [List.take_add_one,hsi,List.map_append];rfl
  have hset:=setLast hn hsi
  have hlook:=toLook (old:=old.take (i+1)) (now:=canonL (i+1)) (by rw [canonL_len,List.length_take];omega) s
  have hti:(old.take (i+1))[i]? = some s:=by rw [List.getElem?_take];simpa using hsi
  rw [if_pos (by simpa using List.mem_iff_getElem?.2 ⟨i,hti⟩),idxN_at (hn.sublist (List.take_sublist _ _)) hti,List.getD_eq_getElem?_getD,canonL_at (Nat.lt_succ_self i),Option.getD_some] at hlook
  refine BB ?_
  refine R.op0 (O.callP rfl (peeks_one hids peeks_nil) hr rfl) rfl ?_
  refine R.opN1 (O.mapNew rfl inferInstance rfl rfl rfl g6 rfl hset) ?_
  refine R.gen' (fun G2=>(∀ q,q≠6->G2 q=G q)/\G2 6 = .mp ((old.take (i+1)).map sv) (((canonL (i+1)).map sv).map .imm) false) ⟨fun q hq=>upd_ne _ _ _ _ hq,by rw [upd_same,hts,hcs,List.map_append];rfl⟩ ?_
  rintro G2 ⟨hfr,k6⟩
  have hlook2:lookIs (some ty9) (some ty9) (mapKV G2 (.map 6)) (sv s) false (.imm (sv (freshOf (canonL i)))):=by
   simp only [mapKV,k6];exact hlook
  have k0:=(hfr 0 (by omega)).trans g0
  have k1:=(hfr 1 (by omega)).trans g1
  have k11:=(hfr 11 (by omega)).trans g11
  have ho2:=ho.fr (G':=G2) (hh:=Nat.le_refl _) (hG:=fun q h1 h2=>hfr q (by omega))
  refine BB ?_
  refine R.app1 ho2 at_upd (by simp only [most];omega) fun v' G' ho' hG'=>?_
  rw [<-hcs] at ho'
  refine BB ?_
  exact W.skipLop (i+1,v') hmu .auto ⟨by omega,(hG' 0 (by omega)).trans (Eq.trans at_upd k0),(hG' 1 (by omega)).trans (Eq.trans at_upd k1),(hG' 6 (by omega)).trans (Eq.trans at_upd k6),(hG' 11 (by omega)).trans (Eq.trans at_upd k11),hlt,ho'.fr⟩
 have hge:old.length<=i:=by have:=of_decide_eq_false hcc;omega
 obtain rfl:i=old.length:=by omega
 rw [List.take_of_length_le (Nat.le_refl _)] at g6
 rcases ho with ⟨hnil,_⟩|⟨o,ho1,ho2,rfl,hGo⟩
 ·have:=congrArg List.length hnil
  rw [List.length_map,canonL_len,List.length_nil] at this
  omega
 have hnl:(canonL old.length).length=old.length:=canonL_len _
 have htk2:(((canonL old.length).map sv).take srcs.length).drop 0=(canonL srcs.length).map sv:=by rw [List.drop_zero,<-List.map_take,htk]
 have hcl:(((canonL old.length).map sv).all fun y=>y.cells.length==1)=true:=by
  rw [List.all_eq_true]
  intro y hy
  obtain ⟨z,_,rfl⟩:=List.mem_map.1 hy
  rfl
 generalize hnow:canonL old.length=now at *
 refine BB ?_
 refine R.opU (O.sliceG rfl rfl (peek_row1 hGo rfl) (n:=srcs.length) (m:=0) (boundE_at rfl (by rw [hsl]) (by rw [List.length_map];omega)) rfl hcl) rfl ?_
 rw [htk2]
 refine R.gen' (fun G=>G 0 = .box [.imm (.lst (srcs.map sv)), .imm (.lst (defs.map Dfn.iv))] false/\G 1 = .box ty29.zero.cells false/\G 6 = .mp (old.map sv) ((now.map sv).map .imm) false) ⟨by rw [frz_at,if_neg (by omega)];exact g0,by rw [frz_at,if_neg (by omega)];exact g1,by rw [frz_at,if_neg (by omega)];exact g6⟩ ?_
 clear g0 g1 g6 g11 hGo
 rintro G ⟨g0,g1,g6⟩
 have hcl2:((canonL srcs.length).map sv).length=srcs.length:=by rw [List.length_map,canonL_len]
 have horc2:CC.orc 50 [.lst ((canonL srcs.length).map sv)]=some (.own 9 1 ((canonL srcs.length).map sv)):=by
  show (if ((canonL srcs.length).map sv).all isStrIV=true/\((canonL srcs.length).map sv).length<=4294967296 then some (OrcR.own 9 1 ((canonL srcs.length).map sv)) else none)=_
  rw [if_pos ⟨by rw [List.all_map];exact List.all_eq_true.2 fun _ _=>rfl,by omega⟩]
 refine R.op1 (O.callOwnI rfl horc2 rfl rfl) rfl ?_
 rw [hcl2]
 refine BB ?_
 have hdm:(defs.map Dfn.iv).length=defs.length:=List.length_map ..
 refine W.loop (X:=Nat×AV) (fun x=>[(1, .ptr 0 0),(2, .ptr 1 0),(4, .map 6),(8, .ptr (nx+1+7) 0),(47, .imm (.lst (defs.map Dfn.iv))),(48, .imm (.int .i64 (defs.map Dfn.iv).length)),(49, .imm (.int .i64 x.1))])
  (fun x nx2 G2=>nx+14<=nx2/\G2 0 = .box [.imm (.lst (srcs.map sv)), .imm (.lst (defs.map Dfn.iv))] false/\G2 1 = .box ty29.zero.cells false/\(∃ fr,G2 6 = .mp (old.map sv) ((now.map sv).map .imm) fr) /\
   G2 (nx+1+5) = .row 9 1 (((canonL srcs.length).map sv).map .imm) false/\G2 (nx+1+7) = .box [.row (nx+1+5) srcs.length,x.2] false/\x.1<=defs.length/\Own 95 7 (nx+14) nx2 (((defs.take x.1).map (renD to)).map Dfn.iv) G2 x.2)
  (fun x=>defs.length-x.1) (0, .nils) .auto ⟨by omega,Eq.trans at_upd g0,Eq.trans at_upd g1,⟨_,Eq.trans at_upd g6⟩,at_upd,at_upd,Nat.zero_le _, .nil ..⟩ ?_
 clear g0 g1 g6 G
 rintro ⟨i,w⟩ nx2 G ⟨hnx2,g0,g1,⟨fr6,g6⟩,g9,g8,hi,ho⟩
 dsimp only at g8 hi ho ⊢
 have hw1:=ho.cells1
 have hw2:=ho.one1
 rcases Bool.eq_false_or_eq_true (decide ((i:Int) < ((defs.map Dfn.iv).length:Int))) with hcc|hcc
 ·have hlt:i < defs.length:=by have:=of_decide_eq_true hcc;omega
  obtain ⟨y,hy⟩:=at_lt hlt
  have hyi:=at_map Dfn.iv hy
  have hdc:=y.cells_len
  have hym:=List.mem_of_getElem? hy
  have hmu:defs.length-(i+1) < defs.length-i:=by omega
  have hr:=hren y hym
  have hlook:=hlk y hym
  have htk:((defs.take (i+1)).map (renD to)).map Dfn.iv=((defs.take i).map (renD to)).map Dfn.iv++[(renD to y).iv]:=by
   rw [List.take_add_one,hy,List.map_append,List.map_append];rfl
  have hlen:(((defs.take i).map (renD to)).map Dfn.iv).length<=6:=by simp;omega
  simp only [renD] at htk
  obtain ⟨ny,ey⟩:=y
  simp only at hr hlook htk
  generalize to ny=nm at *
  generalize renE to ey=ee at *
  obtain ⟨o1,s1,n1,f1,c1,k1⟩:=ey
  obtain ⟨o2,s2,n2,f2,c2,k2⟩:=ee
  have hlook2:∀ {G2:Nat->Obj} (_:G2 6 = .mp (old.map sv) ((now.map sv).map .imm) fr6),lookIs (some ty9) (some ty9) (mapKV G2 (.map 6)) (sv ny) false (.imm (sv nm)):=fun {G2} h=>by
   simp only [mapKV,h];exact hlook
  refine BB ?_
  refine D.gen' (fun G2=>(∀ q,q < nx2->G2 q=G q)/\G2 (nx2+1+2) = .box [.imm (sv ny), .imm (.int .i64 o1), .imm (sv s1), .imm (.int .i64 n1), .imm (.int .i64 f1), .imm (.lst (Trm.ivs c1)), .imm (.lst (Exp.ivs k1))] false) ⟨fun q hq=>at_upd,at_upd⟩ ?_
  rintro G2 ⟨hfr,kd⟩
  have k6:=(hfr 6 (by omega)).trans g6
  refine D.op0 (O.lookA rfl inferInstance inferInstance rfl rfl rfl (hlook2 k6)) rfl rfl ?_
  refine BD ?_
  refine D.opU (rd:=[6]) (O.callFz (ids:=[6]++[]) rfl (peeks_im (peeks_one (peek_mpx k6) peeks_nil)) hr rfl) ?_ rfl ?_
  ·show some (List.flatMap (touch G2 pkDepth) [.imm _, .map 6])=_
   rw [List.flatMap_cons,List.flatMap_cons,touch_im,touch_map k6];rfl
  refine D.gen' (fun G3=>(∀ q,q≠6->G3 q=G2 q)/\G3 6 = .mp (old.map sv) ((now.map sv).map .imm) true) ⟨fun q h=>?_,?_⟩ ?_
  ·show updL G2 (frz [6]) q=_
   rw [frz_at,if_neg h]
  ·show updL G2 (frz [6]) 6=_
   rw [frz_at,if_pos rfl,k6];rfl
  rintro G3 ⟨hfr3,j6⟩
  have j0:=((hfr3 0 (by omega)).trans (hfr 0 (by omega))).trans g0
  have j1:=((hfr3 1 (by omega)).trans (hfr 1 (by omega))).trans g1
  have j9:=((hfr3 (nx+1+5) (by omega)).trans (hfr _ (by omega))).trans g9
  have j8:=((hfr3 (nx+1+7) (by omega)).trans (hfr _ (by omega))).trans g8
  have ho2:=ho.fr (G':=G3) (hh:=Nat.le_refl _) (hG:=fun q h1 h2=>(hfr3 q (by omega)).trans (hfr q (by omega)))
  refine BD ?_
  refine D.app2 ho2 at_upd (by simp only [most];omega) fun v' G' o' ho' hG' hG2 hlo hlo2=>?_
  have hv1:=ho'.cells1
  have hv2:=ho'.one1
  have i0:=(hG' 0 (by omega)).trans (Eq.trans at_upd j0)
  have i1:=(hG' 1 (by omega)).trans (Eq.trans at_upd j1)
  have i6:=(hG' 6 (by omega)).trans (Eq.trans at_upd j6)
  have i9:=(hG' (nx+1+5) (by omega)).trans (Eq.trans at_upd j9)
  have i8:=(hG' (nx+1+7) (by omega)).trans (Eq.trans at_upd j8)
  refine BD ?_
  refine D.skipN' [6,nx+1+7,nx2+1+2,o',nx2+1+4+11] (by simp;omega) [⟨0,[],[],[]⟩,⟨1,[2],[],[]⟩,⟨2,[],[],[]⟩,⟨3,[],[],[]⟩,⟨4,[3],[],[]⟩,⟨5,[1],[],[]⟩,⟨6,[],[],[]⟩,⟨7,[3],[],[]⟩,⟨8,[],[],[]⟩,
   ⟨9,[1],[],[1]⟩,⟨10,[],[],[]⟩,⟨11,[],[5],[]⟩,⟨12,[4,5],[4],[]⟩,⟨13,[],[],[]⟩,⟨14,[2],[2],[]⟩] rfl rfl (by kernel_rfl) ?_
  refine BB ?_
  refine W.skipLop (i+1,v') hmu .auto ⟨by omega,Eq.trans at_upd i0,Eq.trans at_upd i1,⟨_,Eq.trans at_upd i6⟩,Eq.trans at_upd i9,at_upd,hlt,?_⟩
  show Own 95 7 (nx+14) _ (((defs.take (i+1)).map (renD to)).map Dfn.iv) _ v'
  rw [htk]
  exact ho'.fr
 ·have hge:defs.length<=i:=by have:=of_decide_eq_false hcc;omega
  rw [List.take_of_length_le hge] at ho
  have hmk:mkAgg [.row (nx+1+5) srcs.length,w] = .agg [.row (nx+1+5) srcs.length,w]:=mkAgg_not ⟨.row (nx+1+5) srcs.length,by simp,by intro x h;cases h⟩
  have hft:AV.fits 2 (.agg [.row (nx+1+5) srcs.length,w])=true:=by
   show ((2==2)&&(true&&(w.one&&true)))=true
   rw [hw2];rfl
  have hrw:Rdx 2 G (fun o=>2<=o) (.agg [.row (nx+1+5) srcs.length,w]) (Pgm.mk (canonL srcs.length) (defs.map (renD to))).iv:=
   Rdx.agg (d:=1) (.cons (Rdx.row (d:=0) (e:=9) (sz:=1) (fr:=false) g9 (by rw [List.length_map,hcl2]) (All2.imms 0 _ _ _) (by omega)) (.cons (ho.rdx.frame (fun _ _=>rfl) fun _ h=>by omega) .nil))
  refine BB ?_
  refine R.opN1 (O.storeP rfl (congrArg some hmk) hft g1 rfl rfl) ?_
  refine BB ?_
  refine W.retFinCT (cs:=[.row (nx+1+5) srcs.length,w]) rfl at_upd rfl rfl rfl ?_
  rw [hmk]
  exact Rdx.peek (d:=3) (P:=fun o=>2<=o) (Rdx.tup (d:=2) (.cons (hrw.frame (fun o h=>at_upd) fun _ h=>h) (.cons (.imm ..) .nil))) (by decide)
end Go.Abs

/- What is known of a program's lags: numbers of names, rows, ways. -/
open Go Go.Abs
namespace Go.Abs
set_option maxRecDepth 100000
set_option maxHeartbeats 4000000
def ty434:TyI:={ d:=TyD.mp 88 213,sz:=1,bytes:=8,zero:=AV.imm IV.nilmap }
instance tyis434:TyIs CC 134 ty434:=⟨by kernel_rfl⟩
def ty436:TyI:={ d:=TyD.st [(0,2),(2,1),(3,1),(4,1)],sz:=5,bytes:=88,zero:=AV.agg [AV.nils,AV.nils,AV.imm IV.nilmap,AV.nils,AV.imm IV.nilmap] }
instance tyis436:TyIs CC 136 ty436:=⟨by kernel_rfl⟩
def ty437:TyI:={ d:=TyD.ptr,sz:=1,bytes:=8,zero:=AV.imm IV.nilp }
instance tyis437:TyIs CC 137 ty437:=⟨by kernel_rfl⟩
def ty513:TyI:={ d:=TyD.fn,sz:=1,bytes:=8,zero:=AV.imm IV.nilfn }
instance tyis513:TyIs CC 213 ty513:=⟨by kernel_rfl⟩
instance fnis436:FnIs CC 136:=⟨rfl,fun _=>rfl⟩
/-! The ways. -/
def wayOps:List Int:=[4,5,6,15,7,8,9,12,10,11,13,14]
def wayKs:List IV:=wayOps.map (.int .i64)
def wayVs:List IV:=wayOps.map fun n => .fn (.func (wayF n)) []
theorem ret436:Ret CC 136 [] (.fmp wayKs wayVs):=Ret.reckon (n:=20) (by kernel_rfl)
theorem wayLook {op:Int} (h:4<=op/\op<=15):lookIs (some ty55) (some ty513) (some (wayKs,wayVs.map .imm)) (.int .i64 op) false (.imm (.fn (.func (wayF op)) [])):=by
 refine ⟨rfl, .inl ?_⟩
 rcases ops15 op with rfl|rfl|rfl|rfl|rfl|rfl|rfl|rfl|rfl|rfl|rfl|rfl|rfl|rfl|rfl|hno
 case inr.inr.inr.inr.inr.inr.inr.inr.inr.inr.inr.inr.inr.inr.inr=>omega
 all_goals first
  |omega
  |exact ⟨0,_,rfl,rfl,rfl⟩
  |exact ⟨1,_,rfl,rfl,rfl⟩
  |exact ⟨2,_,rfl,rfl,rfl⟩
  |exact ⟨3,_,rfl,rfl,rfl⟩
  |exact ⟨4,_,rfl,rfl,rfl⟩
  |exact ⟨5,_,rfl,rfl,rfl⟩
  |exact ⟨6,_,rfl,rfl,rfl⟩
  |exact ⟨7,_,rfl,rfl,rfl⟩
  |exact ⟨8,_,rfl,rfl,rfl⟩
  |exact ⟨9,_,rfl,rfl,rfl⟩
  |exact ⟨10,_,rfl,rfl,rfl⟩
  |exact ⟨11,_,rfl,rfl,rfl⟩
/-! The numbers of names. -/
def numKs (p:Pgm):List IV:=(p.srcs++p.defs.map Dfn.name).map sv
def numVs (p:Pgm):List IV:=(List.range p.srcs.length++List.range p.defs.length).map natIV
theorem numSrc {p:Pgm} {s:Str} (hs:s∈p.srcs):lookIs (some ty9) (some ty3) (some (numKs p,(numVs p).map .imm)) (sv s) false (.imm (natIV (idxN p.srcs s))):=by
 refine ⟨rfl, .inl ⟨idxN p.srcs s,_,?_,?_,rfl⟩⟩
 ·unfold numKs
  rw [keyFind_sv,List.findIdx?_append]
  have:=findIdx_contains s p.srcs
  have hc:p.srcs.contains s=true:=by simpa using hs
  rw [hc] at this
  obtain ⟨j,hj⟩:=Option.isSome_iff_exists.1 this
  unfold idxN
  rw [hj];rfl
 ·have:=idxN_lt hs
  unfold numVs
  rw [List.getElem?_map,List.getElem?_map,List.getElem?_append_left (by simpa using this),List.getElem?_range this]
  rfl
theorem numDef {p:Pgm} {s:Str} (hs:s∈p.defs.map Dfn.name) (hn:s∉p.srcs):lookIs (some ty9) (some ty3) (some (numKs p,(numVs p).map .imm)) (sv s) false (.imm (natIV (idxN (p.defs.map Dfn.name) s))):=by
 refine ⟨rfl, .inl ⟨p.srcs.length+idxN (p.defs.map Dfn.name) s,_,?_,?_,rfl⟩⟩
 ·unfold numKs
  rw [keyFind_sv,List.findIdx?_append]
  have h0:=findIdx_contains s p.srcs
  have hc:p.srcs.contains s=false:=by simpa using hn
  rw [hc] at h0
  have h1:=findIdx_contains s (p.defs.map Dfn.name)
  have hc:(p.defs.map Dfn.name).contains s=true:=List.contains_iff_mem.2 hs
  rw [hc] at h1
  obtain ⟨j,hj⟩:=Option.isSome_iff_exists.1 h1
  unfold idxN
  rw [hj,Option.isSome_eq_false_iff.1 h0 |> fun h=>(Option.isNone_iff_eq_none.1 h)]
  simp [Nat.add_comm]
 ·have:=idxN_lt hs
  rw [List.length_map] at this
  unfold numVs
  rw [List.getElem?_map,List.getElem?_map,List.getElem?_append_right (by simp),List.length_range,Nat.add_sub_cancel_left,List.getElem?_range this]
  rfl
def KnV (p:Pgm) (lo hi:Nat) (G:Nat->Obj) (kv:AV) (D:List (List Lg)):Prop:=
 kv = .imm (.fptr [.lst (p.srcs.map sv), .lst (p.defs.map Dfn.iv), .fmp (numKs p) (numVs p), .lst (D.map lagsIV), .fmp wayKs wayVs] 0) \/
 ∃ kq nq dq,(kq < hi/\nq < hi/\dq < hi)/\kv = .ptr kq 0/\G kq = .box [.imm (.lst (p.srcs.map sv)), .imm (.lst (p.defs.map Dfn.iv)), .map nq, .row dq D.length, .imm (.fmp wayKs wayVs)] false /\
  G nq = .mp (numKs p) ((numVs p).map .imm) false/\RowsL 153 132 dq lo hi G D
theorem KnV.frame {p:Pgm} {lo hi lo' hi':Nat} {G G':Nat->Obj} {kv:AV} {D:List (List Lg)} (h:KnV p lo hi G kv D) (h0:lo'<=lo) (hh:hi<=hi') (hG:∀ o,o < hi->G' o=G o):KnV p lo' hi' G' kv D:=by
 rcases h with h|⟨kq,nq,dq,⟨h1,h2,h3⟩,h4,h5,h6,h7⟩
 ·exact .inl h
 ·exact .inr ⟨kq,nq,dq,⟨by omega,by omega,by omega⟩,h4,by rw [hG kq h1];exact h5,by rw [hG nq h2];exact h6,h7.frame (hG dq h3) h0 hh fun o _ ho _=>hG o ho⟩
theorem cal450 {op n fold:Int} {name:Str} {calcs:List Trm} {kids:List Exp} {eb:Nat} {fr:Bool} {a:Lg} {i:Nat} {G:Nat->Obj} {nx:Nat} (hk:a.Ok) (ha:a.In 4294967295) (hn : -50<=n/\n<=50) (he:G eb = .box ((Exp.mk op name n fold calcs kids).iv.cells.map .imm) fr) (hlt:eb < nx) :
  Cal CC 150 [.imm (natIV i), .imm a.iv, .ptr eb 0] G nx fun v G' nx'=>v = .imm (a.thru false n (-n)).iv/\nx<=nx'/\∀ o,o < nx->G' o=G o:=by
 have h1:=ret451 (bk:=n) (ah := -n) hk ha.wide (by omega) (by omega)
 generalize a.thru=A at *
 obtain ⟨on,e,b,f⟩:=a
 rw [Lg.iv_mk] at *
 refine Cal.of (fn:=Go.Proofs.Tryz.f150) (by kernel_rfl) rfl rfl ?_
 refine BN ?_
 exact W.retFinCA rfl (upd_same ..) rfl rfl ⟨rfl,by omega,fun o ho=>at_upd⟩
theorem cal452 {p:Pgm} {E:List (List Lg)} {kv lv:AV} {L:List Lg} {op n fold:Int} {name:Str} {calcs:List Trm} {kids:List Exp} {kb eb lb ib lo hi hi2 i s:Nat} {fr:Bool} {a:Lg} {G:Nat->Obj} {nx:Nat} (hL:(L.getD s Lg.z).Ok) (hLi:(L.getD s Lg.z).In 4294967295) (hn : -50<=n/\n<=50) (hop:4<=op/\op<=15) (hi1:i<=1) (hs:s < L.length)
  (hk:KnV p lo hi G kv E) (hk1:G kb = .box [kv] false) (he:G eb = .box ((Exp.mk op name n fold calcs kids).iv.cells.map .imm) fr) (hl:RowV 153 0 hi2 G lv L) (hl1:G lb = .box [lv] false) (hib:G ib = .box [.imm (natIV i)] false) (hlt:kb < nx/\eb < nx/\lb < nx/\ib < nx/\hi<=nx/\hi2<=nx) :
  Cal CC 152 [.imm (natIV s), .imm a.iv, .ptr kb 0, .ptr eb 0, .ptr lb 0, .ptr ib 0] G nx fun v G' nx'=>v = .imm (a.both (kidL op n i (L.getD s Lg.z))).iv/\nx<=nx'/\∀ o,o < nx->G' o=G o:=by
 have hway:=retWay (op:=op) (i:=i) hL hLi hn hi1
 have hwl:=wayLook hop
 have h453:=ret453 (a:=a) (b:=kidL op n i (L.getD s Lg.z))
 refine Cal.of (fn:=Go.Proofs.Tryz.f152) (by kernel_rfl) rfl rfl ?_
 rcases hk with rfl|⟨kq,nq,dq,⟨h1,h2,h3⟩,rfl,h5,h6,h7⟩
 all_goals
  refine BN ?_
  refine D.lagAt (hl.frame (Nat.le_refl _) (Nat.le_refl _) fun o _ ho _=>at_upd) hs rfl ⟨rfl,rfl⟩ rfl rfl rfl rfl fun a2 rd1 rd2=>?_
  refine BB ?_
  exact W.retFinCA rfl (upd_same ..) rfl rfl ⟨rfl,by omega,fun o ho=>at_upd⟩
end Go.Abs

/- A list of what becomes of each element of another one. -/
open Go Go.Abs
namespace Go.Abs
set_option maxRecDepth 100000
set_option maxHeartbeats 4000000
theorem mapIdx_take {α β:Type} {g:Nat->α->β} {l:List α} {i:Nat} {x:α} (h:l[i]? = some x):(l.take (i+1)).mapIdx g=(l.take i).mapIdx g++[g i x]:=by
 have hlt:=(List.getElem?_eq_some_iff.1 h).1
 rw [List.take_add_one,h]
 simp only [Option.toList,List.mapIdx_concat,List.length_take,Nat.min_eq_left (Nat.le_of_lt hlt)]
section
variable {f:FuncId} {cap:List AV} {fv v:AV} {l:List Lg} {g:Nat->Lg->IV} {lo hi nx:Nat} {G:Nat->Obj}
theorem cal439 (hfn:fnOf fv=some (.func f,cap)) (hb:CC.byref f=true) (hg:∀ i x,(AV.imm (g i x)).fits 4=true) (hr:RowV 153 lo hi G v l) (hh:hi<=nx) (hl:l.length<=1000)
  (hf:∀ i x,l[i]? = some x->∀ G' nx',nx<=nx'->(∀ o,o < nx->G' o=G o)->Cal CC f ([.imm (natIV i), .imm x.iv]++cap) G' nx' fun v G2 nx2=>v = .imm (g i x)/\nx'<=nx2/\∀ o,o < nx'->G2 o=G' o) :
  Cal CC 139 [v,fv] G nx fun v' G' nx'=>Own 153 4 nx nx' (l.mapIdx g) G' v'/\nx<=nx'/\∀ o,o < nx->G' o=G o:=by
 have hlv:∀ G',(∀ o,o < nx->G' o=G o)->lenA G' (.sl 153) v=some l.length:=fun G' hG'=>by
  rcases hr with rfl|⟨q,fr,_,hq,rfl,hGq⟩
  ·show some _=_;rw [List.length_map,List.length_map]
  ·simp [lenA,elems,hG' q (by omega),hGq]
 refine Cal.of (fn:=Go.Proofs.Tryz.f139) (by kernel_rfl) rfl rfl ?_
 refine BN ?_
 refine R.op0 (O.len rfl (hlv G fun _ _=>rfl)) rfl ?_
 refine BN ?_
 refine W.loop (X:=Nat×AV) (fun s=>[(0,v),(1,fv),(5,s.2),(8,v),(9, .imm (.int .i64 l.length)),(10, .imm (.int .i64 s.1))])
  (fun s nx1 G1=>s.1<=l.length/\nx<=nx1/\Own 153 4 nx nx1 ((l.take s.1).mapIdx g) G1 s.2/\∀ o,o < nx->G1 o=G o) (fun s=>l.length-s.1) (0, .nils) .auto ⟨Nat.zero_le _,by omega, .inl ⟨rfl,rfl⟩,fun _ _=>rfl⟩ ?_
 rintro ⟨i,w⟩ nx1 G1 ⟨hi1,hnx,ho,hG1⟩
 dsimp only at hi1 ho ⊢
 have hr1:=hr.frame (Nat.le_refl _) (Nat.le_refl _) fun o _ ho _=>hG1 o (Nat.lt_of_lt_of_le ho hh)
 refine BN ?_
 refine W.cond rfl (fun h1=>?_) (fun h1=>?_)
 ·have hlt:i < l.length:=by have:=of_decide_eq_true h1;omega
  have hx:=List.getElem?_eq_getElem hlt
  have hgd:l.getD i Lg.z=l[i]:=by rw [List.getD_eq_getElem?_getD,hx];rfl
  have hmu:l.length-(i+1) < l.length-i:=by omega
  have htk:=mapIdx_take (g:=g) hx
  have hc:=hf i _ hx
  have hgf:=hg i l[i]
  have htl:((l.take i).mapIdx g).length<=1000:=by rw [List.length_mapIdx,List.length_take];omega
  refine BN ?_
  refine R.lagAt hr1 hlt rfl ⟨rfl,rfl⟩ rfl rfl rfl rfl fun a=>?_
  rw [hgd]
  refine BN ?_
  refine R.callB rfl hfn hb rfl rfl ((hc _ _ (by omega) fun o ho=>Eq.trans at_upd (hG1 o ho)).mono fun v2 G2 nx2 hv=>?_)
  obtain ⟨rfl,hn2,hG2⟩:=hv
  refine BN ?_
  refine R.op1 (O.buildX (xs:=[.imm (g i l[i])]) rfl inferInstance rfl rfl (by decide) rfl (by show ([AV.imm (g i l[i])].all (AV.fits 4))=true;simp [hgf]) (by decide)) rfl ?_
  refine R.app1 ho at_upd (by simp only [most];omega) (fun v' G' ho' hG'=>?_) (hG:=fun o h1 h2=>Eq.trans (upd_ne _ _ _ _ (by omega)) (Eq.trans (hG2 o (by omega)) at_upd))
  refine BN ?_
  refine W.skipLop (i+1,v') hmu .auto ⟨hlt,by omega,?_,fun o ho=>?_⟩
  ·show Own _ _ _ _ ((l.take (i+1)).mapIdx g) _ _
   rw [htk]
   exact ho'.up (by omega)
  ·rw [hG' o ho]
   exact Eq.trans (upd_ne _ _ _ _ (by omega)) (Eq.trans (hG2 o (by omega)) (Eq.trans at_upd (hG1 o ho)))
 ·have hge:l.length<=i:=by have:=of_decide_eq_false h1;omega
  rw [List.take_of_length_le hge] at ho
  refine BN ?_
  exact W.retFin1 rfl ⟨ho.up (by omega),by omega,hG1⟩
theorem cal443 (hfn:fnOf fv=some (.func f,cap)) (hb:CC.byref f=true) (hg:∀ i x,(AV.imm (g i x)).fits 4=true) (hr:RowV 153 lo hi G v l) (hh:hi<=nx) (hl:l.length<=1000)
  (hf:∀ i x,l[i]? = some x->∀ G' nx',nx<=nx'->(∀ o,o < nx->G' o=G o)->Cal CC f ([.imm (natIV i), .imm x.iv]++cap) G' nx' fun v G2 nx2=>v = .imm (g i x)/\nx'<=nx2/\∀ o,o < nx'->G2 o=G' o) :
  Cal CC 143 [v,fv] G nx fun v' G' nx'=>Own 147 4 nx nx' (l.mapIdx g) G' v'/\nx<=nx'/\∀ o,o < nx->G' o=G o:=by
 have hlv:∀ G',(∀ o,o < nx->G' o=G o)->lenA G' (.sl 153) v=some l.length:=fun G' hG'=>by
  rcases hr with rfl|⟨q,fr,_,hq,rfl,hGq⟩
  ·show some _=_;rw [List.length_map,List.length_map]
  ·simp [lenA,elems,hG' q (by omega),hGq]
 refine Cal.of (fn:=Go.Proofs.Tryz.f143) (by kernel_rfl) rfl rfl ?_
 refine BN ?_
 refine R.op0 (O.len rfl (hlv G fun _ _=>rfl)) rfl ?_
 refine BN ?_
 refine W.loop (X:=Nat×AV) (fun s=>[(0,v),(1,fv),(5,s.2),(8,v),(9, .imm (.int .i64 l.length)),(10, .imm (.int .i64 s.1))])
  (fun s nx1 G1=>s.1<=l.length/\nx<=nx1/\Own 147 4 nx nx1 ((l.take s.1).mapIdx g) G1 s.2/\∀ o,o < nx->G1 o=G o) (fun s=>l.length-s.1) (0, .nils) .auto ⟨Nat.zero_le _,by omega, .inl ⟨rfl,rfl⟩,fun _ _=>rfl⟩ ?_
 rintro ⟨i,w⟩ nx1 G1 ⟨hi1,hnx,ho,hG1⟩
 dsimp only at hi1 ho ⊢
 have hr1:=hr.frame (Nat.le_refl _) (Nat.le_refl _) fun o _ ho _=>hG1 o (Nat.lt_of_lt_of_le ho hh)
 refine BN ?_
 refine W.cond rfl (fun h1=>?_) (fun h1=>?_)
 ·have hlt:i < l.length:=by have:=of_decide_eq_true h1;omega
  have hx:=List.getElem?_eq_getElem hlt
  have hgd:l.getD i Lg.z=l[i]:=by rw [List.getD_eq_getElem?_getD,hx];rfl
  have hmu:l.length-(i+1) < l.length-i:=by omega
  have htk:=mapIdx_take (g:=g) hx
  have hc:=hf i _ hx
  have hgf:=hg i l[i]
  have htl:((l.take i).mapIdx g).length<=1000:=by rw [List.length_mapIdx,List.length_take];omega
  refine BN ?_
  refine R.lagAt hr1 hlt rfl ⟨rfl,rfl⟩ rfl rfl rfl rfl fun a=>?_
  rw [hgd]
  refine BN ?_
  refine R.callB rfl hfn hb rfl rfl ((hc _ _ (by omega) fun o ho=>Eq.trans at_upd (hG1 o ho)).mono fun v2 G2 nx2 hv=>?_)
  obtain ⟨rfl,hn2,hG2⟩:=hv
  refine BN ?_
  refine R.op1 (O.buildX (xs:=[.imm (g i l[i])]) rfl inferInstance rfl rfl (by decide) rfl (by show ([AV.imm (g i l[i])].all (AV.fits 4))=true;simp [hgf]) (by decide)) rfl ?_
  refine R.app1 ho at_upd (by simp only [most];omega) (fun v' G' ho' hG'=>?_) (hG:=fun o h1 h2=>Eq.trans (upd_ne _ _ _ _ (by omega)) (Eq.trans (hG2 o (by omega)) at_upd))
  refine BN ?_
  refine W.skipLop (i+1,v') hmu .auto ⟨hlt,by omega,?_,fun o ho=>?_⟩
  ·show Own _ _ _ _ ((l.take (i+1)).mapIdx g) _ _
   rw [htk]
   exact ho'.up (by omega)
  ·rw [hG' o ho]
   exact Eq.trans (upd_ne _ _ _ _ (by omega)) (Eq.trans (hG2 o (by omega)) (Eq.trans at_upd (hG1 o ho)))
 ·have hge:l.length<=i:=by have:=of_decide_eq_false h1;omega
  rw [List.take_of_length_le hge] at ho
  refine BN ?_
  exact W.retFin1 rfl ⟨ho.up (by omega),by omega,hG1⟩
theorem cal389 (hfn:fnOf fv=some (.func f,cap)) (hb:CC.byref f=true) (hg:∀ i x,(AV.imm (g i x)).fits 1=true) (hr:RowV 153 lo hi G v l) (hh:hi<=nx) (hl:l.length<=1000)
  (hf:∀ i x,l[i]? = some x->∀ G' nx',nx<=nx'->(∀ o,o < nx->G' o=G o)->Cal CC f ([.imm (natIV i), .imm x.iv]++cap) G' nx' fun v G2 nx2=>v = .imm (g i x)/\nx'<=nx2/\∀ o,o < nx'->G2 o=G' o) :
  Cal CC 89 [v,fv] G nx fun v' G' nx'=>Own 4 1 nx nx' (l.mapIdx g) G' v'/\nx<=nx'/\∀ o,o < nx->G' o=G o:=by
 have hlv:∀ G',(∀ o,o < nx->G' o=G o)->lenA G' (.sl 153) v=some l.length:=fun G' hG'=>by
  rcases hr with rfl|⟨q,fr,_,hq,rfl,hGq⟩
  ·show some _=_;rw [List.length_map,List.length_map]
  ·simp [lenA,elems,hG' q (by omega),hGq]
 refine Cal.of (fn:=Go.Proofs.Tryz.f89) (by kernel_rfl) rfl rfl ?_
 refine BN ?_
 refine R.op0 (O.len rfl (hlv G fun _ _=>rfl)) rfl ?_
 refine BN ?_
 refine W.loop (X:=Nat×AV) (fun s=>[(0,v),(1,fv),(5,s.2),(8,v),(9, .imm (.int .i64 l.length)),(10, .imm (.int .i64 s.1))])
  (fun s nx1 G1=>s.1<=l.length/\nx<=nx1/\Own 4 1 nx nx1 ((l.take s.1).mapIdx g) G1 s.2/\∀ o,o < nx->G1 o=G o) (fun s=>l.length-s.1) (0, .nils) .auto ⟨Nat.zero_le _,by omega, .inl ⟨rfl,rfl⟩,fun _ _=>rfl⟩ ?_
 rintro ⟨i,w⟩ nx1 G1 ⟨hi1,hnx,ho,hG1⟩
 dsimp only at hi1 ho ⊢
 have hr1:=hr.frame (Nat.le_refl _) (Nat.le_refl _) fun o _ ho _=>hG1 o (Nat.lt_of_lt_of_le ho hh)
 refine BN ?_
 refine W.cond rfl (fun h1=>?_) (fun h1=>?_)
 ·have hlt:i < l.length:=by have:=of_decide_eq_true h1;omega
  have hx:=List.getElem?_eq_getElem hlt
  have hgd:l.getD i Lg.z=l[i]:=by rw [List.getD_eq_getElem?_getD,hx];rfl
  have hmu:l.length-(i+1) < l.length-i:=by omega
  have htk:=mapIdx_take (g:=g) hx
  have hc:=hf i _ hx
  have hgf:=hg i l[i]
  have htl:((l.take i).mapIdx g).length<=1000:=by rw [List.length_mapIdx,List.length_take];omega
  refine BN ?_
  refine R.lagAt hr1 hlt rfl ⟨rfl,rfl⟩ rfl rfl rfl rfl fun a=>?_
  rw [hgd]
  refine BN ?_
  refine R.callB rfl hfn hb rfl rfl ((hc _ _ (by omega) fun o ho=>Eq.trans at_upd (hG1 o ho)).mono fun v2 G2 nx2 hv=>?_)
  obtain ⟨rfl,hn2,hG2⟩:=hv
  refine BN ?_
  refine R.op1 (O.buildX (xs:=[.imm (g i l[i])]) rfl inferInstance rfl rfl (by decide) rfl (by show ([AV.imm (g i l[i])].all (AV.fits 1))=true;simp [hgf]) (by decide)) rfl ?_
  refine R.app1 ho at_upd (by simp only [most];omega) (fun v' G' ho' hG'=>?_) (hG:=fun o h1 h2=>Eq.trans (upd_ne _ _ _ _ (by omega)) (Eq.trans (hG2 o (by omega)) at_upd))
  refine BN ?_
  refine W.skipLop (i+1,v') hmu .auto ⟨hlt,by omega,?_,fun o ho=>?_⟩
  ·show Own _ _ _ _ ((l.take (i+1)).mapIdx g) _ _
   rw [htk]
   exact ho'.up (by omega)
  ·rw [hG' o ho]
   exact Eq.trans (upd_ne _ _ _ _ (by omega)) (Eq.trans (hG2 o (by omega)) (Eq.trans at_upd (hG1 o ho)))
 ·have hge:l.length<=i:=by have:=of_decide_eq_false h1;omega
  rw [List.take_of_length_le hge] at ho
  refine BN ?_
  exact W.retFin1 rfl ⟨ho.up (by omega),by omega,hG1⟩
theorem cal393 (hfn:fnOf fv=some (.func f,cap)) (hb:CC.byref f=true) (hg:∀ i x,(AV.imm (g i x)).fits 1=true) (hr:RowV 153 lo hi G v l) (hh:hi<=nx) (hl:l.length<=1000)
  (hf:∀ i x,l[i]? = some x->∀ G' nx',nx<=nx'->(∀ o,o < nx->G' o=G o)->Cal CC f ([.imm (natIV i), .imm x.iv]++cap) G' nx' fun v G2 nx2=>v = .imm (g i x)/\nx'<=nx2/\∀ o,o < nx'->G2 o=G' o) :
  Cal CC 93 [v,fv] G nx fun v' G' nx'=>Own 3 1 nx nx' (l.mapIdx g) G' v'/\nx<=nx'/\∀ o,o < nx->G' o=G o:=by
 have hlv:∀ G',(∀ o,o < nx->G' o=G o)->lenA G' (.sl 153) v=some l.length:=fun G' hG'=>by
  rcases hr with rfl|⟨q,fr,_,hq,rfl,hGq⟩
  ·show some _=_;rw [List.length_map,List.length_map]
  ·simp [lenA,elems,hG' q (by omega),hGq]
 refine Cal.of (fn:=Go.Proofs.Tryz.f93) (by kernel_rfl) rfl rfl ?_
 refine BN ?_
 refine R.op0 (O.len rfl (hlv G fun _ _=>rfl)) rfl ?_
 refine BN ?_
 refine W.loop (X:=Nat×AV) (fun s=>[(0,v),(1,fv),(5,s.2),(8,v),(9, .imm (.int .i64 l.length)),(10, .imm (.int .i64 s.1))])
  (fun s nx1 G1=>s.1<=l.length/\nx<=nx1/\Own 3 1 nx nx1 ((l.take s.1).mapIdx g) G1 s.2/\∀ o,o < nx->G1 o=G o) (fun s=>l.length-s.1) (0, .nils) .auto ⟨Nat.zero_le _,by omega, .inl ⟨rfl,rfl⟩,fun _ _=>rfl⟩ ?_
 rintro ⟨i,w⟩ nx1 G1 ⟨hi1,hnx,ho,hG1⟩
 dsimp only at hi1 ho ⊢
 have hr1:=hr.frame (Nat.le_refl _) (Nat.le_refl _) fun o _ ho _=>hG1 o (Nat.lt_of_lt_of_le ho hh)
 refine BN ?_
 refine W.cond rfl (fun h1=>?_) (fun h1=>?_)
 ·have hlt:i < l.length:=by have:=of_decide_eq_true h1;omega
  have hx:=List.getElem?_eq_getElem hlt
  have hgd:l.getD i Lg.z=l[i]:=by rw [List.getD_eq_getElem?_getD,hx];rfl
  have hmu:l.length-(i+1) < l.length-i:=by omega
  have htk:=mapIdx_take (g:=g) hx
  have hc:=hf i _ hx
  have hgf:=hg i l[i]
  have htl:((l.take i).mapIdx g).length<=1000:=by rw [List.length_mapIdx,List.length_take];omega
  refine BN ?_
  refine R.lagAt hr1 hlt rfl ⟨rfl,rfl⟩ rfl rfl rfl rfl fun a=>?_
  rw [hgd]
  refine BN ?_
  refine R.callB rfl hfn hb rfl rfl ((hc _ _ (by omega) fun o ho=>Eq.trans at_upd (hG1 o ho)).mono fun v2 G2 nx2 hv=>?_)
  obtain ⟨rfl,hn2,hG2⟩:=hv
  refine BN ?_
  refine R.op1 (O.buildX (xs:=[.imm (g i l[i])]) rfl inferInstance rfl rfl (by decide) rfl (by show ([AV.imm (g i l[i])].all (AV.fits 1))=true;simp [hgf]) (by decide)) rfl ?_
  refine R.app1 ho at_upd (by simp only [most];omega) (fun v' G' ho' hG'=>?_) (hG:=fun o h1 h2=>Eq.trans (upd_ne _ _ _ _ (by omega)) (Eq.trans (hG2 o (by omega)) at_upd))
  refine BN ?_
  refine W.skipLop (i+1,v') hmu .auto ⟨hlt,by omega,?_,fun o ho=>?_⟩
  ·show Own _ _ _ _ ((l.take (i+1)).mapIdx g) _ _
   rw [htk]
   exact ho'.up (by omega)
  ·rw [hG' o ho]
   exact Eq.trans (upd_ne _ _ _ _ (by omega)) (Eq.trans (hG2 o (by omega)) (Eq.trans at_upd (hG1 o ho)))
 ·have hge:l.length<=i:=by have:=of_decide_eq_false h1;omega
  rw [List.take_of_length_le hge] at ho
  refine BN ?_
  exact W.retFin1 rfl ⟨ho.up (by omega),by omega,hG1⟩
end
end Go.Abs

/- The program: how an expression depends on each source. -/
open Go Go.Abs
namespace Go.Abs
set_option maxRecDepth 100000
set_option maxHeartbeats 4000000
theorem kvMap {G:Nat->Obj} {q:Nat} {ks:List IV} {vs:List AV} {fr:Bool} (h:G q = .mp ks vs fr):mapKV G (.map q)=some (ks,vs):=by simp only [mapKV,h]
theorem getD_map {L:List Lg} {n:Nat} (hl:L.length=n) (f:Lg->Lg):(List.range n).map (fun s=>f (L.getD s Lg.z))=L.map f:=by
 refine List.ext_getElem? fun s=>?_
 simp only [List.getElem?_map]
 by_cases hs:s < n
 ·rw [List.getElem?_range hs,List.getElem?_eq_getElem (by omega)]
  simp [List.getD_eq_getElem?_getD,List.getElem?_eq_getElem (show s < L.length by omega)]
 ·rw [List.getElem?_eq_none (by simp;omega),List.getElem?_eq_none (by omega)];rfl
theorem mapIdx_map {L:List Lg} (f:Lg->Lg):L.mapIdx (fun _ x=>(f x).iv)=(L.map f).map Lg.iv:=by
 refine List.ext_getElem? fun s=>?_
 simp [List.getElem?_mapIdx,Function.comp_def]
theorem cal382 {p:Pgm} (hp:p.Fits) (hpr:progR p=true) {E:List (List Lg)} {K:Int} (hK:0<=K/\K<=4000000000) (hW:Wide p E) (hI:InL K E):∀ (m:Nat) (e:Exp),(allE e).length<=m->m<=1000->(∀ x∈allE e,NodeP p x) ->
  ∀ {G:Nat->Obj} {nx lo hi:Nat} {kv:AV},KnV p lo hi G kv E->hi<=nx ->
  Cal CC 82 [kv, .imm e.iv] G nx fun v G' nx'=>RowL 153 nx nx' G' v (allL p E e)/\nx<=nx'/\∀ q,q < nx->G' q=G q
 |0, .mk op name n fold calcs kids,h,_,_,_,_,_,_,_,_,_=>by rw [allE] at h;simp at h
 |m+1, .mk op name n fold calcs kids,h,hm,hN,G,nx,lo,hi,kv,hR,hh=>by
  have hb:=hN (.mk op name n fold calcs kids) (by rw [allE];exact List.mem_cons_self ..)
  have hn50 : -50<=n/\n<=50:=hb.b.n
  have hsm:=progR_small hpr
  have h6:=hsm.len
  have h4:=hsm.srcs
  have hpt:=progR_parts hpr
  have hsp:1<=p.srcs.length:=hpt.2.1.1
  have hnd:(p.srcs++p.defs.map Dfn.name).Nodup:=hpt.1
  have hDl:=hW.len
  have hm':m<=1000:=by omega
  have ih:=fun e h1 h2 G nx lo hi kv=>@cal382 p hp hpr E K hK hW hI m e h1 hm' h2 G nx lo hi kv
  unfold allL at *
  have hsm2':((List.map sv p.srcs).length:Int)=(p.srcs.length:Int):=by rw [List.length_map]
  rcases Classical.em (op=1) with rfl|h1
  ·have hs:=hb.src rfl
   have hs:name∈p.srcs:=hs
   have hlt:=idxN_lt hs
   have bA:((1:Int)==1)=true:=rfl
   refine Cal.of (fn:=Go.Proofs.Tryz.f82) (by kernel_rfl) rfl rfl ?_
   rcases hR with rfl|⟨kq,nq,dq,⟨k1,k2,k3⟩,rfl,k5,k6,k7⟩
   all_goals
    refine BN ?_
    refine R.op1 (O.makeL (n:=p.srcs.length) (fun _=>Lg.z) rfl inferInstance ⟨rfl,rfl,by decide⟩ rfl rfl hsm2' (by omega)) rfl ?_
    refine BN ?_
    refine D.op0 (O.lookA (kv:=some (numKs p,(numVs p).map .imm)) rfl inferInstance inferInstance rfl rfl (by first|exact rfl|exact kvMap at_upd) (numSrc hs)) rfl rfl ?_
    refine D.op0 (O.addrRX rfl inferInstance rfl rfl at_upd mixL_ivlen (by omega) rfl) rfl rfl ?_
    refine BN ?_
    refine D.opN1 (O.storeRS (by decide) rfl rfl rfl at_upd mixL_ivlen (mixL_ivat0 hlt) rfl rfl) rfl ?_
    refine BB ?_
    refine W.retFin1 rfl ⟨⟨nx+3+6,false,by omega,by omega,by simp,?_⟩,by omega,fun q hq=>at_upd⟩
    have hx:∀ s,expG p.srcs (p.defs.map Dfn.name) (colD E s) s (.mk 1 name n fold calcs kids)=if idxN p.srcs name=s then ⟨true,false,0,0⟩ else Lg.z:=fun s=>by rw [expG,if_pos rfl]
    simp only [hx]
    rw [upd_same,Int.toNat_natCast]
    exact congrArg (fun x=>Obj.row 153 4 x false) (mixL_one (f:=fun _=>Lg.z) (a:=⟨true,false,0,0⟩) hlt)
  ·have bA:(op==1)=false:=by simpa using h1
   rcases Classical.em (op=2\/op=3) with h23|h23
   ·have hs:=(hb.ref h23).2
    have hs:name∈p.defs.map Dfn.name:=hs
    have hns:name∉p.srcs:=fun hc=>(List.nodup_append.1 hnd).2.2 name hc name hs rfl
    have hnum:=fun (_:True)=>numDef hs hns
    have hlt:=idxN_lt hs
    rw [List.length_map] at hlt
    have hx:∀ s,expG p.srcs (p.defs.map Dfn.name) (colD E s) s (.mk op name n fold calcs kids)=(colD E s (idxN (p.defs.map Dfn.name) name)).thru false n (-n):=fun s=>by rw [expG,if_neg h1,if_pos h23]
    simp only [hx]
    generalize idxN (p.defs.map Dfn.name) name=j at *
    obtain ⟨L,hL⟩:∃ L,E[j]? = some L:=at_lt (by omega)
    have hcol:∀ s,colD E s j=L.getD s Lg.z:=fun s=>(colD_at hL s).symm
    simp only [hcol]
    have hLl:L.length=p.srcs.length:=hW.row L (List.mem_of_getElem? hL)
    rw [getD_map hLl fun a=>a.thru false n (-n)]
    have hLm:=List.mem_of_getElem? hL
    have hLk:∀ a∈L,a.Ok:=fun a ha=>hW.ok L hLm a ha
    have hLi:∀ a∈L,a.In 4294967295:=fun a ha=>(hI L hLm a ha).mono (by omega)
    have hne:L.map (fun a=>a.thru false n (-n))≠[]:=fun hc=>by rw [List.map_eq_nil_iff.1 hc,List.length_nil] at hLl;omega
    have b23:(op==2)=true\/((op==2)=false/\(op==3)=true):=by rcases h23 with rfl|rfl<;>simp
    refine Cal.of (fn:=Go.Proofs.Tryz.f82) (by kernel_rfl) rfl rfl ?_
    rcases hR with rfl|⟨kq,nq,dq,⟨k1,k2,k3⟩,rfl,k5,k6,k7⟩<;>rcases b23 with b2|⟨b2,b3⟩
    all_goals
     refine BN ?_
     refine R.op1 (O.makeL (n:=p.srcs.length) (fun _=>Lg.z) rfl inferInstance ⟨rfl,rfl,by decide⟩ rfl rfl hsm2' (by omega)) rfl ?_
     refine BN ?_
     refine D.op0 (O.lookA (kv:=some (numKs p,(numVs p).map .imm)) rfl inferInstance inferInstance rfl rfl (by first|exact rfl|exact kvMap at_upd) (hnum trivial)) rfl rfl ?_
     refine D.rowAt (E:=E) (lo:=lo) (hi:=hi) (et:=153) (by first|exact .inl rfl|exact .inr ⟨dq,k3,rfl,k7.frame at_upd (Nat.le_refl _) (Nat.le_refl _) fun o _ ho _=>at_upd⟩) hL rfl ⟨rfl,rfl⟩ rfl rfl rfl rfl fun a w rd1 rd2 hw=>?_
     refine BN ?_
     refine D.callB rfl rfl rfl rfl rfl (by kernel_rfl) ((cal439 (g:=fun _ x=>(x.thru false n (-n)).iv) rfl rfl (fun _ _=>rfl) hw (by omega) (by omega) fun i x hx G' nx' h5 h6=>cal450 (hLk x (List.mem_of_getElem? hx)) (hLi x (List.mem_of_getElem? hx)) hn50 ((h6 _ (by omega)).trans at_upd) (by omega)).mono fun v G2 nx2 hv=>?_)
     obtain ⟨ho,hn2,hG2⟩:=hv
     rw [mapIdx_map fun a=>a.thru false n (-n)] at ho
     refine BN ?_
     exact W.retFin1 rfl ⟨(ho.rowL hne).frame (by omega) (by omega) fun _ _ _ _=>rfl,by omega,fun q hq=>(hG2 q (by omega)).trans at_upd⟩
   ·have b2:(op==2)=false:=by simpa using fun h=>h23 (.inl h)
    have b3:(op==3)=false:=by simpa using fun h=>h23 (.inr h)
    have hx:∀ s,expG p.srcs (p.defs.map Dfn.name) (colD E s) s (.mk op name n fold calcs kids)=kidsG p.srcs (p.defs.map Dfn.name) (colD E s) s op n kids 0 Lg.z:=fun s=>by rw [expG,if_neg h1,if_neg h23]
    simp only [hx]
    have hkl:kids.length<=2:=hb.b.kids
    have hop:=hb.b.op
    have hop:1<=op/\op<=15:=hop
    have hop4:4<=op/\op<=15:=by omega
    have hkm:(Exp.ivs kids).length=kids.length:=ivs_len kids
    have hle:(allEs kids).length<=m:=by rw [allE,List.length_cons] at h;omega
    have hNk:∀ x∈allEs kids,NodeP p x:=fun x hx=>hN x (by rw [allE];exact List.mem_cons_of_mem _ hx)
    generalize p.defs.map Dfn.name=names at *
    refine Cal.of (fn:=Go.Proofs.Tryz.f82) (by kernel_rfl) rfl rfl ?_
    have hR0:=hR
    rcases hR with rfl|⟨kq,nq,dq,⟨k1,k2,k3⟩,rfl,k5,k6,k7⟩
    all_goals
     refine BN ?_
     refine R.op1 (O.makeL (n:=p.srcs.length) (fun _=>Lg.z) rfl inferInstance ⟨rfl,rfl,by decide⟩ rfl rfl hsm2' (by omega)) rfl ?_
     refine BN ?_
     refine W.loop (X:=Nat×AV) (fun s=>[(2, .ptr (nx+0) 0),(3, .ptr (nx+1) 0),(5,s.2),(50, .imm (.lst (Exp.ivs kids))),(51, .imm (.int .i64 (Exp.ivs kids).length)),(52, .imm (.int .i64 s.1))])
      (fun s nx1 G1=>nx+10<=nx1/\s.1<=kids.length/\G1 (nx+0) = .box [_] false/\G1 (nx+1) = .box ((Exp.mk op name n fold calcs kids).iv.cells.map .imm) false /\
       RowL 153 nx nx1 G1 s.2 ((List.range p.srcs.length).map fun c=>kidsG p.srcs names (colD E c) c op n (kids.take s.1) 0 Lg.z)/\∀ o,o < nx->G1 o=G o)
      (fun s=>kids.length-s.1) (0, .row (nx+3+6) p.srcs.length) .auto ⟨by omega,Nat.zero_le _,at_upd,at_upd,⟨nx+3+6,false,by omega,by omega,by simp,?_⟩,fun o ho=>at_upd⟩ ?_
     ·refine (upd_same ..).trans ?_
      rw [mixL_zero]
      simp only [List.take_zero,kidsG]
     rintro ⟨i,u⟩ nx1 G1 ⟨hnx,hi1,g0,g1,hu,hG1⟩
     dsimp only at hi1 hu ⊢
     refine BN ?_
     refine W.cond rfl (fun h2=>?_) (fun h2=>?_)
     ·have hlt:i < kids.length:=by have:=of_decide_eq_true h2;omega
      obtain ⟨x,hx⟩:=at_lt hlt
      have hxi:=ivs_at hx
      have hmu:kids.length-(i+1) < kids.length-i:=by omega
      have hxm:=List.mem_of_getElem? hx
      have hxl:=allE_kid hxm
      have hih:=fun (G2:Nat->Obj) nx2 (h:nx<=nx2) (h':∀ o,o < nx->G2 o=G o)=>ih x (by omega) (fun y hy=>hNk y (allEs_mem hxm hy)) G2 nx2 lo nx _ (hR0.frame (Nat.le_refl _) hh fun o ho=>h' o (by omega)) (by omega)
      have htk:=fun s=>kidsG_take (srcs:=p.srcs) (names:=names) (v:=colD E s) (s:=s) (op:=op) (n:=n) hx
      have hxin:∀ s,(expG p.srcs names (colD E s) s x).In 4294967295:=fun s=>(expG_in p.srcs names hK.1 (hI.col hK.1 s) s x fun y hy=>(hNk y (allEs_mem hxm hy)).b).mono (by omega)
      have hxok:∀ s,(expG p.srcs names (colD E s) s x).Ok:=fun s=>expG_ok p.srcs names (hW.col s) s x
      generalize hX:(fun s=>expG p.srcs names (colD E s) s x)=X at *
      have hX':∀ s,expG p.srcs names (colD E s) s x=X s:=fun s=>congrFun hX s
      simp only [hX'] at htk hxin hxok
      have hXs:∀ s,s < p.srcs.length->((List.range p.srcs.length).map X).getD s Lg.z=X s:=fun s hs=>by simp [List.getD_eq_getElem?_getD,hs]
      obtain ⟨o',s',n',f',c',k'⟩:=x
      refine BN ?_
      refine R.callB rfl rfl rfl rfl rfl ((hih _ _ (by omega) fun o ho=>Eq.trans at_upd (hG1 o ho)).mono fun v G2 nx2 hv=>?_)
      obtain ⟨hv,hnx2,hG2⟩:=hv
      refine BN ?_
      have c1:∀ o,o < nx1->G2 o=G1 o:=fun o ho=>(hG2 o (by omega)).trans at_upd
      have c6:G2 (nx1+1+3) = .box [.imm (natIV i)] false:=(hG2 _ (by omega)).trans at_upd
      obtain ⟨ov,frv,hv1,hv2,rfl,hv3⟩:=hv
      refine BN ?_
      refine R.callB rfl rfl rfl rfl rfl ((cal439 (l:=(List.range p.srcs.length).map fun c=>kidsG p.srcs names (colD E c) c op n (kids.take i) 0 Lg.z) (lo:=nx) (hi:=nx1) (g:=fun s a=>(a.both (kidL op n i (X s))).iv) rfl rfl (fun _ _=>rfl)
       (.inr (hu.frame (Nat.le_refl _) (Nat.le_refl _) fun o _ ho _=>(upd_ne _ _ _ _ (by omega)).trans ((upd_ne _ _ _ _ (by omega)).trans (c1 o ho)))) (by omega) (by simp;omega) fun s a hx G' nx' h5 h6=>?_).mono fun v4 G4 nx4 hv=>?_)
      ·have hs:s < p.srcs.length:=by have:=(List.getElem?_eq_some_iff.1 hx).1;simpa using this
       have hc:=cal452 (p:=p) (E:=E) (op:=op) (n:=n) (fold:=fold) (name:=name) (calcs:=calcs) (kids:=kids) (kb:=nx+0) (eb:=nx+1) (lb:=nx1+1+7+3) (ib:=nx1+1+3) (lo:=lo) (hi:=hi) (lv := .row ov ((List.range p.srcs.length).map X).length) (hi2:=nx2) (i:=i) (s:=s) (L:=(List.range p.srcs.length).map X) (a:=a) (fr:=false) (G:=G') (nx:=nx')
        (by rw [hXs s hs];exact hxok s) (by rw [hXs s hs];exact hxin s) hn50 hop4 (by omega) (by simpa using hs)
        (hR0.frame (Nat.le_refl _) (Nat.le_refl _) fun o ho=>(h6 o (by omega)).trans ((upd_ne _ _ _ _ (by omega)).trans ((upd_ne _ _ _ _ (by omega)).trans ((c1 o (by omega)).trans (hG1 o (by omega))))))
        ((h6 _ (by omega)).trans ((upd_ne _ _ _ _ (by omega)).trans ((upd_ne _ _ _ _ (by omega)).trans ((c1 _ (by omega)).trans g0))))
        ((h6 _ (by omega)).trans ((upd_ne _ _ _ _ (by omega)).trans ((upd_ne _ _ _ _ (by omega)).trans ((c1 _ (by omega)).trans g1))))
        (.inr ⟨ov,frv,Nat.zero_le _,hv2,rfl,(h6 _ (by omega)).trans ((upd_ne _ _ _ _ (by omega)).trans ((upd_ne _ _ _ _ (by omega)).trans hv3))⟩)
        ((h6 _ (by omega)).trans (upd_same ..)) ((h6 _ (by omega)).trans ((upd_ne _ _ _ _ (by omega)).trans ((upd_ne _ _ _ _ (by omega)).trans c6))) (by omega)
       rw [hXs s hs] at hc
       exact hc
      ·obtain ⟨ho,hn4,hG4⟩:=hv
       have hlst:((List.range p.srcs.length).map fun c=>kidsG p.srcs names (colD E c) c op n (kids.take i) 0 Lg.z).mapIdx (fun s a=>(a.both (kidL op n i (X s))).iv)=((List.range p.srcs.length).map fun c=>kidsG p.srcs names (colD E c) c op n (kids.take (i+1)) 0 Lg.z).map Lg.iv:=by
        refine List.ext_getElem? fun s=>?_
        simp only [List.getElem?_mapIdx,List.getElem?_map,Option.map_map]
        by_cases hs:s < p.srcs.length
        ·rw [List.getElem?_range hs]
         simp only [Option.map_some,Function.comp,htk]
        ·rw [List.getElem?_eq_none (by simpa using hs)];rfl
       rw [hlst] at ho
       have hne:((List.range p.srcs.length).map fun c=>kidsG p.srcs names (colD E c) c op n (kids.take (i+1)) 0 Lg.z)≠[]:=fun hc=>by have:=congrArg List.length hc;rw [List.length_map,List.length_range,List.length_nil] at this;omega
       refine BN ?_
       refine W.skipLop (i+1,v4) hmu .auto ⟨by omega,hlt,?_,?_,(ho.rowL hne).frame (by omega) (by omega) fun _ _ _ _=>rfl,fun o ho=>?_⟩
       ·exact (hG4 _ (by omega)).trans ((upd_ne _ _ _ _ (by omega)).trans ((upd_ne _ _ _ _ (by omega)).trans ((c1 _ (by omega)).trans g0)))
       ·exact (hG4 _ (by omega)).trans ((upd_ne _ _ _ _ (by omega)).trans ((upd_ne _ _ _ _ (by omega)).trans ((c1 _ (by omega)).trans g1)))
       ·exact (hG4 _ (by omega)).trans ((upd_ne _ _ _ _ (by omega)).trans ((upd_ne _ _ _ _ (by omega)).trans ((c1 _ (by omega)).trans (hG1 o ho))))
     ·have hge:kids.length<=i:=by have:=of_decide_eq_false h2;omega
      rw [List.take_of_length_le hge] at hu
      obtain ⟨ou,fru,hu1,hu2,rfl,hu3⟩:=hu
      refine BN ?_
      exact W.retFin1 rfl ⟨⟨ou,fru,by omega,by omega,rfl,hu3⟩,by omega,hG1⟩
end Go.Abs

/- The rings of a program: each definition that reaches itself is in one, once. -/
open Go Go.Abs
namespace Go.Abs
set_option maxRecDepth 100000
theorem ringTo_mem {tos:List (List Nat)} {i s:Nat} (hi:i < tos.length) (hr:Reach tos i i):s∈ringTo (reachR tos) i tos.length↔s < tos.length/\Reach tos i s/\Reach tos s i:=by
 rw [<-ring_eq hi hr,List.mem_filter,List.mem_filter,List.mem_range,reachB_iff,reachB_iff,and_assoc]
theorem ringTo_nodup (m:List (List Bool)) (i n:Nat):(ringTo m i n).Nodup:=by
 unfold ringTo
 exact List.nodup_range.sublist List.filter_sublist
theorem count_one {l:List Nat} {s:Nat} (h:l.Nodup) (hs:s∈l):l.count s=1:=by
 have h1:=List.nodup_iff_count.1 h s
 have h2:=List.count_pos_iff.2 hs
 omega
theorem count_nodup {l:List Nat} {s:Nat} (h:l.Nodup):(s∈l->l.count s=1)/\(s∉l->l.count s=0):=
 ⟨fun h'=>count_one h h',fun h'=>List.count_eq_zero.2 h'⟩
theorem count_rings {tos:List (List Nat)} {s:Nat} (hs:s < tos.length):∀ i,i<=tos.length->(InRing tos i s->(ringsTo (reachR tos) i).flatten.count s=1)/\(¬ InRing tos i s->(ringsTo (reachR tos) i).flatten.count s=0):=by
 intro i
 induction i with
 |zero=>
  intro _
  exact ⟨fun ⟨_,h,_⟩=>by omega,fun _=>rfl⟩
 |succ i ih=>
  intro hi
  obtain ⟨ih1,ih0⟩:=ih (by omega)
  rw [ringsTo_succ]
  by_cases hr:ringIs (reachR tos) i=true
  ·rw [if_pos hr,reachR_len]
   obtain ⟨h1,h2⟩:=(ringIs_iff (by omega)).1 hr
   rw [List.flatten_append,List.count_append,show [ringTo (reachR tos) i tos.length].flatten=ringTo (reachR tos) i tos.length by simp]
   obtain ⟨c1,c0⟩:=count_nodup (s:=s) (ringTo_nodup (reachR tos) i tos.length)
   rw [ringTo_mem (by omega) h1] at c1 c0
   rw [InRing.step h1]
   by_cases hA:InRing tos i s
   ·have hB:¬ (s < tos.length/\Reach tos i s/\Reach tos s i):=by
     rintro ⟨_,h3,h4⟩
     obtain ⟨i',g1,g2,g3,g4⟩:=hA
     exact h2 ⟨i',g1,g2,g3.trans h4,h3.trans g4⟩
    rw [ih1 hA,c0 hB]
    exact ⟨fun _=>rfl,fun h=>absurd (.inl hA) h⟩
   ·rw [ih0 hA]
    by_cases hB:s < tos.length/\Reach tos i s/\Reach tos s i
    ·rw [c1 hB]
     exact ⟨fun _=>rfl,fun h=>absurd (.inr hB.2) h⟩
    ·rw [c0 hB]
     refine ⟨fun h=>?_,fun _=>rfl⟩
     rcases h with h|h
     ·exact absurd h hA
     ·exact absurd ⟨hs,h⟩ hB
  ·rw [if_neg hr,List.append_nil]
   have hsk:¬ Reach tos i i\/InRing tos i i:=by
    rw [ringIs_iff (by omega)] at hr
    by_cases h:Reach tos i i
    ·exact .inr (Classical.byContradiction fun h'=>hr ⟨h,h'⟩)
    ·exact .inl h
   rw [InRing.skip hsk]
   exact ⟨ih1,ih0⟩
theorem rings_count {tos:List (List Nat)} {s:Nat} (hs:s < tos.length):(ringsTo (reachR tos) tos.length).flatten.count s=if reachB tos s s then 1 else 0:=by
 obtain ⟨h1,h0⟩:=count_rings hs tos.length (Nat.le_refl _)
 by_cases h:reachB tos s s=true
 ·rw [if_pos h]
  exact h1 ⟨s,hs,reachB_iff.1 h,reachB_iff.1 h,reachB_iff.1 h⟩
 ·rw [if_neg h]
  refine h0 ?_
  rintro ⟨i',_,_,h3,h4⟩
  exact h (reachB_iff.2 (h4.trans h3))
end Go.Abs

/- The groups of definitions, in their order, as the program finds them. -/
open Go Go.Abs
namespace Go.Abs
set_option maxRecDepth 100000
set_option maxHeartbeats 4000000
theorem O.slNilT {C:Cfg} {id:Nat} {l:Env} {G:Nat->Obj} {nx:Nat} {df:List (AV×List AV)} {pk:Pk} {t t2 e:TypeId} {x y:Operand} {k:TyI} [hk:TyIs C t k] (hb:k.d = .sl e) (hx:lookO l x=some .nils) (hy:lookO l y=some .nils):OpV C id l G nx df pk (.binOp .eql t x y t2) (.imm (.bool true)) []:=
 O.of fun t L ht=>by simp only [opA,ht.ev hx,ht.ev hy,binA,eqAV,hk.is,hb,eqOp,Option.map_some]
theorem O.slNilF {C:Cfg} {id:Nat} {l:Env} {G:Nat->Obj} {nx:Nat} {df:List (AV×List AV)} {pk:Pk} {t t2 e:TypeId} {x y:Operand} {k:TyI} {a:IV} {r:List IV} [hk:TyIs C t k] (hb:k.d = .sl e) (hx:lookO l x=some (.imm (.lst (a::r)))) (hy:lookO l y=some .nils):OpV C id l G nx df pk (.binOp .eql t x y t2) (.imm (.bool false)) []:=
 O.of fun t L ht=>by simp only [opA,ht.ev hx,ht.ev hy,binA,eqAV,hk.is,hb,eqOp,Option.map_some]
instance fnis483:FnIs CC 183:=⟨rfl,fun _=>rfl⟩
theorem look_hd' {l:Env} {d:Nat} {v:AV}:lookO ((d,v)::l) (.tmp d)=some v:=by
 show look _ _=_
 unfold look
 rw [Nat.beq_refl]
theorem nodup_count:∀ {l:List Nat},(∀ x∈l,l.count x<=1)->l.Nodup
 |[],_=>List.nodup_nil
 |a::l,h=>by
  refine List.nodup_cons.2 ⟨fun ha=>?_,nodup_count fun x hx=>?_⟩
  ·have h1:=h a (List.mem_cons_self ..)
   rw [List.count_cons_self] at h1
   have:=List.count_pos_iff.2 ha
   omega
  ·have h1:=h x (List.mem_cons_of_mem _ hx)
   have:=List.count_le_count_cons (a:=x) (b:=a) (l:=l)
   omega
theorem rings_nodup {tos:List (List Nat)}:(ringsR (reachR tos)).flatten.Nodup:=by
 refine nodup_count fun x hx=>?_
 obtain ⟨r,hr,hxr⟩:=List.mem_flatten.1 hx
 have hxl:x < tos.length:=by
  have:=ringsTo_lt r hr x hxr
  rwa [reachR_len] at this
 have:=rings_count (tos:=tos) hxl
 unfold ringsR
 rw [reachR_len,this]
 split<;>omega
theorem rings_grp {tos:List (List Nat)} {r:List Nat} (hr:r∈ringsR (reachR tos)) {k:Nat} (hk:k∈r):r=grpR tos k:=by
 obtain ⟨f,r',hf,_,e⟩:=groups_is (List.mem_append_left _ hr)
 rw [e] at hk ⊢
 exact (grp_same hf hk).symm
theorem InIs.append {tos:List (List Nat)} {lo hi:Nat} {G:Nat->Obj} {ks ks2:List Nat} {vs vs2:List AV} (h:InIs tos lo hi G ks vs) (h2:InIs tos lo hi G ks2 vs2):InIs tos lo hi G (ks++ks2) (vs++vs2) where
 len:=by rw [List.length_append,List.length_append,h.len,h2.len]
 row:=fun i k w hk hw=>by
  by_cases hi:i < ks.length
  ·rw [List.getElem?_append_left hi] at hk
   rw [List.getElem?_append_left (by rw [h.len];exact hi)] at hw
   exact h.row i k w hk hw
  ·rw [List.getElem?_append_right (by omega)] at hk
   rw [List.getElem?_append_right (by rw [h.len];omega),h.len] at hw
   exact h2.row _ k w hk hw
theorem InIs.one {tos:List (List Nat)} {lo hi k:Nat} {G:Nat->Obj} {w:AV} (h:RowF lo hi G w (grpR tos k)):InIs tos lo hi G [k] [w]:=⟨rfl,fun i k' w' h1 h2=>by
 cases i with
 |zero=>cases h1;cases h2;exact h
 |succ i=>simp at h1⟩
noncomputable def grpV (tos:List (List Nat)) (ks:List Nat):List AV:=ks.map fun k => .imm (natsIV (grpR tos k))
theorem grp_snoc (tos:List (List Nat)) (A:List Nat) (k:Nat) {w:IV} (hw:w=natsIV (grpR tos k)):Obj.mp (A.map natIV++[natIV k]) (grpV tos A++[.imm w]) false = .mp ((A++[k]).map natIV) (grpV tos (A++[k])) false:=by
 subst hw;unfold grpV;simp
theorem InIs.grp (tos:List (List Nat)) (lo hi:Nat) (G:Nat->Obj) (ks:List Nat):InIs tos lo hi G ks (grpV tos ks):=⟨by simp [grpV],fun i k w h1 h2=>by
 unfold grpV at h2
 rw [List.getElem?_map,h1] at h2
 cases h2
 exact .inl rfl⟩
theorem InIs.first {tos:List (List Nat)} {A B:List Nat} {ws:List AV} {d:Nat} (hd:d∈A):lookIs (some ty3) (some ty30) (some ((A++B).map natIV,grpV tos A++ws)) (natIV d) false (.imm (natsIV (grpR tos d))):=by
 have hc:A.contains d=true:=List.contains_iff_mem.2 hd
 rw [<-findIdx_contains'] at hc
 obtain ⟨j,hj⟩:=Option.isSome_iff_exists.1 hc
 have hlt:=findIdx_lt' hj
 refine ⟨rfl, .inl ⟨j,_,?_,?_,rfl⟩⟩
 ·rw [natKey,List.findIdx?_append,hj];rfl
 ·unfold grpV
  rw [List.getElem?_append_left (by simpa using hlt),List.getElem?_map,findIdx_at' hj];rfl
def loneN (A:List Nat) (d:Nat):List Nat:=(List.range d).filter fun k => !A.contains k
theorem loneN_succ (A:List Nat) (d:Nat):loneN A (d+1)=loneN A d++(if d∈A then [] else [d]):=by
 unfold loneN
 rw [List.range_succ,List.filter_append]
 congr 1
 by_cases h:d∈A<;>simp [h]
theorem loneN_not (A:List Nat) (d:Nat):d∉loneN A d:=fun h=>by
 have:=List.mem_range.1 (List.mem_filter.1 h).1
 omega
theorem RowF.soft {lo hi hi':Nat} {G G':Nat->Obj} {w:AV} {g:List Nat} (h:RowF lo hi G w g) (hh:hi<=hi') (hG:∀ o,lo<=o->o < hi->G' o=G o\/G' o=(G o).freeze):RowF lo hi' G' w g:=by
 rcases h with h|⟨o,fr,h0,h1,h2,h3⟩
 ·exact .inl h
 ·rcases hG o h0 h1 with h4|h4
  ·exact .inr ⟨o,fr,h0,by omega,h2,by rw [h4];exact h3⟩
  ·exact .inr ⟨o,true,h0,by omega,h2,by rw [h4,h3];rfl⟩
theorem InIs.soft {tos:List (List Nat)} {lo hi hi':Nat} {G G':Nat->Obj} {ks:List Nat} {vs:List AV} (h:InIs tos lo hi G ks vs) (hh:hi<=hi') (hG:∀ o,lo<=o->o < hi->G' o=G o\/G' o=(G o).freeze):InIs tos lo hi' G' ks vs:=
 ⟨h.len,fun i k w h1 h2=>(h.row i k w h1 h2).soft hh hG⟩
theorem RowF.len {lo hi:Nat} {G:Nat->Obj} {w:AV} {g:List Nat} {e:TypeId} (h:RowF lo hi G w g):lenA G (.sl e) w=some g.length:=by
 rcases h with rfl|⟨o,fr,_,_,rfl,h3⟩
 ·show some _=_;rw [List.length_map,List.length_map]
 ·simp [lenA,elems,h3]
section
variable {nt:Nat} {ol r:List Oper} {base i:Nat} {l:Env} {G:Nat->Obj} {nx:Nat} {df:List (AV×List AV)} {pk:Pk} {Φ:Out->Prop} {x y:Operand} {ty1 ty2:TypeId} {pos1 pos2:String} {af1 af2:Array Edge} {d d1 d2 lo hi j k:Nat} {w:AV} {g:List Nat} {ats:Array TypeId}
theorem R.natAt (hr:RowF lo hi G w g) (hk:g[j]? = some k) (hx:lookO l x=some w) (hy:lookO l y=some (.imm (.int .i64 j))) (hd1:Nat.ble (d1+1) nt=true) (hd2:Nat.ble (d2+1) nt=true)
  (next:∀ a,R CC nt ol base (i+1+1) r ((d2, .imm (natIV k))::(d1,a)::l) G nx df pk Φ) :
  R CC nt ol base i (⟨some d1, .indexAddr 44 x y,ty1,pos1,af1,none⟩::⟨some d2, .load 3 (.tmp d1),ty2,pos2,af2,none⟩::r) l G nx df pk Φ:=by
 have hs:=(List.getElem?_eq_some_iff.1 hk).1
 rcases hr with rfl|⟨o,fr,_,_,rfl,hG⟩
 ·have hi:=at_map natIV hk
  exact R.op0 (O.addrX rfl inferInstance hx hy (by omega) hi rfl) hd1 (R.op0 (O.load1 look_hd' hi rfl rfl rfl) hd2 (next _))
 ·have hi:((g.map natIV).map AV.imm)[(j:Int).toNat]? = some (.imm (natIV k)):=by rw [Int.toNat_natCast,List.getElem?_map,List.getElem?_map,hk];rfl
  exact R.op0 (O.addrRX rfl inferInstance hx hy hG (by simp) (by omega) rfl) hd1 (R.op0 (O.loadRX look_hd' hG (by simp) hi rfl rfl rfl) hd2 (next _))
theorem R.cloneN (hrow:RowF lo hi G w g) (hg:g.length<=1000) (hx:lookO l x=some w) (hd:Nat.ble (d+1) nt=true) (hid:hi<=base+i)
  (next:∀ G',G' (base+i) = .row 3 1 ((g.map natIV).map .imm) false->(∀ o,o≠base+i->G' o=G o\/(lo<=o/\o < hi/\G' o=(G o).freeze))->R CC nt ol base (i+1) r ((d, .row (base+i) g.length)::l) G' nx df pk Φ) :
  R CC nt ol base i (⟨some d, .call { callee := .value (.func 205),args := #[x],argTypes:=ats },ty1,pos1,af1,none⟩::r) l G nx df pk Φ:=by
 have horc:CC.orc 205 [.lst (g.map natIV)]=some (.own 3 1 (g.map natIV)):=by
  show (if _ then _ else _)=_
  rw [if_pos ⟨natKeys_int g,by rw [List.length_map];omega⟩]
 have hl:(g.map natIV).length=g.length:=List.length_map ..
 rw [<-hl] at next
 have hxs:looks l [x]=some [w]:=by simp [looks,hx]
 rcases hrow with rfl|⟨o,fr,h0,h1,rfl,h3⟩
 ·exact R.op1 (O.callOwnI rfl horc hxs rfl) hd (next _ (upd_same ..) fun o ho => .inl (upd_ne _ _ _ _ ho))
 ·refine R.opU (O.callOwn rfl horc hxs (peeks_one (peek_row1 h3 (by simp)) peeks_nil)) hd (next _ ?_ fun q hq=>?_)
  ·exact (updL_frz1 (q:=o)).trans (if_pos rfl)
  ·by_cases e:q=o
   ·subst e
    exact .inr ⟨h0,h1,updL_frz1.trans ((if_neg hq).trans (if_pos rfl))⟩
   ·exact .inl (updL_frz1.trans ((if_neg hq).trans (if_neg e)))
end
theorem ret483 {p:Pgm} (hp:p.Fits) (hpr:progR p=true):Ret CC 183 [p.iv] (.lst ((orderR (tosR p)).map natsIV)):=by
 have hg:=progR_good hpr
 have hn:(tosR p).length=p.defs.length:=hg.steps.2.1
 have hd6:=hg.defs
 have h17:=ret17 p hp
 have hra:ringsA p=ringsOf p:=by unfold ringsA;rw [if_pos hpr]
 rw [hra,if_pos hpr] at h17
 have h503:=@cal503 p hp
 refine Ret.of (fn:=Go.Proofs.Tryz.f183) (by kernel_rfl) rfl rfl ?_
 have hfn:=rings_nodup (tos:=tosR p)
 have hrg:=fun r hr k hk=>rings_grp (tos:=tosR p) (r:=r) hr (k:=k) hk
 have hrl:=ringsOf_len hg
 have hrs:=ringsOf_le hg
 have hrm:=fun k=>rings_mem (tos:=tosR p) (k:=k)
 change (ringsOf p).flatten.Nodup at hfn
 change ∀ r∈ringsOf p,∀ k∈r,r=grpR (tosR p) k at hrg
 change ∀ k,(∃ r∈ringsOf p,k∈r)↔_ at hrm
 generalize ringsOf p=rings at *
 generalize tosR p=tos at *
 obtain ⟨srcs,defs⟩:=p
 have hrml:(rings.map natsIV).length=rings.length:=List.length_map ..
 refine BB ?_
 refine W.loop (X:=Nat) (fun i=>[(1, .ptr 0 0),(5, .ptr 10 0),(23, .imm (.lst (rings.map natsIV))),(24, .imm (.int .i64 (rings.map natsIV).length)),(25, .imm (.int .i64 i))])
  (fun i nx G=>11<=nx/\i<=rings.length/\G 0 = .box [.imm (.lst (srcs.map sv)), .imm (.lst (defs.map Dfn.iv))] false/\G 10 = .box [.map 9] false/\G 9 = .mp ((rings.take i).flatten.map natIV) (grpV tos (rings.take i).flatten) false)
  (fun i=>rings.length-i) 0 .auto ⟨by decide,Nat.zero_le _,rfl,rfl,rfl⟩ ?_
 rintro i nx G ⟨hnx,hi,g0,g10,g9⟩
 refine BB ?_
 refine W.cond rfl (fun h1=>?_) (fun h1=>?_)
 ·have h1':i < rings.length:=by have:=of_decide_eq_true h1;rw [hrml] at this;omega
  obtain ⟨r,hr⟩:=at_lt h1'
  have hri:=at_map natsIV hr
  have hrk:=hrg r (List.mem_of_getElem? hr)
  have hmu:rings.length-(i+1) < rings.length-i:=by omega
  have hr6:=hrs r (List.mem_of_getElem? hr)
  have hrml2:(r.map natIV).length=r.length:=List.length_map ..
  have htk:(rings.take (i+1)).flatten=(rings.take i).flatten++r:=by rw [List.take_add_one,hr,List.flatten_append];simp
  refine BB ?_
  refine W.loop (X:=Nat) (fun j=>[(1, .ptr 0 0),(5, .ptr 10 0),(7, .imm (natsIV r)),(23, .imm (.lst (rings.map natsIV))),(24, .imm (.int .i64 (rings.map natsIV).length)),(25, .imm (.int .i64 i)),(29, .imm (natsIV r)),(30, .imm (.int .i64 (r.map natIV).length)),(31, .imm (.int .i64 j))])
   (fun j nx G=>11<=nx/\j<=r.length/\G 0 = .box [.imm (.lst (srcs.map sv)), .imm (.lst (defs.map Dfn.iv))] false/\G 10 = .box [.map 9] false/\G 9 = .mp (((rings.take i).flatten++r.take j).map natIV) (grpV tos ((rings.take i).flatten++r.take j)) false)
   (fun j=>r.length-j) 0 .auto ⟨by omega,Nat.zero_le _,g0,g10,by simpa using g9⟩ ?_
  clear g0 g10 g9
  rintro j nx2 G2 ⟨hnx2,hj,g0,g10,g9⟩
  refine BB ?_
  refine W.cond rfl (fun h2=>?_) (fun h2=>?_)
  ·have h2':j < r.length:=by have:=of_decide_eq_true h2;rw [hrml2] at this;omega
   obtain ⟨k,hk⟩:=at_lt h2'
   have hki:=at_map natIV hk
   have hmu2:r.length-(j+1) < r.length-j:=by omega
   have hnew:((rings.take i).flatten++r.take j).contains k=false:=by
    rw [List.contains_eq_mem,decide_eq_false_iff_not]
    intro hc
    have hsp:rings.flatten=((rings.take i).flatten++r.take j)++(k::(r.drop (j+1)++(rings.drop (i+1)).flatten)):=by
     have e1:rings=rings.take i++r::rings.drop (i+1):=by
      have:=List.getElem_cons_drop h1'
      rw [(List.getElem?_eq_some_iff.1 hr).2] at this
      rw [this,List.take_append_drop]
     have e2:r=r.take j++k::r.drop (j+1):=by
      have:=List.getElem_cons_drop h2'
      rw [(List.getElem?_eq_some_iff.1 hk).2] at this
      rw [this,List.take_append_drop]
     conv=>lhs;rw [e1,List.flatten_append,List.flatten_cons,e2]
     simp [List.append_assoc]
    rw [hsp,List.nodup_append] at hfn
    exact hfn.2.2 k hc k (List.mem_cons_self ..) rfl
   have hkn:=setNew hnew
   refine BB ?_
   refine R.opN1 (O.mapNew (k:=ty561) (kk:=ty3) rfl inferInstance rfl rfl rfl g9 rfl hkn) ?_
   refine BB ?_
   refine W.skipLop (j+1) hmu2 .auto ⟨by omega,h2',?_,?_,?_⟩
   ·rw [upd_ne _ _ _ _ (by omega)];exact g0
   ·rw [upd_ne _ _ _ _ (by omega)];exact g10
   ·have e1:(rings.take i).flatten++r.take (j+1)=((rings.take i).flatten++r.take j)++[k]:=by rw [List.take_add_one,hk,<-List.append_assoc];rfl
    have ev:natsIV r=natsIV (grpR tos k):=congrArg natsIV (hrk k (List.mem_of_getElem? hk))
    rw [upd_same,e1]
    exact grp_snoc tos _ k ev
  ·have h2':¬ j < r.length:=by have:=of_decide_eq_false h2;rw [hrml2] at this;omega
   rw [List.take_of_length_le (l:=r) (by omega),<-htk] at g9
   refine BB ?_
   exact W.skipLop (i+1) hmu .auto ⟨by omega,h1',g0,g10,g9⟩
 ·have h1':¬ i < rings.length:=by have:=of_decide_eq_false h1;rw [hrml] at this;omega
  rw [List.take_of_length_le (l:=rings) (by omega)] at g9
  refine BB ?_
  have hdm:(defs.map Dfn.iv).length=defs.length:=List.length_map ..
  have hd6':defs.length<=6:=hd6
  refine W.loop (X:=Nat×List AV) (fun x=>[(1, .ptr 0 0),(5, .ptr 10 0),(42, .imm (.int .i64 (defs.map Dfn.iv).length)),(43, .imm (.int .i64 x.1))])
   (fun x nx G=>11<=nx/\x.1<=defs.length/\G 0 = .box [.imm (.lst (srcs.map sv)), .imm (.lst (defs.map Dfn.iv))] false/\G 10 = .box [.map 9] false/\G 9 = .mp ((rings.flatten++loneN rings.flatten x.1).map natIV) (grpV tos rings.flatten++x.2) false/\InIs tos 11 nx G (loneN rings.flatten x.1) x.2)
   (fun x=>defs.length-x.1) (0,[]) .auto ⟨by omega,Nat.zero_le _,g0,g10,by simpa [loneN] using g9,⟨rfl,fun i k w h=>by simp [loneN] at h⟩⟩ ?_
  clear g0 g10 g9
  rintro ⟨d,ws⟩ nx2 G2 ⟨hnx2,hd,g0,g10,g9,hin⟩
  dsimp only at hd g9 hin ⊢
  refine BN ?_
  refine W.cond rfl (fun h2=>?_) (fun h2=>?_)
  ·have hlt:d < defs.length:=by have:=of_decide_eq_true h2;omega
   have hmu:defs.length-(d+1) < defs.length-d:=by omega
   have hsucc:=loneN_succ rings.flatten d
   by_cases hdr:d∈rings.flatten
   ·rw [if_pos hdr,List.append_nil] at hsucc
    have hlk:=InIs.first (tos:=tos) (B:=loneN rings.flatten d) (ws:=ws) hdr
    obtain ⟨f,r,hfr⟩:∃ f r,grpR tos d=f::r:=by
     cases hg:grpR tos d with
     |nil=>have:=grp_self (tos:=tos) (d:=d) (by rw [hn];exact hlt);rw [hg] at this;cases this
     |cons f r=>exact ⟨f,r,rfl⟩
    rw [hfr] at hlk
    have hlk':lookIs (some ty3) (some ty30) (mapKV G2 (.map 9)) (natIV d) false (.imm (natsIV (f::r))):=by simp only [mapKV,g9];exact hlk
    refine BN ?_
    refine R.op0 (O.slNilF (a:=natIV f) (r:=r.map natIV) rfl rfl rfl) rfl ?_
    refine BN ?_
    exact W.skipLop (d+1,ws) hmu .auto ⟨by omega,hlt,g0,g10,by rw [hsucc];exact g9,by rw [hsucc];exact hin.frame (by omega) fun _ _ _=>rfl⟩
   ·rw [if_neg hdr] at hsucc
    have hdn:d∉rings.flatten++loneN rings.flatten d:=fun hc=>(List.mem_append.1 hc).elim hdr (loneN_not _ _)
    have hlk:lookIs (some ty3) (some ty30) (mapKV G2 (.map 9)) (natIV d) false .nils:=by simp only [mapKV,g9];exact InIs.miss hdn
    have hal:grpR tos d=[d]:=grp_alone (by rw [hn];exact hlt) fun hc=>hdr (by
     obtain ⟨r,hr1,hr2⟩:=(hrm d).2 ⟨by rw [hn];exact hlt,hc⟩
     exact List.mem_flatten.2 ⟨r,hr1,hr2⟩)
    have hkn:=setNew (l:=rings.flatten++loneN rings.flatten d) (k:=d) (by rw [List.contains_eq_mem];exact decide_eq_false hdn)
    refine BN ?_
    refine R.op0 (O.slNilT rfl rfl rfl) rfl ?_
    refine BN ?_
    refine R.opN1 (O.mapNew (k:=ty561) (kk:=ty3) rfl inferInstance rfl rfl rfl at_upd rfl hkn) ?_
    refine BN ?_
    refine W.skipLop (d+1,ws++[.row (nx2+1+2+4+3) 1]) hmu .auto ⟨by omega,hlt,at_upd,at_upd,?_,?_⟩
    ·rw [upd_same,hsucc,<-List.append_assoc,List.append_assoc (grpV _ _),List.map_append (l₂:=[d])]
     rfl
    ·rw [hsucc]
     refine InIs.append (hin.frame (by omega) fun o h1 h2=>?_) (InIs.one ?_)
     ·rw [upd_ne _ _ _ _ (by omega),upd_ne _ _ _ _ (by omega)]
     ·rw [hal]
      exact .inr ⟨nx2+1+2+4+3,false,by omega,by omega,rfl,(upd_ne _ _ _ _ (by omega)).trans (upd_same ..)⟩
  ·have h2':¬ d < defs.length:=by have:=of_decide_eq_false h2;omega
   have:d=defs.length:=by omega
   subst this
   generalize hks:rings.flatten++loneN rings.flatten defs.length=ks at *
   have hall:∀ d,d < defs.length->d∈ks:=fun d hd=>by
    rw [<-hks]
    by_cases hdr:d∈rings.flatten
    ·exact List.mem_append_left _ hdr
    ·refine List.mem_append_right _ ?_
     unfold loneN
     exact List.mem_filter.2 ⟨List.mem_range.2 hd,by simpa using hdr⟩
   have hIn:InIs tos 11 nx2 G2 ks (grpV tos rings.flatten++ws):=by rw [<-hks];exact (InIs.grp tos 11 nx2 G2 _).append hin
   generalize grpV tos rings.flatten++ws=vs at *
   clear hin hks hrm hrg hfn
   refine BN ?_
   refine W.loop (X:=List Nat×List (List Nat)×AV) (fun x=>[(1, .ptr 0 0),(5, .ptr 10 0),(11, .ptr (nx2+1+1) 0),(12, .fn (.func 203) [.ptr 0 0, .ptr (nx2+1+1) 0, .ptr 10 0]),(13,x.2.2)])
    (fun x nx G=>nx2+3<=nx/\G 0 = .box [.imm (.lst (srcs.map sv)), .imm (.lst (defs.map Dfn.iv))] false/\G 10 = .box [.map 9] false/\G 9 = .mp (ks.map natIV) vs false/\InIs tos 11 nx2 G ks vs/\G (nx2+1+1) = .box [.map (nx2+1+0)] false/\G (nx2+1+0)=setObj x.1 /\
     OwnV 1 44 1 (nx2+3) nx (x.2.1.map natsIV) G x.2.2/\DoneIs tos x.1/\x.2.1++orderTo tos (tos.length-x.2.1.length) x.1=orderR tos/\x.2.1.length<=x.1.length)
    (fun x=>tos.length-x.1.length) ([],[], .nils) .auto ⟨by omega,at_upd,at_upd,at_upd,hIn.frame (Nat.le_refl _) fun o h1 h2=>at_upd,upd_same ..,(upd_ne _ _ _ _ (by omega)).trans ((upd_ne _ _ _ _ (by omega)).trans (upd_same ..)), .inl ⟨rfl,rfl⟩,DoneIs.nil,rfl,Nat.le_refl _⟩ ?_
   clear g0 g10 g9 hIn
   rintro ⟨done,out,v⟩ nx3 G3 ⟨hnx3,g0,g10,g9,hin,gb,gQ,hout,hdone,hord,hle⟩
   dsimp only at gQ hout hdone hord hle ⊢
   have hdl:=hdone.len
   have hsm:(List.map sv srcs).length=srcs.length:=List.length_map ..
   refine BN ?_
   refine R.op0 (O.len (m:=done.length) rfl (by show lenA G3 (.mp _ _) (.map _)=_;simp only [lenA,gQ,setObj,List.length_map])) rfl ?_
   refine BN ?_
   refine W.cond rfl (fun h3=>?_) (fun h3=>?_)
   ·have hlt:done.length < tos.length:=by have:=of_decide_eq_true h3;rw [List.length_map] at this;have hn':tos.length=defs.length:=hn;have this:(done.length:Int) < (defs.length:Int):=this;omega
    obtain ⟨dn,hdn,_,_⟩:=next_some hlt
    refine BN ?_
    refine W.loop (X:=Nat) (fun d=>[(1, .ptr 0 0),(5, .ptr 10 0),(11, .ptr (nx2+1+1) 0),(12, .fn (.func 203) [.ptr 0 0, .ptr (nx2+1+1) 0, .ptr 10 0]),(13,v),(65, .imm (.int .i64 (defs.map Dfn.iv).length)),(66, .imm (.int .i64 d))])
     (fun d nx G=>nx3<=nx/\(∀ o,o < nx3->G o=G3 o)/\d<=defs.length/\∀ e,e < d->readyR tos done e=false) (fun d=>defs.length-d) 0 .auto ⟨by omega,fun _ _=>rfl,Nat.zero_le _,fun _ h=>absurd h (Nat.not_lt_zero _)⟩ ?_
    rintro d nx4 G4 ⟨hnx4,hG4,hd4,hno⟩
    refine BN ?_
    refine W.cond rfl (fun h4=>?_) (fun h4=>?_)
    ·have hd:d < defs.length:=by have:=of_decide_eq_true h4;omega
     have hmu4:defs.length-(d+1) < defs.length-d:=by omega
     have hdk:=hall d hd
     have hcal:=fun nx5 (h:nx4<=nx5)=>h503 (done:=done) (ks:=ks) (vs:=vs) (pb:=0) (dp:=nx2+1+1) (md:=nx2+1+0) (ip:=10) (mi:=9) (lo:=11) (hi:=nx2) (d:=d) hpr hd hdk (G:=G4) (nx:=nx5) (by omega) ((hG4 _ (by omega)).trans g0) (by omega) ((hG4 _ (by omega)).trans gb) ((hG4 _ (by omega)).trans gQ) ((hG4 _ (by omega)).trans g10) ((hG4 _ (by omega)).trans g9) (hin.frame (Nat.le_refl _) fun o _ ho=>hG4 o (by omega))
     refine BN ?_
     refine R.callB rfl rfl rfl rfl rfl ((hcal _ (by omega)).mono fun v5 G5 nx5 hv=>?_)
     obtain ⟨rfl,hn5,hG5⟩:=hv
     have c5:∀ o,o < nx3->G5 o=G3 o:=fun o ho=>(hG5 o (by omega)).trans (hG4 o ho)
     cases hr:readyR tos done d with
     |false=>
      refine BN ?_
      exact W.skipLop (d+1) hmu4 .auto ⟨by omega,c5,hd,fun e he=>by
       rcases Nat.lt_or_eq_of_le (Nat.le_of_lt_succ he) with h|rfl
       ·exact hno e h
       ·exact hr⟩
     |true=>
      have hdt:d < tos.length:=by rw [hn];exact hd
      have hnx:=next_is hdt hr hno
      have hnd:d∉done:=(ready_iff.1 hr).1
      have hin5:InIs tos 11 nx2 G5 ks vs:=hin.frame (Nat.le_refl _) fun o _ ho=>c5 o (by omega)
      obtain ⟨w,hlk,hrow⟩:=hin5.look hdk
      have hlk':lookIs (some ty3) (some ty30) (mapKV G5 (.map 9)) (natIV d) false w:=by simp only [mapKV,c5 9 (by omega),g9];exact hlk
      have hgl:(grpR tos d).length<=6:=by
       have:=nodup_lt (grp_nodup (tos:=tos) d) (fun k hk=>grp_lt hk)
       omega
      have hg0:0 < (grpR tos d).length:=List.length_pos_of_mem (grp_self hdt)
      have g105:=(c5 10 (by omega)).trans g10
      refine BN ?_
      refine R.cloneN hrow (by omega) rfl rfl (by omega) fun G6 h61 h62=>?_
      have c6:∀ o,o < nx3->nx2<=o\/o < 11->G6 o=G3 o:=fun o ho ho2=>(h62 o (by omega)).elim (fun h=>h.trans (c5 o ho)) fun h=>by omega
      have hl1:out.length+1<=1000:=by omega
      refine BN ?_
      refine R.appOwnV (d':=1) (lo:=nx2+3) (hi:=nx3) (ws:=[.row (nx5+4) (grpR tos d).length]) (ys:=[natsIV (grpR tos d)]) rfl rfl rfl (hout.frame (Nat.le_refl _) fun o h1 h2=>(upd_ne _ _ _ _ (by omega)).trans (c6 o h2 (.inl (by omega)))) rfl (by simp [elems,upd]) (by decide) (by decide) rfl rfl (by simp only [List.length_map,List.length_cons,List.length_nil,most];omega) ⟨by omega,by omega⟩ (fun G' h1 h2=>⟨?_,trivial⟩) rfl fun v' G7 ho7 h71 h72=>?_
      ·refine Rdx.row (G:=G') (e:=3) (sz:=1) (fr:=false) ((h2 _ (by omega) (by omega)).trans ((upd_ne _ _ _ _ (by omega)).trans h61)) (by simp) (All2.imms 0 _ _ _) ⟨by omega,by omega⟩
      ·have c7:∀ o,o < nx2+3->(nx2<=o\/o < 11)->G7 o=G3 o:=fun o ho ho2=>(h71 o ho).trans ((upd_ne _ _ _ _ (by omega)).trans (c6 o (by omega) ho2))
       have hsoft:∀ o,11<=o->o < nx2->G7 o=G5 o\/G7 o=(G5 o).freeze:=fun o h1 h2=>by
        rw [h71 o (by omega),upd_ne _ _ _ _ (by omega)]
        exact (h62 o (by omega)).elim .inl fun h => .inr h.2.2
       have in7:=hin5.soft (Nat.le_refl _) hsoft
       have row7:=hrow.soft (Nat.le_refl _) hsoft
       have g07:=(c7 0 (by omega) (by omega)).trans g0
       have g107:=(c7 10 (by omega) (by omega)).trans g10
       have g97:=(c7 9 (by omega) (by omega)).trans g9
       have gb7:=(c7 _ (by omega) (by omega)).trans gb
       have gQ7:=(c7 _ (by omega) (by omega)).trans gQ
       have hlk7:lookIs (some ty3) (some ty30) (mapKV G7 (.map 9)) (natIV d) false w:=by simp only [mapKV,g97];exact hlk
       have hout7:OwnV 1 44 1 (nx2+3) (nx5+8) ((out++[grpR tos d]).map natsIV) G7 v':=by
        rw [List.map_append]
        exact ho7.frame (by omega) fun _ _ _=>rfl
       have hstep:=hdone.step hdt hnd
       have hord2:(out++[grpR tos d])++orderTo tos (tos.length-(out++[grpR tos d]).length) (done++grpR tos d)=orderR tos:=by
        rw [<-hord,List.append_assoc,List.length_append]
        congr 1
        rw [show tos.length-out.length=(tos.length-(out.length+[grpR tos d].length))+1 by simp only [List.length_cons,List.length_nil];omega,orderTo,hnx]
        rfl
       have hle2:(out++[grpR tos d]).length<=(done++grpR tos d).length:=by rw [List.length_append,List.length_append];simp only [List.length_cons,List.length_nil];omega
       have hmu3:tos.length-(done++grpR tos d).length < tos.length-done.length:=by rw [List.length_append];omega
       have hap:∀ k∈grpR tos d,k∉done:=fun k hk=>hdone.apart hdt hnd hk
       have hgn:=grp_nodup (tos:=tos) d
       generalize grpR tos d=g at *
       clear hlk' hlk hrow hin5 c5 c6 h61 h62 h71 h72 hsoft hcal
       refine BN ?_
       refine R.op0 (O.len (m:=g.length) rfl (row7.len)) rfl ?_
       refine BN ?_
       refine W.loop (X:=Nat) (fun j=>[(1, .ptr 0 0),(5, .ptr 10 0),(11, .ptr (nx2+1+1) 0),(12, .fn (.func 203) [.ptr 0 0, .ptr (nx2+1+1) 0, .ptr 10 0]),(13,v'),(81,w),(82, .imm (.int .i64 g.length)),(83, .imm (.int .i64 j))])
        (fun j nx G=>nx5+8<=nx/\j<=g.length/\G (nx2+1+0)=setObj (done++g.take j)/\∀ o,o≠nx2+1+0->G o=G7 o) (fun j=>g.length-j) 0 .auto ⟨by omega,Nat.zero_le _,by simpa using gQ7,fun _ _=>rfl⟩ ?_
       rintro j nx8 G8 ⟨hnx8,hj,gQ8,hG8⟩
       refine BN ?_
       refine W.cond rfl (fun h5=>?_) (fun h5=>?_)
       ·have hjl:j < g.length:=by have:=of_decide_eq_true h5;omega
        have hmu5:g.length-(j+1) < g.length-j:=by omega
        have hk:=List.getElem?_eq_getElem hjl
        have hnew:(done++g.take j).contains g[j]=false:=by
         rw [List.contains_eq_mem,decide_eq_false_iff_not]
         intro hc
         rcases List.mem_append.1 hc with hc|hc
         ·exact hap _ (List.getElem_mem hjl) hc
         ·obtain ⟨i',hi',he⟩:=List.mem_iff_getElem.1 hc
          rw [List.length_take] at hi'
          rw [List.getElem_take] at he
          have:=(List.getElem_inj hgn).1 he
          omega
        have row8:RowF 11 nx2 G8 w g:=row7.frame (Nat.le_refl _) fun o _ ho=>hG8 o (by omega)
        have gb8:=(hG8 (nx2+1+1) (by omega)).trans gb7
        refine BN ?_
        refine R.natAt row8 hk rfl rfl rfl rfl fun a=>?_
        refine BN ?_
        refine R.opN1 (O.mapNew rfl inferInstance rfl rfl rfl gQ8 rfl (setNew hnew)) ?_
        refine BN ?_
        refine W.skipLop (j+1) hmu5 .auto ⟨by omega,hjl,?_,fun o ho=>(upd_ne _ _ _ _ ho).trans (hG8 o ho)⟩
        rw [upd_same,List.take_add_one,hk,<-List.append_assoc]
        exact (setObj_add _ _).symm
       ·have hge:j=g.length:=by have:=of_decide_eq_false h5;omega
        subst hge
        rw [List.take_length] at gQ8
        refine BN ?_
        refine W.skipLop (done++g,out++[g],v') hmu3 .auto ⟨by omega,(hG8 _ (by omega)).trans g07,(hG8 _ (by omega)).trans g107,(hG8 _ (by omega)).trans g97,in7.frame (Nat.le_refl _) fun o _ ho=>hG8 o (by omega),(hG8 _ (by omega)).trans gb7,gQ8,hout7.frame (by omega) fun o h1 h2=>hG8 o (by omega),hstep,hord2,hle2⟩
    ·have hge:defs.length<=d:=by have:=of_decide_eq_false h4;omega
     exfalso
     have h1:=next_inv hdn
     have hn':tos.length=defs.length:=hn
     rw [hno dn (by omega)] at h1
     exact absurd h1.2.1 (by decide)
   ·have hge:tos.length<=done.length:=by have:=of_decide_eq_false h3;rw [List.length_map] at this;have hn':tos.length=defs.length:=hn;have this:¬ (done.length:Int) < (defs.length:Int):=this;omega
    rw [orderTo_end hdone hge,List.append_nil] at hord
    rw [<-hord]
    refine BN ?_
    exact W.retFin1 rfl (hout.rdx.peek (by decide))
end Go.Abs

/- The program: the groups of definitions, in their order, or the error. -/
open Go Go.Abs
namespace Go.Abs
set_option maxRecDepth 100000
set_option maxHeartbeats 4000000
instance fnis437:FnIs CC 137:=⟨rfl,fun _=>rfl⟩
theorem ret437 {p:Pgm} (hp:p.Fits) (hpr:progR p=true):Ret CC 137 [p.iv] (.tup [.lst ((orderR (tosR p)).map natsIV), .int .i64 0]):=by
 have h29:=ret29 p hp
 have h483:=ret483 hp hpr
 rw [if_pos hpr] at h29
 generalize orderR (tosR p)=L at *
 obtain ⟨srcs,defs⟩:=p
 have bz:((0:Int) != 0)=false:=rfl
 refine Ret.of (fn:=Go.Proofs.Tryz.f137) (by kernel_rfl) rfl rfl ?_
 refine BB ?_
 exact W.retFin2 rfl rfl ⟨[],rfl⟩
end Go.Abs

/- The program: the lags of all definitions. -/
open Go Go.Abs
namespace Go.Abs
set_option maxRecDepth 100000
set_option maxHeartbeats 4000000
instance fnis376:FnIs CC 76:=⟨rfl,fun _=>rfl⟩
theorem strNew {l:List Str} {s:Str} (h:s∉l):keyFind (sv s) (l.map sv)=some none:=by
 rw [keyFind_sv]
 have h0:=findIdx_contains s l
 have hc:l.contains s=false:=by simpa using h
 rw [hc] at h0
 cases hf:l.findIdx? fun x=>s==x with
 |none=>rfl
 |some j=>rw [hf] at h0;cases h0
theorem not_take {l:List Str} (hn:l.Nodup) {i:Nat} {s:Str} (h:l[i]? = some s):s∉l.take i:=fun hc=>by
 obtain ⟨hk,rfl⟩:=List.getElem?_eq_some_iff.1 h
 obtain ⟨j,hj,he⟩:=List.mem_iff_getElem.1 hc
 rw [List.length_take] at hj
 rw [List.getElem_take] at he
 have:=(List.getElem_inj hn).1 he
 omega
noncomputable def knIV (p:Pgm) (E:List (List Lg)):IV := .fptr [.lst (p.srcs.map sv), .lst (p.defs.map Dfn.iv), .fmp (numKs p) (numVs p), .lst (E.map lagsIV), .fmp wayKs wayVs] 0
theorem cal440 {a:Lg} {i:Nat} {G:Nat->Obj} {nx:Nat}:Cal CC 140 [.imm (natIV i), .imm a.iv] G nx fun v G' nx'=>v = .imm (a.thru true 0 0).iv/\nx<=nx'/\∀ o,o < nx->G' o=G o:=by
 have h1:=ret441 (a:=a)
 generalize a.thru=A at *
 obtain ⟨on,e,b,f⟩:=a
 rw [Lg.iv_mk] at *
 refine Cal.of (fn:=Go.Proofs.Tryz.f140) (by kernel_rfl) rfl rfl ?_
 refine BN ?_
 exact W.retFinCA rfl (upd_same ..) rfl rfl ⟨rfl,by omega,fun o ho=>at_upd⟩
theorem Rdx.map {d o:Nat} {P:Nat->Prop} {G:Nat->Obj} {ks xs:List IV} {vs:List AV} {fr:Bool} (hG:G o = .mp ks vs fr) (h:All2 (Rdx d G P) vs xs) (ho:P o):Rdx (d+1) G P (.map o) (.fmp ks xs):=by
 obtain ⟨ids,h1,h2⟩:=h.peekL
 refine ⟨o::ids,fun k=>?_,fun i hi=>(List.mem_cons.1 hi).elim (fun h=>h▸ho) (h2 i)⟩
 rw [<-Nat.add_assoc,Go.Abs.peek,hG]
 simp only [h1]
theorem Rdx.ptr {d o off:Nat} {P:Nat->Prop} {G:Nat->Obj} {xs:List IV} {vs:List AV} {fr:Bool} (hG:G o = .box vs fr) (h:All2 (Rdx d G P) vs xs) (ho:P o):Rdx (d+1) G P (.ptr o off) (.fptr xs off):=by
 obtain ⟨ids,h1,h2⟩:=h.peekL
 refine ⟨o::ids,fun k=>?_,fun i hi=>(List.mem_cons.1 hi).elim (fun h=>h▸ho) (h2 i)⟩
 rw [<-Nat.add_assoc,Go.Abs.peek,hG]
 simp only [h1]
theorem ret376 {p:Pgm} (hp:p.Fits) (hpr:progR p=true):Ret CC 76 [p.iv] (knIV p (lagsR p)):=by
 have hg:=progR_good hpr
 have htl:(tosR p).length=p.defs.length:=hg.steps.2.1
 have h437:=ret437 hp hpr
 have h436:=ret436
 obtain ⟨hgl,hgs⟩:=order_small hpr
 have hsm:=progR_small hpr
 have h6:=hsm.len
 have h4:=hsm.srcs
 have hnd:(p.srcs++p.defs.map Dfn.name).Nodup:=(progR_parts hpr).1
 have hdm:(p.defs.map Dfn.iv).length=p.defs.length:=List.length_map ..
 have hss:(p.srcs.map sv).length=p.srcs.length:=List.length_map ..
 refine Ret.of (fn:=Go.Proofs.Tryz.f76) (by kernel_rfl) rfl rfl ?_
 refine BB ?_
 refine D.op1 (O.makeSlice (ke:=ty432) rfl inferInstance rfl rfl ⟨by omega,Int.le_refl _,by unfold most;omega⟩ (by decide) rfl (by decide)) rfl rfl ?_
 rw [hdm,Int.toNat_natCast]
 refine BB ?_
 have hnumK:∀ (n:Nat),((List.range n).map natIV).map AV.imm++[.imm (natIV n)]=((List.range (n+1)).map natIV).map AV.imm:=fun n=>by rw [List.range_succ];simp
 refine W.loop (X:=Nat) (fun i=>[(1, .ptr 0 0),(3, .ptr 10 0),(30, .imm (.lst (p.srcs.map sv))),(31, .imm (.int .i64 (p.srcs.map sv).length)),(32, .imm (.int .i64 i))])
  (fun i nx G=>11<=nx/\i<=p.srcs.length/\G 0 = .box [.imm (.lst (p.srcs.map sv)), .imm (.lst (p.defs.map Dfn.iv))] false/\G 3 = .mp ((p.srcs.take i).map sv) (((List.range i).map natIV).map .imm) false /\
   G 10 = .box [.imm (.lst (p.srcs.map sv)), .imm (.lst (p.defs.map Dfn.iv)), .map 3, .row 7 p.defs.length, .imm (.fmp wayKs wayVs)] false/\G 7 = .row 132 1 (List.replicate p.defs.length .nils) false)
  (fun i=>p.srcs.length-i) 0 .auto ⟨by omega,Nat.zero_le _,rfl,rfl,rfl,rfl⟩ ?_
 rintro i nx G ⟨hnx,hi,g0,g3,g10,g7⟩
 refine BN ?_
 refine W.cond rfl (fun h1=>?_) (fun h1=>?_)
 ·have hlt:i < p.srcs.length:=by have:=of_decide_eq_true h1;rw [hss] at this;omega
  have hmu:p.srcs.length-(i+1) < p.srcs.length-i:=by omega
  obtain ⟨s,hs⟩:=at_lt hlt
  have hsi:=at_map sv hs
  have hnew:=not_take (List.nodup_append.1 hnd).1 hs
  refine BN ?_
  refine R.opN1 (O.mapNew rfl inferInstance rfl rfl rfl g3 rfl (strNew hnew)) ?_
  refine BN ?_
  refine W.skipLop (i+1) hmu .auto ⟨by omega,hlt,(upd_ne _ _ _ _ (by omega)).trans g0,?_,(upd_ne _ _ _ _ (by omega)).trans g10,(upd_ne _ _ _ _ (by omega)).trans g7⟩
  rw [upd_same,<-hnumK i,List.take_add_one,hs,List.map_append]
  rfl
 ·have hge:i=p.srcs.length:=by have:=of_decide_eq_false h1;rw [hss] at this;omega
  subst hge
  rw [List.take_length] at g3
  refine BN ?_
  refine W.loop (X:=Nat) (fun i=>[(1, .ptr 0 0),(3, .ptr 10 0),(45, .imm (.lst (p.defs.map Dfn.iv))),(46, .imm (.int .i64 (p.defs.map Dfn.iv).length)),(47, .imm (.int .i64 i))])
   (fun i nx G=>11<=nx/\i<=p.defs.length/\G 0 = .box [.imm (.lst (p.srcs.map sv)), .imm (.lst (p.defs.map Dfn.iv))] false/\G 3 = .mp ((p.srcs++(p.defs.map Dfn.name).take i).map sv) (((List.range p.srcs.length++List.range i).map natIV).map .imm) false /\
    G 10 = .box [.imm (.lst (p.srcs.map sv)), .imm (.lst (p.defs.map Dfn.iv)), .map 3, .row 7 p.defs.length, .imm (.fmp wayKs wayVs)] false /\
    ∃ ws,ws.length=i/\G 7 = .row 132 1 (ws++List.replicate (p.defs.length-ws.length) .nils) false/\All2 (RowL 153 11 nx G) ws (List.replicate i (List.replicate p.srcs.length Lg.z)))
   (fun i=>p.defs.length-i) 0 .auto ⟨by omega,Nat.zero_le _,g0,by simpa using g3,g10,[],rfl,g7,trivial⟩ ?_
  clear g0 g3 g10 g7
  rintro i nx2 G2 ⟨hnx2,hi,g0,g3,g10,ws,hwl,g7,hall2⟩
  have hwl2:(ws++List.replicate (p.defs.length-ws.length) AV.nils).length=p.defs.length:=by simp;omega
  refine BN ?_
  refine W.cond rfl (fun h2=>?_) (fun h2=>?_)
  ·have hlt:i < p.defs.length:=by have:=of_decide_eq_true h2;rw [hdm] at this;omega
   have hmu:p.defs.length-(i+1) < p.defs.length-i:=by omega
   obtain ⟨x,hx⟩:=at_lt hlt
   have hxi:=at_map Dfn.iv hx
   have hnm:(p.srcs++p.defs.map Dfn.name)[p.srcs.length+i]? = some x.name:=by rw [List.getElem?_append_right (by omega),Nat.add_sub_cancel_left,List.getElem?_map,hx];rfl
   have hnew:=not_take hnd hnm
   rw [List.take_append,List.take_of_length_le (by omega),Nat.add_sub_cancel_left] at hnew
   have hnt:(p.defs.map Dfn.name).take (i+1)=(p.defs.map Dfn.name).take i++[x.name]:=by rw [List.take_add_one,List.getElem?_map,hx];rfl
   have hxc:=x.cells_len
   obtain ⟨nm,⟨o',s',n',f',c',k'⟩⟩:=x
   refine BN ?_
   refine D.opN1 (O.mapNew rfl inferInstance rfl rfl rfl at_upd rfl (strNew hnew)) rfl ?_
   refine BB ?_
   refine D.op1 (O.makeL (n:=p.srcs.length) (fun _=>Lg.z) rfl inferInstance ⟨rfl,rfl,by decide⟩ rfl rfl (by omega) (by omega)) rfl rfl ?_
   refine D.op0 (O.addrRX rfl inferInstance rfl rfl (at_upd:_=Obj.row 132 1 (ws++List.replicate (p.defs.length-ws.length) AV.nils) false) hwl2 (by omega) rfl) rfl rfl ?_
   refine D.opN1 (O.storeR rfl rfl rfl rfl at_upd hwl2 (by rw [Int.toNat_natCast,<-hwl];exact rep_at (by omega)) rfl rfl) rfl ?_
   refine BB ?_
   have hz:mixL p.srcs.length 0 (fun _=>Lg.z) (fun _=>Lg.z)=List.replicate p.srcs.length Lg.z:=by rw [mixL_zero,List.map_const',List.length_range]
   refine W.skipLop (i+1) hmu .auto ⟨by omega,hlt,at_upd,?_,at_upd,ws++[.row (nx2+1+6+8+8) p.srcs.length],by simp [hwl],?_,?_⟩
   ·refine (upd_ne _ _ _ _ (by omega)).trans ((upd_ne _ _ _ _ (by omega)).trans ((upd_same ..).trans ?_))
    rw [hnt,<-List.append_assoc,List.range_succ,<-List.append_assoc]
    simp [natIV]
   ·rw [upd_same,Int.toNat_natCast,<-hwl,rep_set (by omega)]
   ·rw [List.replicate_succ']
    refine All2.append (hall2.imp fun _ _ h=>h.frame (Nat.le_refl _) (by omega) fun o ho1 ho2 _=>at_upd) ⟨⟨nx2+1+6+8+8,false,by omega,by omega,by simp,?_⟩,trivial⟩
    rw [upd_ne _ _ _ _ (by omega),upd_same,hz]
  ·have hge:i=p.defs.length:=by have:=of_decide_eq_false h2;rw [hdm] at this;omega
   subst hge
   rw [hwl,Nat.sub_self,List.replicate_zero,List.append_nil] at g7
   rw [List.take_of_length_le (by simp)] at g3
   have hrows:RowsL 153 132 7 11 nx2 G2 (lagsTo p ((orderR (tosR p)).take 0)):=by
    rw [List.take_zero]
    exact ⟨ws,by rw [hwl];exact (List.length_replicate ..).symm,g7,hall2⟩
   have hexp:=fun (E:List (List Lg)) (hW:Wide p E) (hI:InL 40000000 E) (d:Nat) (hd:d < p.defs.length) G nx lo hi kv=>@cal382 p hp hpr E 40000000 (by omega) hW hI 1000 (expAt p d) (hsm.cnt d) (Nat.le_refl _) (progR_nodeP hpr hd) G nx lo hi kv
   have hw:=fun g i k=>lags3_wide hpr g i k
   have hin:=fun g i k=>lags3_in hpr (g:=g) (i:=i) (k:=k)
   have hstl:=fun g r=>lags3_still hpr (g:=g) (r:=r)
   have hmst:=fun g r=>lags3_must hpr (g:=g) (r:=r)
   unfold lagsR
   generalize hgsE:orderR (tosR p)=gs at *
   have hgm:(gs.map natsIV).length=gs.length:=List.length_map ..
   clear hall2 g7 hwl2
   refine BN ?_
   refine W.loop (X:=Nat) (fun g=>[(1, .ptr 0 0),(3, .ptr 10 0),(75, .imm (.lst (gs.map natsIV))),(76, .imm (.int .i64 (gs.map natsIV).length)),(77, .imm (.int .i64 g))])
    (fun g nx G=>11<=nx/\g<=gs.length/\G 0 = .box [.imm (.lst (p.srcs.map sv)), .imm (.lst (p.defs.map Dfn.iv))] false/\G 3 = .mp (numKs p) ((numVs p).map .imm) false /\
     G 10 = .box [.imm (.lst (p.srcs.map sv)), .imm (.lst (p.defs.map Dfn.iv)), .map 3, .row 7 p.defs.length, .imm (.fmp wayKs wayVs)] false/\RowsL 153 132 7 11 nx G (lagsTo p (gs.take g)))
    (fun g=>gs.length-g) 0 .auto ⟨by omega,Nat.zero_le _,g0,g3,g10,hrows.frame rfl (Nat.le_refl _) (by omega) fun _ _ _ _=>rfl⟩ ?_
   clear hrows g0 g3 g10
   rintro g nx3 G3 ⟨hnx3,hgi,g0,g3,g10,hrows⟩
   refine BN ?_
   refine W.cond rfl (fun h3=>?_) (fun h3=>?_)
   ·have hlt:g < gs.length:=by have:=of_decide_eq_true h3;rw [hgm] at this;omega
    have hmu:gs.length-(g+1) < gs.length-g:=by omega
    have hgr:gs[g]? = some (gs.getD g []):=by rw [List.getD_eq_getElem?_getD,List.getElem?_eq_getElem hlt];rfl
    obtain ⟨hg6,hgd,hgi2⟩:=hgs _ (List.mem_of_getElem? hgr)
    have hgat:=at_map natsIV hgr
    have hrnd:=fun i=>lags3_round (p:=p) (gs:=gs) (g:=g) (i:=i)
    have hnxt:=fun i k d (h:(gs.getD g [])[k]? = some d)=>lags3_next (p:=p) (gs:=gs) (g:=g) (i:=i) (k:=k) h
    have hstep:=fun r k d (h:(gs.getD g [])[k]? = some d) (hl:d < (lags3 p gs g r k).length)=>still_step (p:=p) (ring:=ringB (tosR p) (gs.getD g [])) (E:=rndsL p (ringB (tosR p) (gs.getD g [])) (gs.getD g []) r (lagsTo p (gs.take g))) hgi2.nodup h hl
    rw [<-lags3_zero] at hrows
    have hw:=fun i k=>hw g i k
    have hin:=fun i k hi=>hin g i k hlt hi
    have hstl:=fun r=>hstl g r hlt
    have hmst:=fun r=>hmst g r hlt
    have hD0:∀ r,rndsL p (ringB (tosR p) (gs.getD g [])) (gs.getD g []) r (lagsTo p (gs.take g))=lags3 p gs g r 0:=fun r=>by unfold lags3;rw [List.take_zero];rfl
    have hDk:∀ r k,rndL p (ringB (tosR p) (gs.getD g [])) ((gs.getD g []).take k) (rndsL p (ringB (tosR p) (gs.getD g [])) (gs.getD g []) r (lagsTo p (gs.take g)))=lags3 p gs g r k:=fun r k=>rfl
    simp only [hDk] at hstep
    simp only [hD0] at hstep
    clear hD0 hDk
    generalize hgrE:gs.getD g []=gr at *
    obtain ⟨f,rest,hfr⟩:=hgi2.ne
    have hf:f∈gr:=by rw [hfr];exact List.mem_cons_self ..
    have hfl:=hgd f hf
    have hf0:(gr.map natIV)[((0:Int)).toNat]? = some (natIV f):=by rw [hfr];rfl
    have hhas:hasR p (f:Int)=true:=by
     unfold hasR
     rw [hpr,decide_eq_true (by omega),decide_eq_true (by omega)];rfl
    have h15:=ret15 p hp (f:Int)
    have hra:reachA p (f:Int)=reachN p f:=by unfold reachA;rw [if_pos hhas,Int.toNat_natCast]
    rw [hra] at h15
    have hrl:(reachN p f).length<=1000:=by
     unfold reachN
     have:=List.length_filter_le (reachB (tosR p) f) (List.range p.defs.length)
     rw [List.length_range] at this
     omega
    have h438:=ret438 hrl f
    have hcon:(reachN p f).contains f=ringB (tosR p) gr:=by
     rw [<-hgi2.ring f hf,Bool.eq_iff_iff,List.contains_iff_mem]
     unfold reachN
     rw [List.mem_filter,List.mem_range]
     exact ⟨fun h=>h.2,fun h=>⟨hfl,h⟩⟩
    rw [hcon] at h438
    generalize srcsA p (f:Int)=sr at *
    generalize errR p (f:Int)=er at *
    generalize reachN p f=rl at *
    have hrm:(gr.map natIV).length=gr.length:=List.length_map ..
    refine BN ?_
    refine W.loop (X:=Nat) (fun _=>[(1, .ptr 0 0),(3, .ptr 10 0),(75, .imm (.lst (gs.map natsIV))),(76, .imm (.int .i64 (gs.map natsIV).length)),(77, .imm (.int .i64 g)),(11, .imm (natsIV gr)),(15, .imm (.bool (ringB (tosR p) gr)))])
     (fun r nx G=>11<=nx/\r<=gr.length/\G 0 = .box [.imm (.lst (p.srcs.map sv)), .imm (.lst (p.defs.map Dfn.iv))] false/\G 3 = .mp (numKs p) ((numVs p).map .imm) false /\
      G 10 = .box [.imm (.lst (p.srcs.map sv)), .imm (.lst (p.defs.map Dfn.iv)), .map 3, .row 7 p.defs.length, .imm (.fmp wayKs wayVs)] false/\RowsL 153 132 7 11 nx G (lags3 p gs g r 0))
     (fun r=>gr.length+1-r) 0 .auto ⟨by omega,Nat.zero_le _,g0,g3,g10,hrows.frame rfl (Nat.le_refl _) (by omega) fun _ _ _ _=>rfl⟩ ?_
    clear hrows g0 g3 g10
    rintro r nx4 G4 ⟨hnx4,hr,g0,g3,g10,hrows⟩
    refine BN ?_
    refine W.loop (X:=Nat×Bool) (fun s=>[(1, .ptr 0 0),(3, .ptr 10 0),(75, .imm (.lst (gs.map natsIV))),(76, .imm (.int .i64 (gs.map natsIV).length)),(77, .imm (.int .i64 g)),(11, .imm (natsIV gr)),(15, .imm (.bool (ringB (tosR p) gr))),(16, .imm (.bool s.2)),(95, .imm (natsIV gr)),(96, .imm (.int .i64 (gr.map natIV).length)),(97, .imm (.int .i64 s.1))])
     (fun s nx G=>11<=nx/\s.1<=gr.length/\(s.2=true↔lags3 p gs g r s.1=lags3 p gs g r 0)/\G 0 = .box [.imm (.lst (p.srcs.map sv)), .imm (.lst (p.defs.map Dfn.iv))] false/\G 3 = .mp (numKs p) ((numVs p).map .imm) false /\
      G 10 = .box [.imm (.lst (p.srcs.map sv)), .imm (.lst (p.defs.map Dfn.iv)), .map 3, .row 7 p.defs.length, .imm (.fmp wayKs wayVs)] false/\RowsL 153 132 7 11 nx G (lags3 p gs g r s.1))
     (fun s=>gr.length-s.1) (0,true) .auto ⟨by omega,Nat.zero_le _,⟨fun _=>rfl,fun _=>rfl⟩,g0,g3,g10,hrows.frame rfl (Nat.le_refl _) (by omega) fun _ _ _ _=>rfl⟩ ?_
    clear hrows g0 g3 g10
    rintro ⟨k,st⟩ nx5 G5 ⟨hnx5,hk,hst,g0,g3,g10,hrows⟩
    dsimp only at hk hst hrows ⊢
    refine BN ?_
    refine W.cond rfl (fun h4=>?_) (fun h4=>?_)
    ·have hkl:k < gr.length:=by have:=of_decide_eq_true h4;omega
     have hmu4:gr.length-(k+1) < gr.length-k:=by omega
     obtain ⟨d,hd⟩:=at_lt hkl
     have hdi:=at_map natIV hd
     have hdl:=hgd d (List.mem_of_getElem? hd)
     obtain ⟨x,hx⟩:=at_lt hdl
     have hxi:=at_map Dfn.iv hx
     have hE:=(hw r k).len
     have hkn:KnV p 11 nx5 G5 (.ptr 10 0) (lags3 p gs g r k) := .inr ⟨10,3,7,⟨by omega,by omega,by omega⟩,rfl,by rw [hE];exact g10,g3,hrows⟩
     have hc:=fun nx6 (h:nx5<=nx6)=>hexp (lags3 p gs g r k) (hw r k) (hin r k (by omega)) d hdl G5 nx6 11 nx5 (.ptr 10 0) hkn h
     have hnx:=hnxt r k d hd
     have hsp:=hstep r k d hd (by omega)
     rw [expAt_at hx] at hc
     have hrow:rowL p (ringB (tosR p) gr) (lags3 p gs g r k) d=(allL p (lags3 p gs g r k) x.exp).map (ringL (ringB (tosR p) gr)):=by unfold rowL;rw [expAt_at hx]
     have hri:=rowL_in hsm (by omega) (hin r k (by omega)) (ringB (tosR p) gr) hdl
     have hin5:=hin r k (by omega)
     have hall_len:(allL p (lags3 p gs g r k) x.exp).length=p.srcs.length:=by simp [allL]
     have hsp1:1<=p.srcs.length:=(progR_parts hpr).2.1.1
     rw [hrow] at hsp hri
     generalize allL p (lags3 p gs g r k) x.exp=al at *
     generalize lags3 p gs g r k=E at *
     generalize hrb:ringB (tosR p) gr=rb at *
     have hxc:=x.cells_len
     obtain ⟨nm,⟨o',s',n',f',c',k'⟩⟩:=x
     refine BN ?_
     refine R.callB rfl rfl rfl rfl rfl ((hc _ (by omega)).mono fun v G6 nx6 hv=>?_)
     obtain ⟨hv,hn6,hG6⟩:=hv
     have c6:∀ o,o < nx5->G6 o=G5 o:=fun o ho=>(hG6 o (by omega)).trans rfl
     refine BN ?_
     refine W.unseq (W.cut (X:=AV) (fun v=>[(1, .ptr 0 0),(3, .ptr 10 0),(75, .imm (.lst (gs.map natsIV))),(76, .imm (.int .i64 (gs.map natsIV).length)),(77, .imm (.int .i64 g)),(11, .imm (natsIV gr)),(15, .imm (.bool rb)),(16, .imm (.bool st)),(95, .imm (natsIV gr)),(96, .imm (.int .i64 (gr.map natIV).length)),(97, .imm (.int .i64 k)),(18, .imm (natIV d)),(19,v)])
      (fun v nx G=>nx5<=nx/\(∀ o,o < nx5->G o=G5 o)/\RowL 153 nx5 nx G v (al.map (ringL rb))) ?_ ?_)
     ·cases rb with
      |true=>
       refine BN ?_
       refine R.callB rfl rfl rfl rfl rfl ((cal439 (l:=al) (g:=fun _ a=>(a.thru true 0 0).iv) rfl rfl (fun _ _=>rfl) (.inr hv) (by omega) (by omega) fun i a _ G' nx' _ _=>cal440).mono fun v2 G7 nx7 hv2=>?_)
       obtain ⟨ho,hn7,hG7⟩:=hv2
       rw [mapIdx_map fun a=>a.thru true 0 0] at ho
       refine BN ?_
       exact W.skipCut v2 .auto ⟨by omega,fun o ho=>(hG7 o (by omega)).trans (c6 o ho),(ho.rowL fun hc=>by have:=congrArg List.length hc;rw [List.length_map,List.length_nil] at this;omega).frame (by omega) (by omega) fun _ _ _ _=>rfl⟩
      |false=>
       refine BN ?_
       exact W.skipCut v .auto ⟨by omega,c6,by rw [show al.map (ringL false)=al from List.map_id' al];exact hv.frame (by omega) (by omega) fun _ _ _ _=>rfl⟩
     ·rintro v2 nx7 G7 ⟨hnx7,c7,hv2⟩
      have g07:=(c7 0 (by omega)).trans g0
      have g37:=(c7 3 (by omega)).trans g3
      have g107:=(c7 10 (by omega)).trans g10
      have hrows7:=hrows.frame (G':=G7) (hi':=nx7) (c7 7 (by omega)) (Nat.le_refl _) (by omega) fun o _ ho _=>c7 o ho
      obtain ⟨ws,hwl,h7,hset⟩:=hrows7.set (hv2.frame (by omega) (Nat.le_refl _) fun _ _ _ _=>rfl) d
      obtain ⟨ws2,hw21,hw22,hw23⟩:=hrows7
      have hwe:ws2=ws:=by rw [h7] at hw22;cases hw22;rfl
      subst hwe
      have hwl':ws2.length=p.defs.length:=by omega
      obtain ⟨ld,hld⟩:∃ r,E[d]? = some r:=at_lt (by omega)
      have hld':E.getD d []=ld:=by rw [List.getD_eq_getElem?_getD,hld];rfl
      obtain ⟨wd,hwd1,hwd2⟩:=hw23.at hld
      have hldi:∀ a∈ld,a.In 4294967296:=fun a ha=>(hin5 ld (List.mem_of_getElem? hld) a ha).mono (by omega)
      have hali:∀ a∈al.map (ringL rb),a.In 4294967296:=fun a ha=>(hri a ha).mono (by omega)
      have h442:=ret442 hali hldi (by rw [List.length_map];omega)
      obtain ⟨q1,_,_,hq1⟩:=hv2.peek
      obtain ⟨q2,_,_,hq2⟩:=hwd2.peek
      obtain ⟨o2,fr2,ho21,ho22,rfl,ho23⟩:=hwd2
      have hwi:ws2[(d:Int).toNat]? = some (.row o2 ld.length):=by rw [Int.toNat_natCast];exact hwd1
      rw [hld'] at hsp
      have hnew:(st&&lagsEq (al.map (ringL rb)) ld)=true↔lags3 p gs g r (k+1)=lags3 p gs g r 0:=by
       rw [Bool.and_eq_true,lagsEq_iff,hst];exact hsp.symm
      have hv2f:=hv2.fits
      obtain ⟨ov,frv,hv21,hv22,rfl,hv23⟩:=hv2
      generalize lagsEq (al.map (ringL rb)) ld=eq at *
      cases st with
      |true=>
       refine BN ?_
       refine R.op0 (O.callG rfl (peeks_one hq1 (peeks_one hq2 peeks_nil)) h442 rfl) rfl ?_
       refine BN ?_
       refine R.opN1 (O.storeR rfl rfl rfl rfl h7 hwl' hwi rfl rfl) ?_
       refine BN ?_
       exact W.skipLop (k+1,eq) hmu4 .auto ⟨by omega,hkl,hnew,(upd_ne _ _ _ _ (by omega)).trans g07,(upd_ne _ _ _ _ (by omega)).trans g37,(upd_ne _ _ _ _ (by omega)).trans g107,by rw [hnx];unfold setL;rw [hrow];exact hset.frame rfl (Nat.le_refl _) (by omega) fun _ _ _ _=>rfl⟩
      |false=>
       refine BN ?_
       refine R.opN1 (O.storeR rfl rfl rfl rfl h7 hwl' hwi rfl rfl) ?_
       refine BN ?_
       exact W.skipLop (k+1,false) hmu4 .auto ⟨by omega,hkl,hnew,(upd_ne _ _ _ _ (by omega)).trans g07,(upd_ne _ _ _ _ (by omega)).trans g37,(upd_ne _ _ _ _ (by omega)).trans g107,by rw [hnx];unfold setL;rw [hrow];exact hset.frame rfl (Nat.le_refl _) (by omega) fun _ _ _ _=>rfl⟩
    ·have hge:k=gr.length:=by have:=of_decide_eq_false h4;omega
     subst hge
     cases st with
     |true=>
      rw [hst.1 rfl,hstl r (hst.1 rfl)] at hrows
      refine BN ?_
      exact W.skipLop (g+1) hmu .auto ⟨by omega,hlt,g0,g3,g10,hrows.frame rfl (Nat.le_refl _) (by omega) fun _ _ _ _=>rfl⟩
     |false=>
      have hrl:r < gr.length:=Classical.byContradiction fun hc=>by
       have:=hst.2 (hmst r (by omega))
       cases this
      rw [hrnd r] at hrows
      have hmu5:gr.length+1-(r+1) < gr.length+1-r:=by omega
      refine BN ?_
      exact W.skipLop (r+1) hmu5 .auto ⟨by omega,hrl,g0,g3,g10,hrows.frame rfl (Nat.le_refl _) (by omega) fun _ _ _ _=>rfl⟩
   ·have hge:gs.length<=g:=by have:=of_decide_eq_false h3;rw [hgm] at this;omega
    rw [List.take_of_length_le hge] at hrows
    have hl:=((lags_so hpr gs.length).wide).len
    rw [hgsE,List.take_of_length_le (Nat.le_refl _)] at hl
    have hrd:=hrows.rdx
    rw [hl] at hrd
    refine BN ?_
    have hkn:Rdx 3 G3 (fun _=>True) (.ptr 10 0) (knIV p (lagsTo p gs)):=Rdx.ptr g10 ⟨Rdx.imm _ _ _ _,Rdx.imm _ _ _ _,(Rdx.map g3 (All2.imms 1 _ _ _) trivial),hrd,Rdx.imm _ _ _ _,trivial⟩ trivial
    exact W.retFin1 rfl (hkn.peek (by decide))
end Go.Abs

/- Which answers an event touches. -/
open Go Go.Abs
namespace Go.Abs
set_option maxRecDepth 100000
set_option maxHeartbeats 4000000
instance fnis380:FnIs CC 80:=⟨rfl,fun _=>rfl⟩
instance fnis339:FnIs CC 39:=⟨rfl,fun _=>rfl⟩
theorem ret380 {p:Pgm} (hp:p.Fits) (d:Int):Ret CC 80 [p.iv, .int .i64 d] (.bool (hasR p d)):=by
 have h29:=ret29 p hp
 have hdm:(p.defs.map Dfn.iv).length=p.defs.length:=List.length_map ..
 unfold hasR
 cases hpr:progR p with
 |false=>
  rw [hpr] at h29
  obtain ⟨srcs,defs⟩:=p
  have bz:((2:Int)==0)=false:=rfl
  refine Ret.of (fn:=Go.Proofs.Tryz.f80) (by kernel_rfl) rfl rfl ?_
  refine BB ?_
  exact W.retFin1 rfl ⟨[],rfl⟩
 |true=>
  rw [hpr] at h29
  obtain ⟨srcs,defs⟩:=p
  have bz:((0:Int)==0)=true:=rfl
  simp only [Bool.true_and]
  rw [<-hdm]
  refine Ret.of (fn:=Go.Proofs.Tryz.f80) (by kernel_rfl) rfl rfl ?_
  cases h0:decide (d>=0) with
  |false=>
   refine BB ?_
   exact W.retFin1 rfl ⟨[],rfl⟩
  |true=>
   refine BB ?_
   exact W.retFin1 rfl ⟨[],rfl⟩
def touchF (a:Lg) (w:Int):Int:=mxI 0 (w-a.ahead)
def touchL (a:Lg) (w:Int):Int:=if a.ever then 200 else mnI 200 (w+a.back)
def touchT (a:Lg) (w:Int):Int×Int×Int:=if a.on then (if decide (touchF a w > touchL a w) then (0,0,5) else (touchF a w,touchL a w,0)) else (0,0,5)
noncomputable def touchA (p:Pgm) (d src w:Int):Int×Int×Int:=
 if hasR p d && !decide (src < 0) && !decide (src>=(p.srcs.length:Int)) && !decide (w < 0) && !decide (w > 200) then touchT (((lagsR p).getD d.toNat []).getD src.toNat Lg.z) w else (0,0,2)
def trip (x:Int×Int×Int):IV := .tup [.int .i64 x.1, .int .i64 x.2.1, .int .i64 x.2.2]
theorem lagsR_far {p:Pgm} (hp:progR p=true):Wide p (lagsR p)/\InL 40000000 (lagsR p):=by
 have h:=lags_so hp (orderR (tosR p)).length
 rw [List.take_length] at h
 have h6:=(order_small hp).1
 exact ⟨h.wide,h.low.mono (by omega)⟩
theorem lagsR_row {p:Pgm} (hp:progR p=true) {d:Nat} (hd:d < p.defs.length):((lagsR p).map lagsIV)[(d:Int).toNat]? = some (lagsIV ((lagsR p).getD d []))/\((lagsR p).getD d []).length=p.srcs.length/\∀ a∈(lagsR p).getD d [],a.In 40000000/\a.Ok:=by
 obtain ⟨h1,h2⟩:=lagsR_far hp
 have hlt:d < (lagsR p).length:=by rw [h1.len];exact hd
 rw [List.getD_eq_getElem?_getD,List.getElem?_eq_getElem hlt]
 refine ⟨by rw [Int.toNat_natCast,List.getElem?_map,List.getElem?_eq_getElem hlt];rfl,h1.row _ (List.getElem_mem hlt),fun a ha=>⟨h2 _ (List.getElem_mem hlt) a ha,h1.ok _ (List.getElem_mem hlt) a ha⟩⟩
theorem ret339 {p:Pgm} (hp:p.Fits) (d src w:Int):Ret CC 39 [p.iv, .int .i64 d, .int .i64 src, .int .i64 w] (trip (touchA p d src w)):=by
 have h380:=ret380 hp d
 have hss:(p.srcs.map sv).length=p.srcs.length:=List.length_map ..
 unfold touchA
 cases hh:hasR p d with
 |false=>
  rw [hh] at h380
  obtain ⟨srcs,defs⟩:=p
  have bt:(!false)=true:=rfl
  refine Ret.of (fn:=Go.Proofs.Tryz.f39) (by kernel_rfl) rfl rfl ?_
  refine BB ?_
  exact W.retFin rfl rfl ⟨[],rfl⟩
 |true=>
  obtain ⟨hpr,n,x,rfl,hx⟩:=hasR_at hh
  have hdl:=(List.getElem?_eq_some_iff.1 hx).1
  have h376:=ret376 hp hpr
  obtain ⟨hrow,hrl,hri⟩:=lagsR_row hpr hdl
  rw [Int.toNat_natCast]
  unfold knIV at h376
  generalize (lagsR p).getD n []=row at *
  generalize (lagsR p).map lagsIV=E at *
  rw [hh] at h380
  rw [<-hss]
  have bf:(!true)=false:=rfl
  cases h1:decide (src < 0) with
  |true=>
   refine Ret.of (fn:=Go.Proofs.Tryz.f39) (by kernel_rfl) rfl rfl ?_
   refine BB ?_
   exact W.retFin rfl rfl ⟨[],rfl⟩
  |false=>
   cases h2:decide (src>=((p.srcs.map sv).length:Int)) with
   |true=>
    refine Ret.of (fn:=Go.Proofs.Tryz.f39) (by kernel_rfl) rfl rfl ?_
    refine BB ?_
    exact W.retFin rfl rfl ⟨[],rfl⟩
   |false=>
    cases h3:decide (w < 0) with
    |true=>
     refine Ret.of (fn:=Go.Proofs.Tryz.f39) (by kernel_rfl) rfl rfl ?_
     refine BB ?_
     exact W.retFin rfl rfl ⟨[],rfl⟩
    |false=>
     cases h4:decide (w > 200) with
     |true=>
      refine Ret.of (fn:=Go.Proofs.Tryz.f39) (by kernel_rfl) rfl rfl ?_
      refine BB ?_
      exact W.retFin rfl rfl ⟨[],rfl⟩
     |false=>
      have g1:=of_decide_eq_false h1
      have g2:=of_decide_eq_false h2
      have g3:=of_decide_eq_false h3
      have g4:=of_decide_eq_false h4
      obtain ⟨s,rfl⟩:=Int.eq_ofNat_of_zero_le (show 0<=src by omega)
      have hsl:s < row.length:=by omega
      have hat:=lag_ivat hsl
      have hai:=getD_in (K:=40000000) (by omega) (fun a ha=>(hri a ha).1) s
      rw [Int.toNat_natCast]
      generalize row.getD s Lg.z=a at *
      have hb:=hai.back
      have ha:=hai.ahead
      obtain ⟨on,e,b,f⟩:=a
      simp only at ha hb
      rw [Lg.iv_mk] at *
      have hneg:w-f=w + -f:=Int.sub_eq_add_neg
      refine Ret.of (fn:=Go.Proofs.Tryz.f39) (by kernel_rfl) rfl rfl ?_
      cases on with
      |false=>
       cases e
       all_goals
        refine BB ?_
        exact W.retFin rfl rfl ⟨[],rfl⟩
      |true=>
       unfold touchT
       rcases Bool.eq_false_or_eq_true (decide (touchF ⟨true,e,b,f⟩ w > touchL ⟨true,e,b,f⟩ w)) with hd|hd
       all_goals
        rw [hd]
        unfold touchF touchL mxI mnI at *
        simp only [hneg] at *
        cases e
        all_goals
         simp only [Bool.false_eq_true,if_false,if_true] at hd ⊢
         refine BB ?_
         exact W.retFin rfl rfl ⟨[],rfl⟩
end Go.Abs
