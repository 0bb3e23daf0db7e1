/- Programs with other names, as the program makes them. -/
import Derived.Test.YtbdoijpclmhbaaaGreatRn10
open Go Go.Abs
namespace Go.Abs
set_option maxRecDepth 100000
set_option maxHeartbeats 4000000
instance fnis45:FnIs CC 14:=⟨rfl,fun _=>rfl⟩
instance fnis200:FnIs CC 16:=⟨rfl,fun _=>rfl⟩
noncomputable def alikeR (p q:Pgm):Bool×Int:=if (progR p&&progR q)=true then ((canonP p).same (canonP q),0) else (false,2)
theorem renE_sm {to:Str->Str} {e:Exp} (h:e.Sm):(renE to e).Sm:=by
 induction h with
 |mk op name n fold calcs kids hc hk hcs hks ih=>
 rw [renE,renL_map]
 refine .mk _ _ _ _ _ _ hc (by rw [List.length_map];exact hk) hcs fun k hk'=>?_
 obtain ⟨x,hx,rfl⟩:=List.mem_map.1 hk'
 exact ih x hx
theorem canonP_sm {p:Pgm} (h:∀ d∈p.defs,d.exp.Sm):∀ d∈(canonP p).defs,d.exp.Sm:=by
 intro d hd
 obtain ⟨x,hx,rfl⟩:=List.mem_map.1 hd
 exact renE_sm (h x hx)
theorem canonP_len (p:Pgm):(canonP p).srcs.length=p.srcs.length/\(canonP p).defs.length=p.defs.length:=by
 unfold canonP
 exact ⟨canonL_len _,List.length_map ..⟩
theorem toLook {old now:List Str} (hl:now.length=old.length) (s:Str):lookIs (some ty9) (some ty9) (some (old.map sv,(now.map sv).map .imm)) (sv s) false (.imm (sv (if old.contains s then now.getD (idxN old s) [] else []))):=by
 refine ⟨rfl,?_⟩
 rw [keyFind_sv,<-findIdx_contains]
 unfold idxN
 cases h:old.findIdx? fun x=>s==x with
 |none=>exact .inr ⟨rfl,rfl⟩
 |some j=>
  have hj:=findIdx_lt h
  obtain ⟨t,ht⟩:=at_lt (l:=now) (i:=j) (by omega)
  refine .inl ⟨j, .imm (sv t),rfl,by simp [ht],?_⟩
  simp [ht]
theorem toIs_of {p:Pgm} (hn:∀ s∈oldN p,nameOk s=true) {s:Str} (h:s=[]\/s∈oldN p):ToIs ((oldN p).map sv) ((canonL (oldN p).length).map sv) (toC p) s:=by
 refine ⟨fun he=>?_,fun hne=>?_⟩
 ·subst he
  unfold toC toR
  rw [if_neg]
  intro h
  exact nameOk_ne (hn [] (by simpa using h)) rfl
 ·have hm:s∈oldN p:=h.resolve_left hne
  have:=toLook (canonL_len (oldN p).length) s
  unfold toC toR
  rw [if_pos (by simpa using hm)] at this ⊢
  exact this
theorem setLast {old:List Str} {i:Nat} {s:Str} (hn:old.Nodup) (hi:old[i]? = some s):keyFind (sv s) ((old.take i).map sv)=some none:=by
 rw [keyFind_sv]
 cases h':(old.take i).findIdx? fun x=>s==x with
 |none=>rfl
 |some j=>
  exfalso
  obtain ⟨h1,h2,_⟩:=List.findIdx?_eq_some_iff_getElem.1 h'
  have h2:s=(old.take i)[j]:=by simpa using h2
  have hj:j < i:=by rw [List.length_take] at h1;omega
  have hil:=(List.getElem?_eq_some_iff.1 hi).1
  rw [List.getElem_take] at h2
  exact List.pairwise_iff_getElem.1 hn j i (by omega) hil hj (by rw [<-h2,(List.getElem?_eq_some_iff.1 hi).2])
theorem touch_map {G:Nat->Obj} {o:Nat} {ks vs:List IV} {fr:Bool} (h:G o = .mp ks (vs.map .imm) fr):touch G pkDepth (.map o)=[o]:=by
 show touch G (99+1) _=_
 unfold touch
 rw [h]
 dsimp only
 rw [touch_imms]
theorem ret45 {p:Pgm} (hp:p.Fits):Ret CC 14 [p.iv] (.tup [(canonR p).1.iv, .int .i64 (canonR p).2]):=by
 have h54:=ret54 p hp
 unfold canonR
 unfold lookedIV at h54
 cases hb:progR p with
 |false=>
  rw [hb] at h54
  simp only [Bool.false_eq_true,if_false] at h54 ⊢
  obtain ⟨srcs,defs⟩:=p
  refine Ret.of (fn:=Go.Proofs.Tryz.f14) (by kernel_rfl) rfl rfl ?_
  refine BB ?_
  exact W.retFinCT rfl rfl rfl rfl rfl ⟨[],rfl⟩
 |true=>
 rw [hb] at h54
 simp only [if_true] at h54 ⊢
 obtain ⟨cs,hcs⟩:∃ cs,scopeIV p ((p.defs.length-1:Nat):Int) (countR p) = .fptr cs 0:=⟨_,rfl⟩
 rw [hcs] at h54
 obtain ⟨hn,hs,hd,hsm,hok,hnode⟩:=progR_parts hb
 have hol:(oldN p).length=p.srcs.length+p.defs.length:=oldN_len p
 have hON:oldN p=p.srcs++p.defs.map Dfn.name:=rfl
 have hdef:=fun i d h=>toC_def hn (i:=i) (d:=d) h
 have hren:∀ d∈p.defs,Ret CC 54 [d.exp.iv, .fmp ((oldN p).map sv) ((canonL (oldN p).length).map sv)] (renE (toC p) d.exp).iv:=fun d hd=>ret77 (hsm d hd) fun x hx=>by
  obtain ⟨i,hi⟩:=List.mem_iff_getElem?.1 hd
  exact toIs_of hok (hnode i d hi x hx).named
 have htk:(canonL (oldN p).length).take p.srcs.length=canonL p.srcs.length:=canonL_take (by omega)
 have hlk:∀ d∈p.defs,lookIs (some ty9) (some ty9) (some ((oldN p).map sv,((canonL (oldN p).length).map sv).map .imm)) (sv d.name) false (.imm (sv (toC p d.name))):=fun d hd=>
  (toIs_of hok (.inr (List.mem_append_right _ (List.mem_map.2 ⟨d,hd,rfl⟩)))).2 (nameOk_ne (hok _ (List.mem_append_right _ (List.mem_map.2 ⟨d,hd,rfl⟩))))
 have h75:=ret75 p.defs (by omega)
 unfold canonP
 generalize toC p=to at *
 generalize hold:oldN p=old at *
 obtain ⟨srcs,defs⟩:=p
 simp only at *
 have horc:CC.orc 50 [.lst (srcs.map sv)]=some (.own 9 1 (srcs.map sv)):=by
  show (if (srcs.map sv).all isStrIV=true/\(srcs.map sv).length<=4294967296 then some (OrcR.own 9 1 (srcs.map sv)) else none)=_
  rw [if_pos ⟨by rw [List.all_map];exact List.all_eq_true.2 fun _ _=>rfl,by simp;omega⟩]
 have hfs:∀ l:List Str,((l.map sv).map AV.imm).all (AV.fits 1)=true:=fun l=>fits_all (fun y hy=>by obtain ⟨z,_,rfl⟩:=List.mem_map.1 hy;rfl)
 refine Ret.of (fn:=Go.Proofs.Tryz.f14) (by kernel_rfl) rfl rfl ?_
 refine BB ?_
 refine D.op1 (O.callOwnI rfl horc rfl rfl) rfl rfl ?_
 refine BD ?_
 have hsl:(srcs.map sv).length=srcs.length:=List.length_map ..
 refine D.op1 (O.appRow (xs:=(srcs.map sv).map AV.imm) (ys:=((defs.map Dfn.name).map sv).map AV.imm) rfl rfl rfl at_upd (List.length_map ..) rfl rfl (by decide) (by decide) rfl (hfs _) (by simp only [List.length_map,most];omega)) rfl rfl ?_
 have hrow:(srcs.map sv).map AV.imm++((defs.map Dfn.name).map sv).map AV.imm=(old.map sv).map AV.imm:=by rw [hON,List.map_append,List.map_append]
 rw [hrow]
 have hlo:((old.map sv).map AV.imm).length=old.length:=by simp
 rw [hlo]
 refine BB ?_
 refine W.loop (X:=Nat×AV) (fun x=>[(1, .ptr 0 0),(2, .ptr 1 0),(4, .map 6),(5,x.2),(22, .row 11 old.length),(23, .imm (.int .i64 old.length)),(24, .imm (.int .i64 x.1))])
  (fun x nx G=>18<=nx/\G 0 = .box [.imm (.lst (srcs.map sv)), .imm (.lst (defs.map Dfn.iv))] false/\G 1 = .box ty29.zero.cells false/\G 6 = .mp ((old.take x.1).map sv) (((canonL x.1).map sv).map .imm) false/\G 11 = .row 9 1 ((old.map sv).map AV.imm) false/\x.1<=old.length/\Own 9 1 18 nx ((canonL x.1).map sv) G x.2)
  (fun x=>old.length-x.1) (0, .nils) .auto ⟨by omega,rfl,rfl,rfl,rfl,Nat.zero_le _, .nil ..⟩ ?_
 rintro ⟨i,w⟩ nx G ⟨hnx,g0,g1,g6,g11,hi,ho⟩
 dsimp only at g6 hi ho ⊢
 rcases Bool.eq_false_or_eq_true (decide ((i:Int) < (old.length:Int))) with hcc|hcc
 ·have hlt:i < old.length:=by have:=of_decide_eq_true hcc;omega
  have hmu:old.length-(i+1) < old.length-i:=by omega
  obtain ⟨s,hsi⟩:=at_lt hlt
  have hxn:((old.map sv).map AV.imm)[((i:Nat):Int).toNat]? = some (.imm (sv s)):=by
   rw [Int.toNat_natCast,List.getElem?_map,List.getElem?_map,hsi];rfl
  have hr:=ret12f (l:=canonL i) (by rw [canonL_len];omega)
  obtain ⟨ids,hids⟩:=ho.peek (k:=99)
  have hcl:((canonL i).map sv).length<=100:=by rw [List.length_map,canonL_len];omega
  have hcs:(canonL (i+1)).map sv=(canonL i).map sv++[sv (freshOf (canonL i))]:=by rw [canonL,List.map_append];rfl
  have hts:(old.take (i+1)).map sv=(old.take i).map sv++[sv s]:=by rw [List.take_add_one,hsi,List.map_append];rfl
  have hset:=setLast hn hsi
  have hlook:=toLook (old:=old.take (i+1)) (now:=canonL (i+1)) (by rw [canonL_len,List.length_take];omega) s
  have hti:(old.take (i+1))[i]? = some s:=by rw [List.getElem?_take];simpa using hsi
  rw [if_pos (by simpa using List.mem_iff_getElem?.2 ⟨i,hti⟩),idxN_at (hn.sublist (List.take_sublist _ _)) hti,List.getD_eq_getElem?_getD,canonL_at (Nat.lt_succ_self i),Option.getD_some] at hlook
  refine BB ?_
  refine R.op0 (O.callP rfl (peeks_one hids peeks_nil) hr rfl) rfl ?_
  refine R.opN1 (O.mapNew rfl inferInstance rfl rfl rfl g6 rfl hset) ?_
  refine R.gen' (fun G2=>(∀ q,q≠6->G2 q=G q)/\G2 6 = .mp ((old.take (i+1)).map sv) (((canonL (i+1)).map sv).map .imm) false) ⟨fun q hq=>upd_ne _ _ _ _ hq,by rw [upd_same,hts,hcs,List.map_append];rfl⟩ ?_
  rintro G2 ⟨hfr,k6⟩
  have hlook2:lookIs (some ty9) (some ty9) (mapKV G2 (.map 6)) (sv s) false (.imm (sv (freshOf (canonL i)))):=by
   simp only [mapKV,k6];exact hlook
  have k0:=(hfr 0 (by omega)).trans g0
  have k1:=(hfr 1 (by omega)).trans g1
  have k11:=(hfr 11 (by omega)).trans g11
  have ho2:=ho.fr (G':=G2) (hh:=Nat.le_refl _) (hG:=fun q h1 h2=>hfr q (by omega))
  refine BB ?_
  refine R.app1 ho2 at_upd (by simp only [most];omega) fun v' G' ho' hG'=>?_
  rw [<-hcs] at ho'
  refine BB ?_
  exact W.skipLop (i+1,v') hmu .auto ⟨by omega,(hG' 0 (by omega)).trans (Eq.trans at_upd k0),(hG' 1 (by omega)).trans (Eq.trans at_upd k1),(hG' 6 (by omega)).trans (Eq.trans at_upd k6),(hG' 11 (by omega)).trans (Eq.trans at_upd k11),hlt,ho'.fr⟩
 have hge:old.length<=i:=by have:=of_decide_eq_false hcc;omega
 obtain rfl:i=old.length:=by omega
 rw [List.take_of_length_le (Nat.le_refl _)] at g6
 rcases ho with ⟨hnil,_⟩|⟨o,ho1,ho2,rfl,hGo⟩
 ·have:=congrArg List.length hnil
  rw [List.length_map,canonL_len,List.length_nil] at this
  omega
 have hnl:(canonL old.length).length=old.length:=canonL_len _
 have htk2:(((canonL old.length).map sv).take srcs.length).drop 0=(canonL srcs.length).map sv:=by rw [List.drop_zero,<-List.map_take,htk]
 have hcl:(((canonL old.length).map sv).all fun y=>y.cells.length==1)=true:=by
  rw [List.all_eq_true]
  intro y hy
  obtain ⟨z,_,rfl⟩:=List.mem_map.1 hy
  rfl
 generalize hnow:canonL old.length=now at *
 refine BB ?_
 refine R.opU (O.sliceG rfl rfl (peek_row1 hGo rfl) (n:=srcs.length) (m:=0) (boundE_at rfl (by rw [hsl]) (by rw [List.length_map];omega)) rfl hcl) rfl ?_
 rw [htk2]
 refine R.gen' (fun G=>G 0 = .box [.imm (.lst (srcs.map sv)), .imm (.lst (defs.map Dfn.iv))] false/\G 1 = .box ty29.zero.cells false/\G 6 = .mp (old.map sv) ((now.map sv).map .imm) false) ⟨by rw [frz_at,if_neg (by omega)];exact g0,by rw [frz_at,if_neg (by omega)];exact g1,by rw [frz_at,if_neg (by omega)];exact g6⟩ ?_
 clear g0 g1 g6 g11 hGo
 rintro G ⟨g0,g1,g6⟩
 have hcl2:((canonL srcs.length).map sv).length=srcs.length:=by rw [List.length_map,canonL_len]
 have horc2:CC.orc 50 [.lst ((canonL srcs.length).map sv)]=some (.own 9 1 ((canonL srcs.length).map sv)):=by
  show (if ((canonL srcs.length).map sv).all isStrIV=true/\((canonL srcs.length).map sv).length<=4294967296 then some (OrcR.own 9 1 ((canonL srcs.length).map sv)) else none)=_
  rw [if_pos ⟨by rw [List.all_map];exact List.all_eq_true.2 fun _ _=>rfl,by omega⟩]
 refine R.op1 (O.callOwnI rfl horc2 rfl rfl) rfl ?_
 rw [hcl2]
 refine BB ?_
 have hdm:(defs.map Dfn.iv).length=defs.length:=List.length_map ..
 refine W.loop (X:=Nat×AV) (fun x=>[(1, .ptr 0 0),(2, .ptr 1 0),(4, .map 6),(8, .ptr (nx+1+7) 0),(47, .imm (.lst (defs.map Dfn.iv))),(48, .imm (.int .i64 (defs.map Dfn.iv).length)),(49, .imm (.int .i64 x.1))])
  (fun x nx2 G2=>nx+14<=nx2/\G2 0 = .box [.imm (.lst (srcs.map sv)), .imm (.lst (defs.map Dfn.iv))] false/\G2 1 = .box ty29.zero.cells false/\(∃ fr,G2 6 = .mp (old.map sv) ((now.map sv).map .imm) fr) /\
   G2 (nx+1+5) = .row 9 1 (((canonL srcs.length).map sv).map .imm) false/\G2 (nx+1+7) = .box [.row (nx+1+5) srcs.length,x.2] false/\x.1<=defs.length/\Own 95 7 (nx+14) nx2 (((defs.take x.1).map (renD to)).map Dfn.iv) G2 x.2)
  (fun x=>defs.length-x.1) (0, .nils) .auto ⟨by omega,Eq.trans at_upd g0,Eq.trans at_upd g1,⟨_,Eq.trans at_upd g6⟩,at_upd,at_upd,Nat.zero_le _, .nil ..⟩ ?_
 clear g0 g1 g6 G
 rintro ⟨i,w⟩ nx2 G ⟨hnx2,g0,g1,⟨fr6,g6⟩,g9,g8,hi,ho⟩
 dsimp only at g8 hi ho ⊢
 have hw1:=ho.cells1
 have hw2:=ho.one1
 rcases Bool.eq_false_or_eq_true (decide ((i:Int) < ((defs.map Dfn.iv).length:Int))) with hcc|hcc
 ·have hlt:i < defs.length:=by have:=of_decide_eq_true hcc;omega
  obtain ⟨y,hy⟩:=at_lt hlt
  have hyi:=at_map Dfn.iv hy
  have hdc:=y.cells_len
  have hym:=List.mem_of_getElem? hy
  have hmu:defs.length-(i+1) < defs.length-i:=by omega
  have hr:=hren y hym
  have hlook:=hlk y hym
  have htk:((defs.take (i+1)).map (renD to)).map Dfn.iv=((defs.take i).map (renD to)).map Dfn.iv++[(renD to y).iv]:=by
   rw [List.take_add_one,hy,List.map_append,List.map_append];rfl
  have hlen:(((defs.take i).map (renD to)).map Dfn.iv).length<=6:=by simp;omega
  simp only [renD] at htk
  obtain ⟨ny,ey⟩:=y
  simp only at hr hlook htk
  generalize to ny=nm at *
  generalize renE to ey=ee at *
  obtain ⟨o1,s1,n1,f1,c1,k1⟩:=ey
  obtain ⟨o2,s2,n2,f2,c2,k2⟩:=ee
  have hlook2:∀ {G2:Nat->Obj} (_:G2 6 = .mp (old.map sv) ((now.map sv).map .imm) fr6),lookIs (some ty9) (some ty9) (mapKV G2 (.map 6)) (sv ny) false (.imm (sv nm)):=fun {G2} h=>by
   simp only [mapKV,h];exact hlook
  refine BB ?_
  refine D.gen' (fun G2=>(∀ q,q < nx2->G2 q=G q)/\G2 (nx2+1+2) = .box [.imm (sv ny), .imm (.int .i64 o1), .imm (sv s1), .imm (.int .i64 n1), .imm (.int .i64 f1), .imm (.lst (Trm.ivs c1)), .imm (.lst (Exp.ivs k1))] false) ⟨fun q hq=>at_upd,at_upd⟩ ?_
  rintro G2 ⟨hfr,kd⟩
  have k6:=(hfr 6 (by omega)).trans g6
  refine D.op0 (O.lookA rfl inferInstance inferInstance rfl rfl rfl (hlook2 k6)) rfl rfl ?_
  refine BD ?_
  refine D.opU (rd:=[6]) (O.callFz (ids:=[6]++[]) rfl (peeks_im (peeks_one (peek_mpx k6) peeks_nil)) hr rfl) ?_ rfl ?_
  ·show some (List.flatMap (touch G2 pkDepth) [.imm _, .map 6])=_
   rw [List.flatMap_cons,List.flatMap_cons,touch_im,touch_map k6];rfl
  refine D.gen' (fun G3=>(∀ q,q≠6->G3 q=G2 q)/\G3 6 = .mp (old.map sv) ((now.map sv).map .imm) true) ⟨fun q h=>?_,?_⟩ ?_
  ·show updL G2 (frz [6]) q=_
   rw [frz_at,if_neg h]
  ·show updL G2 (frz [6]) 6=_
   rw [frz_at,if_pos rfl,k6];rfl
  rintro G3 ⟨hfr3,j6⟩
  have j0:=((hfr3 0 (by omega)).trans (hfr 0 (by omega))).trans g0
  have j1:=((hfr3 1 (by omega)).trans (hfr 1 (by omega))).trans g1
  have j9:=((hfr3 (nx+1+5) (by omega)).trans (hfr _ (by omega))).trans g9
  have j8:=((hfr3 (nx+1+7) (by omega)).trans (hfr _ (by omega))).trans g8
  have ho2:=ho.fr (G':=G3) (hh:=Nat.le_refl _) (hG:=fun q h1 h2=>(hfr3 q (by omega)).trans (hfr q (by omega)))
  refine BD ?_
  refine D.app2 ho2 at_upd (by simp only [most];omega) fun v' G' o' ho' hG' hG2 hlo hlo2=>?_
  have hv1:=ho'.cells1
  have hv2:=ho'.one1
  have i0:=(hG' 0 (by omega)).trans (Eq.trans at_upd j0)
  have i1:=(hG' 1 (by omega)).trans (Eq.trans at_upd j1)
  have i6:=(hG' 6 (by omega)).trans (Eq.trans at_upd j6)
  have i9:=(hG' (nx+1+5) (by omega)).trans (Eq.trans at_upd j9)
  have i8:=(hG' (nx+1+7) (by omega)).trans (Eq.trans at_upd j8)
  refine BD ?_
  refine D.skipN' [6,nx+1+7,nx2+1+2,o',nx2+1+4+11] (by simp;omega) [⟨0,[],[],[]⟩,⟨1,[2],[],[]⟩,⟨2,[],[],[]⟩,⟨3,[],[],[]⟩,⟨4,[3],[],[]⟩,⟨5,[1],[],[]⟩,⟨6,[],[],[]⟩,⟨7,[3],[],[]⟩,⟨8,[],[],[]⟩,
   ⟨9,[1],[],[1]⟩,⟨10,[],[],[]⟩,⟨11,[],[5],[]⟩,⟨12,[4,5],[4],[]⟩,⟨13,[],[],[]⟩,⟨14,[2],[2],[]⟩] rfl rfl (by kernel_rfl) ?_
  refine BB ?_
  refine W.skipLop (i+1,v') hmu .auto ⟨by omega,Eq.trans at_upd i0,Eq.trans at_upd i1,⟨_,Eq.trans at_upd i6⟩,Eq.trans at_upd i9,at_upd,hlt,?_⟩
  show Own 95 7 (nx+14) _ (((defs.take (i+1)).map (renD to)).map Dfn.iv) _ v'
  rw [htk]
  exact ho'.fr
 ·have hge:defs.length<=i:=by have:=of_decide_eq_false hcc;omega
  rw [List.take_of_length_le hge] at ho
  have hmk:mkAgg [.row (nx+1+5) srcs.length,w] = .agg [.row (nx+1+5) srcs.length,w]:=mkAgg_not ⟨.row (nx+1+5) srcs.length,by simp,by intro x h;cases h⟩
  have hft:AV.fits 2 (.agg [.row (nx+1+5) srcs.length,w])=true:=by
   show ((2==2)&&(true&&(w.one&&true)))=true
   rw [hw2];rfl
  have hrw:Rdx 2 G (fun o=>2<=o) (.agg [.row (nx+1+5) srcs.length,w]) (Pgm.mk (canonL srcs.length) (defs.map (renD to))).iv:=
   Rdx.agg (d:=1) (.cons (Rdx.row (d:=0) (e:=9) (sz:=1) (fr:=false) g9 (by rw [List.length_map,hcl2]) (All2.imms 0 _ _ _) (by omega)) (.cons (ho.rdx.frame (fun _ _=>rfl) fun _ h=>by omega) .nil))
  refine BB ?_
  refine R.opN1 (O.storeP rfl (congrArg some hmk) hft g1 rfl rfl) ?_
  refine BB ?_
  refine W.retFinCT (cs:=[.row (nx+1+5) srcs.length,w]) rfl at_upd rfl rfl rfl ?_
  rw [hmk]
  exact Rdx.peek (d:=3) (P:=fun o=>2<=o) (Rdx.tup (d:=2) (.cons (hrw.frame (fun o h=>at_upd) fun _ h=>h) (.cons (.imm ..) .nil))) (by decide)
end Go.Abs

/- Which programs are alike. -/
open Go Go.Abs
namespace Go.Abs
set_option maxRecDepth 100000
set_option maxHeartbeats 4000000
theorem canonR_sm (p:Pgm):(canonR p).1.srcs.length<=4/\(canonR p).1.defs.length<=6/\∀ d∈(canonR p).1.defs,d.exp.Sm:=by
 unfold canonR
 cases hb:progR p with
 |false=>simp
 |true=>
  obtain ⟨_,h2,h3,h4,_⟩:=progR_parts hb
  have:=canonP_len p
  simp only [if_true]
  exact ⟨by omega,by omega,canonP_sm h4⟩
theorem canonR_err (p:Pgm):(canonR p).2=if progR p then 0 else 2:=by
 unfold canonR
 cases progR p<;>rfl
theorem canonR_ok {p:Pgm} (h:progR p=true):canonR p=(canonP p,0):=by unfold canonR;rw [h];rfl
theorem ret200 {p q:Pgm} (hp:p.Fits) (hq:q.Fits):Ret CC 16 [p.iv,q.iv] (.tup [.bool (alikeR p q).1, .int .i64 (alikeR p q).2]):=by
 have h1:=ret45 hp
 have h2:=ret45 hq
 have e1:=canonR_err p
 have e2:=canonR_err q
 obtain ⟨s1,s2,s3⟩:=canonR_sm p
 have h3:=ret202 (canonR p).1.srcs (canonR q).1.srcs (by omega)
 have h4:=ret203 (p:=Dfn.same) (cap:=[]) fnis201 (canonR p).1.defs (canonR q).1.defs (by omega) fun c hc d _=>ret201 (s3 c hc)
 have hal:progR p=true->progR q=true->alikeR p q=(((canonR p).1.srcs==(canonR q).1.srcs)&&eqF Dfn.same (canonR p).1.defs (canonR q).1.defs,0):=by
  intro a b
  unfold alikeR
  rw [canonR_ok a,canonR_ok b,a,b]
  rfl
 have hno:(progR p&&progR q)=false->alikeR p q=(false,2):=by
  intro h
  unfold alikeR
  rw [h];rfl
 generalize alikeR p q=res at *
 obtain ⟨res1,res2⟩:=res
 generalize canonR p=cp at *
 generalize canonR q=cq at *
 obtain ⟨⟨srcs1,defs1⟩,n1⟩:=cp
 obtain ⟨⟨srcs2,defs2⟩,n2⟩:=cq
 simp only at *
 generalize (srcs1==srcs2)=b1 at *
 generalize eqF Dfn.same defs1 defs2=b2 at *
 cases hb:progR p with
 |false=>
  have hno:=hno (by rw [hb];rfl)
  rw [hb] at e1
  simp only [Prod.mk.injEq] at hno
  obtain ⟨rfl,rfl⟩:=hno
  simp only [Bool.false_eq_true,if_false] at e1
  subst e1
  obtain ⟨srcs,defs⟩:=p
  obtain ⟨srcs',defs'⟩:=q
  refine Ret.of (fn:=Go.Proofs.Tryz.f16) (by kernel_rfl) rfl rfl ?_
  refine BB ?_
  exact W.retFin2 rfl rfl ⟨[],rfl⟩
 |true=>
 rw [hb] at e1
 simp only [if_true] at e1
 subst e1
 cases hb2:progR q with
 |false=>
  have hno:=hno (by rw [hb2,Bool.and_false])
  rw [hb2] at e2
  simp only [Prod.mk.injEq] at hno
  obtain ⟨rfl,rfl⟩:=hno
  simp only [Bool.false_eq_true,if_false] at e2
  subst e2
  obtain ⟨srcs,defs⟩:=p
  obtain ⟨srcs',defs'⟩:=q
  refine Ret.of (fn:=Go.Proofs.Tryz.f16) (by kernel_rfl) rfl rfl ?_
  refine BB ?_
  exact W.retFin2 rfl rfl ⟨[],rfl⟩
 |true=>
 rw [hb2] at e2
 simp only [if_true] at e2
 subst e2
 have hal:=hal hb hb2
 simp only [Prod.mk.injEq] at hal
 obtain ⟨rfl,rfl⟩:=hal
 obtain ⟨srcs,defs⟩:=p
 obtain ⟨srcs',defs'⟩:=q
 refine Ret.of (fn:=Go.Proofs.Tryz.f16) (by kernel_rfl) rfl rfl ?_
 cases b1 with
 |false=>
  refine BB ?_
  exact W.retFin2 rfl rfl ⟨[],rfl⟩
 |true=>
  refine BB ?_
  exact W.retFin2 rfl rfl ⟨[],rfl⟩
end Go.Abs

/- Sorted numbers of a set. (No program in sight.) -/
open Go Go.Abs
namespace Go.Abs
theorem slt_ext:∀ {a b:List Int},a.Pairwise (· < ·)->b.Pairwise (· < ·)->(∀ x,x∈a↔x∈b)->a=b
 |[],[],_,_,_=>rfl
 |[],y::s,_,_,h=>absurd ((h y).2 (by simp)) (by simp)
 |x::r,[],_,_,h=>absurd ((h x).1 (by simp)) (by simp)
 |x::r,y::s,ha,hb,h=>by
  rw [List.pairwise_cons] at ha hb
  have hxy:x=y:=by
   have h1:=(h x).1 (by simp)
   have h2:=(h y).2 (by simp)
   rcases List.mem_cons.1 h1 with h1|h1
   ·exact h1
   ·rcases List.mem_cons.1 h2 with h2|h2
    ·exact h2.symm
    ·have:=ha.1 y h2
     have:=hb.1 x h1
     omega
  subst hxy
  rw [slt_ext ha.2 hb.2 fun z=>?_]
  constructor
  ·intro hz
   have:=ha.1 z hz
   rcases List.mem_cons.1 ((h z).1 (by simp [hz])) with h1|h1
   ·omega
   ·exact h1
  ·intro hz
   have:=hb.1 z hz
   rcases List.mem_cons.1 ((h z).2 (by simp [hz])) with h1|h1
   ·omega
   ·exact h1
theorem ins_mem {x z:Int}:∀ {l:List Int},z∈ins x l↔z=x\/z∈l
 |[]=>by simp [ins]
 |y::r=>by
  unfold ins
  split
  ·simp
  ·simp only [List.mem_cons,ins_mem (l:=r)]
   constructor
   ·rintro (h|h|h)<;>simp [h]
   ·rintro (h|h|h)<;>simp [h]
theorem isort_mem {z:Int}:∀ {l:List Int},z∈isort l↔z∈l
 |[]=>by simp [isort]
 |x::r=>by rw [isort,ins_mem,isort_mem,List.mem_cons]
theorem ins_slt {x:Int}:∀ {l:List Int},l.Pairwise (· < ·)->x∉l->(ins x l).Pairwise (· < ·)
 |[],_,_=>by simp [ins]
 |y::r,h,hx=>by
  have hne:x≠y:=fun e=>hx (by simp [e])
  have hr:x∉r:=fun e=>hx (by simp [e])
  unfold ins
  rw [List.pairwise_cons] at h
  split
  ·rename_i hle
   rw [List.pairwise_cons,List.pairwise_cons]
   refine ⟨fun z hz=>?_,h⟩
   rcases List.mem_cons.1 hz with rfl|hz
   ·omega
   ·have:=h.1 z hz;omega
  ·rename_i hle
   rw [List.pairwise_cons]
   refine ⟨fun z hz=>?_,ins_slt h.2 hr⟩
   rcases ins_mem.1 hz with rfl|hz
   ·omega
   ·exact h.1 z hz
theorem isort_slt:∀ {l:List Int},l.Nodup->(isort l).Pairwise (· < ·)
 |[],_=>by simp [isort]
 |x::r,h=>by
  rw [List.nodup_cons] at h
  exact ins_slt (isort_slt h.2) fun e=>h.1 (isort_mem.1 e)
theorem ints_nats (l:List Nat):ints (l.map natIV)=l.map Int.ofNat:=by
 induction l with
 |nil=>rfl
 |cons x r ih=>
  rw [List.map_cons,List.map_cons,<-ih];rfl
theorem sorted_eq {out:List Nat} {n:Nat} {P:Nat->Bool} (hn:out.Nodup) (hb:∀ x∈out,x < n) (hP:∀ x,x < n->(P x=true↔x∈out)):(isort (ints (out.map natIV))).map (IV.int .i64)=((List.range n).filter P).map natIV:=by
 have key:isort (ints (out.map natIV))=((List.range n).filter P).map Int.ofNat:=by
  rw [ints_nats]
  refine slt_ext (isort_slt ?_) ?_ fun z=>?_
  ·rw [List.Nodup,List.pairwise_map]
   exact hn.imp fun h e=>h (Int.ofNat.inj e)
  ·rw [List.pairwise_map]
   refine (List.Pairwise.filter _ List.pairwise_lt_range).imp fun h=>?_
   exact Int.ofNat_lt.2 h
  ·rw [isort_mem,List.mem_map,List.mem_map]
   constructor
   ·rintro ⟨x,hx,rfl⟩
    exact ⟨x,List.mem_filter.2 ⟨List.mem_range.2 (hb x hx),(hP x (hb x hx)).2 hx⟩,rfl⟩
   ·rintro ⟨x,hx,rfl⟩
    rw [List.mem_filter,List.mem_range] at hx
    exact ⟨x,(hP x hx.1).1 hx.2,rfl⟩
 rw [key,List.map_map]
 rfl
theorem natKeys_int (l:List Nat):(l.map natIV).all isIntIV=true:=by
 induction l with
 |nil=>rfl
 |cons x r ih=>rw [List.map_cons,List.all_cons,ih];rfl
end Go.Abs

/- Lists of numbers: comparing what is the same; the numbers of what is true. -/
open Go Go.Abs
namespace Go.Abs
set_option maxRecDepth 100000
set_option maxHeartbeats 4000000
instance fnis19:FnIs CC 38:=⟨rfl,fun _=>rfl⟩
theorem ret19 {l:List Int} (hl:l.length<=9223372036854775807):Ret CC 38 [intsIV l,intsIV l] (.bool true):=by
 have hlm:(l.map intIV).length=l.length:=List.length_map ..
 have b3:(((l.map intIV).length:Int) != ((l.map intIV).length:Int))=false:=by simp
 refine Ret.of (fn:=Go.Proofs.Tryz.f38) (by kernel_rfl) rfl rfl ?_
 refine AA ?_
 refine W.loop (X:=Nat) (fun i=>[(0, .imm (intsIV l)),(1, .imm (intsIV l)),(5, .imm (.int .i64 i))])
  (fun i nx G=>i<=l.length) (fun i=>l.length-i) 0 .auto (Nat.zero_le _) ?_
 rintro i nx G hi
 rcases Bool.eq_false_or_eq_true (decide ((i:Int) < ((l.map intIV).length:Int))) with hc|hc
 ·have hlt:i < l.length:=by have:=of_decide_eq_true hc;omega
  obtain ⟨d,hx⟩:=at_lt hlt
  have hxi:=at_map intIV hx
  have hmu:l.length-(i+1) < l.length-i:=by omega
  have hne:(d != d)=false:=by simp
  refine AA ?_
  exact W.skipLop (i+1) hmu .auto hlt
 ·refine AA ?_
  exact W.retFin1 rfl ⟨[],rfl⟩
theorem natsIV_ints (l:List Nat):natsIV l=intsIV (l.map Int.ofNat):=by
 unfold natsIV intsIV
 rw [List.map_map];rfl
theorem ret19n {l:List Nat} (hl:l.length<=9223372036854775807):Ret CC 38 [natsIV l,natsIV l] (.bool true):=by
 rw [natsIV_ints];exact ret19 (by simpa using hl)
theorem ret20 {l:List (List Nat)} (hl:l.length<=9223372036854775807) (hk:∀ x∈l,x.length<=9223372036854775807):Ret CC 23 [.lst (l.map natsIV), .lst (l.map natsIV)] (.bool true):=by
 have hlm:(l.map natsIV).length=l.length:=List.length_map ..
 have b3:(((l.map natsIV).length:Int) != ((l.map natsIV).length:Int))=false:=by simp
 have b4:(!true)=false:=rfl
 refine Ret.of (fn:=Go.Proofs.Tryz.f23) (by kernel_rfl) rfl rfl ?_
 refine AA ?_
 refine W.loop (X:=Nat) (fun i=>[(0, .imm (.lst (l.map natsIV))),(1, .imm (.lst (l.map natsIV))),(5, .imm (.int .i64 i))])
  (fun i nx G=>i<=l.length) (fun i=>l.length-i) 0 .auto (Nat.zero_le _) ?_
 rintro i nx G hi
 rcases Bool.eq_false_or_eq_true (decide ((i:Int) < ((l.map natsIV).length:Int))) with hc|hc
 ·have hlt:i < l.length:=by have:=of_decide_eq_true hc;omega
  obtain ⟨d,hx⟩:=at_lt hlt
  have hxi:=at_map natsIV hx
  have hmu:l.length-(i+1) < l.length-i:=by omega
  have hr:=ret19n (hk d (List.mem_of_getElem? hx))
  refine AA ?_
  exact W.skipLop (i+1) hmu .auto hlt
 ·refine AA ?_
  exact W.retFin1 rfl ⟨[],rfl⟩
end Go.Abs

/- What definitions depend on. -/
open Go Go.Abs
namespace Go.Abs
set_option maxRecDepth 100000
set_option maxHeartbeats 4000000
noncomputable def ringsA (p:Pgm):List (List Nat):=if progR p then ringsOf p else []
/-! ### sets -/
def addN (l:List Nat) (k:Nat):List Nat:=if l.contains k then l else l++[k]
theorem addN_mem {l:List Nat} {k x:Nat}:x∈addN l k↔x∈l\/x=k:=by
 unfold addN
 split
 ·rename_i h
  constructor
  ·exact .inl
  ·rintro (h'|rfl)
   ·exact h'
   ·simpa using h
 ·simp
theorem addN_nodup {l:List Nat} {k:Nat} (h:l.Nodup):(addN l k).Nodup:=by
 unfold addN
 split
 ·exact h
 ·rename_i h'
  rw [List.nodup_append]
  exact ⟨h,by simp,fun a ha b hb=>by rw [List.mem_singleton.1 hb];exact fun e=>h' (by simpa [e] using ha)⟩
theorem O.setPut {id:Nat} {l:Env} {G:Nat->Obj} {nx:Nat} {df:List (AV×List AV)} {pk:Pk} {m x y:Operand} {q k:Nat} {s:List Nat} (hm:lookO l m=some (.map q)) (hx:lookO l x=some (.imm (natIV k))) (hy:lookO l y=some (.imm (.bool true))) (hG:G q=setObj s) :
  OpV CC id l G nx df pk (.mapUpdate 116 m x y) .undef [(q, .set (setObj (addN s k)))]:=by
 unfold addN
 cases hc:s.contains k with
 |false=>
  rw [if_neg (by decide),setObj_add]
  exact O.mapNew (k:=ty74) (kk:=ty3) rfl inferInstance hm hx hy hG rfl (setNew hc)
 |true=>
  rw [if_pos rfl]
  have hsome:=findIdx_contains' k s
  rw [hc] at hsome
  obtain ⟨j,hj⟩:=Option.isSome_iff_exists.1 hsome
  have hlt:=findIdx_lt' hj
  have hkj:s[j]? = some k:=by
   rw [List.findIdx?_eq_some_iff_getElem] at hj
   obtain ⟨h1,h2,_⟩:=hj
   rw [List.getElem?_eq_getElem h1]
   have:k=s[j]:=by simpa using h2
   rw [<-this]
  have h1:(s.map natIV).set j (natIV k)=s.map natIV:=by
   rw [<-List.map_set]
   congr 1
   apply List.ext_getElem?
   intro i
   rw [List.getElem?_set]
   split
   ·rename_i he;subst he;rw [hkj];try simp [hlt]
   ·rfl
  have h2:((s.map fun _=>IV.bool true).map AV.imm).set j (.imm (.bool true))=(s.map fun _=>IV.bool true).map AV.imm:=by
   apply List.ext_getElem?
   intro i
   rw [List.getElem?_set]
   split
   ·rename_i he;subst he;simp [hlt]
   ·rfl
  refine O.of fun t' L hA=>?_
  have hkt:=(inferInstance:TyIs CC 116 ty74).is
  have hkt3:=(inferInstance:TyIs CC 3 ty3).is
  simp only [opA,hA.ev hm,hA.ev hx,hA.ev hy,aMapUpdate,hkt,hG,setObj,show ty74.d = .mp 3 4 from rfl,hkt3]
  rw [if_pos (show keyOk ty3.d (natIV k)=true from rfl),natKey,hj]
  simp only [h1,h2]
theorem orcSet {l:List Nat} {n:Nat} {P:Nat->Bool} (hn:l.Nodup) (hb:∀ x∈l,x < n) (hP:∀ x,x < n->(P x=true↔x∈l)) (hs:l.length<=4294967296):CC.orc 69 [setIV l]=some (.own 3 1 (((List.range n).filter P).map natIV)):=by
 show (if (l.map natIV).all isIntIV=true/\(l.map natIV).length<=4294967296 then some (OrcR.own 3 1 ((isort (ints (l.map natIV))).map (.int .i64))) else none)=_
 rw [if_pos ⟨natKeys_int l,by simpa using hs⟩,sorted_eq hn hb hP]
end Go.Abs

/- Keep: the program of some definitions, and of those on which they depend. -/
open Go Go.Abs
namespace Go.Abs
set_option maxRecDepth 100000
set_option maxHeartbeats 4000000
noncomputable def keepB (tos:List (List Nat)) (L:List Int) (e:Nat):Bool:=L.any fun d=>d.toNat==e||reachB tos d.toNat e
noncomputable def keepN (p:Pgm) (L:List Int):List Nat:=(List.range p.defs.length).filter (keepB (tosR p) L)
def takeD (defs:List Dfn) (L:List Nat):List Dfn:=L.filterMap fun i=>defs[i]?
noncomputable def keepP (p:Pgm) (L:List Int):Pgm:=⟨p.srcs,takeD p.defs (keepN p L)⟩
def insB (n:Nat) (d:Int):Bool:=decide (0<=d)&&decide (d < n)
noncomputable def keepR (p:Pgm) (L:List Int):Pgm×Int:=if progR p then (if L.all (insB p.defs.length) then (keepP p L,0) else (⟨[],[]⟩,2)) else (⟨[],[]⟩,2)
noncomputable def keepIV (p:Pgm) (L:List Int):IV := .tup [(keepR p L).1.iv, .int .i64 (keepR p L).2]
theorem W.skipM {C:Cfg} {fid fid' nt:Nat} {b:Code} {l:Env} {G:Nat->Obj} {nx:Nat} {df:List (AV×List AV)} {pk:Pk} {Φ:Out->Prop} (h:MW C fid nt b l G nx df pk Φ):W C fid' nt .skip l G nx df pk (aftM C fid nt b Φ) := .skip h.st
theorem MW.exitB {X:Type} {C:Cfg} {fid nt id:Nat} {c y:Code} {l:Env} {G:Nat->Obj} {nx:Nat} {df:List (AV×List AV)} {pk:Pk} {le:X->Env} {Ge:X->Nat->(Nat->Obj)->Prop} {mu:X->Nat} {z:X} {Φ:Out->Prop} (hC:CfgOK C) (h:MW C fid nt y l G nx df pk Φ) :
  MW C fid nt (.exit id) l G nx df pk (aftM C fid nt c (lop le Ge mu df pk z (blk' id (aftM C fid nt y Φ)))) := .of hC (.exit fun t ht=>by
 show (if id=id then (aftM C fid nt y Φ) (.norm ⟨t,G,nx,df,pk⟩) else _)
 rw [if_pos rfl]
 exact h.st t ht)
theorem MW.walkT {X:Type} {C:Cfg} {fid nt nx:Nat} {l:Env} {G:Nat->Obj} {df:List (AV×List AV)} {pk:Pk} {Φ:Out->Prop} {le:X->Env} {Ge:X->Nat->(Nat->Obj)->Prop} {so:X->List Nat} {ks us:List IV} {o it d1 fl d3 dk tm i11 i12 i13 e2 e3:Nat} {oN oE rg:Oper} {ol r12 r13:List Oper} {r14:Code} {tyM kt et:TypeId} {kM:TyI} {G1:Nat->Obj} {l1:Env} (hC:CfgOK C) (n:Nat) (x0:X)
  (hol:ol[n]? = some rg) (hln:ol.length=n+1) (hrg:rg.dst=some it/\rg.op = .range tyM (.tmp tm)/\rg.guard=none/\it < nt) [hk:TyIs C tyM kM] (hkm:kM.d = .mp kt et)
  (hA:R C nt ol nx 0 (ol.take n) l G (nx+ol.length) df pk (fun out=>∃ t',out = .norm ⟨t',G1,nx+ol.length,df,pk⟩/\Agree t' l1)) (hl1:look l1 tm=some (.imm (.fmp ks us))) (ho:o=nx+n)
  (H:WalkH C fid nt le Ge so ks o it d1 fl d3 dk oN oE r12 r13 r14 df pk) (hx0:Sub (le x0) ((it, .ptr o 0)::l1)) (hg0:Ge x0 (nx+ol.length) G1) (hs0:so x0=[])
  (hΦ:∀ x nx G,Ge x nx G->(∀ j,j < ks.length->j∈so x)->∀ t,Agree t (le x)->Φ (.norm ⟨t,G,nx,df,pk⟩)) :
  MW C fid nt (.seq (.region i11 ⟨ol⟩ false) (.block e2 (.loop (.seq (.region i12 ⟨oN::r12⟩ false) (.seq (.cond (.tmp fl) .skip (.exit e2)) (.block e3 (.seq (.region i13 ⟨oE::r13⟩ false) r14))))))) l G nx df pk Φ:=by
 have hA':ol=ol.take n++[rg]:=by
  obtain ⟨h1,h2⟩:=List.getElem?_eq_some_iff.1 hol
  conv=>lhs;rw [<-List.take_append_drop n ol]
  rw [List.drop_eq_getElem_cons h1,h2,List.drop_of_length_le (by omega)]
 have hlt:(ol.take n).length=n:=by rw [List.length_take];omega
 generalize ol.take n=A at *
 subst hA'
 refine (MW.walk (i11:=i11) (i12:=i12) (i13:=i13) (e2:=e2) (e3:=e3) (us:=us) hC x0 hrg hkm hA hl1 (by omega) H hx0 hg0 hs0).mono fun out h=>?_
 obtain ⟨⟨t,G2,n2,d2,p2⟩,x,rfl,h1,h2,h3,h4,h5⟩:=h
 simp only at h2 h3 h4 h5
 subst d2 p2
 exact hΦ x n2 G2 h3 h1 t h2
def InK (tos:List (List Nat)) (L:List Int) (e:Nat):Prop:=∃ d∈L,d.toNat=e\/Reach tos d.toNat e
theorem keep_calls {p:Pgm} (hp:p.Fits) {ls:List Int} (hls:ls.length<=maxI) {M:Mem} {w:World} {vs:Array Value} (hm:∀ b o,M b=some o->w.heap[b]? = some o) (hv:VL (VI M) [p.iv,intsIV ls] vs) :
  Calls CC.P 26 vs w fun e w'=>∃ cv,e = .returned cv/\WS (QN w) w w'/\OrcEnd w M cv w' (.dat (keepIV p ls)):=by
 have h54:=ret54 p hp
 have hls:ls.length<=9223372036854775807:=hls
 unfold keepIV keepR
 unfold lookedIV at h54
 cases hb:progR p with
 |false=>
  rw [hb] at h54
  simp only [Bool.false_eq_true,if_false] at h54 ⊢
  refine MW.calls cfgOK (fn:=Go.Proofs.Tryz.f26) (by kernel_rfl) rfl rfl (.of cfgOK ?_) hm hv
  clear hv hm
  obtain ⟨srcs,defs⟩:=p
  refine BB ?_
  exact W.retFinCT rfl rfl rfl rfl rfl ⟨[],rfl⟩
 |true=>
 rw [hb] at h54
 simp only [if_true] at h54 ⊢
 have hc:=progR_count hb
 have hg:=countR_good hc
 have htl:(tosR p).length=p.defs.length:=hg.steps.2.1
 obtain ⟨hn,hs,hd6,hsm,hok,hnode⟩:=progR_parts hb
 have h47:=fun d hd=>ret47 hp hg.tos ((p.defs.length-1:Nat):Int) (countR p) (d:=d) hd
 have hsi:∀ d∈p.defs,Ret CC 73 [d.exp.iv] d.exp.iv:=fun d hd=>ret63 (hsm d hd)
 obtain ⟨cs,hcs⟩:∃ cs,scopeIV p ((p.defs.length-1:Nat):Int) (countR p) = .fptr cs 0:=⟨_,rfl⟩
 rw [hcs] at h54
 simp only [hcs] at h47
 refine MW.calls cfgOK (fn:=Go.Proofs.Tryz.f26) (by kernel_rfl) rfl rfl ?_ hm hv
 clear hv hm
 unfold keepP keepN
 generalize tosR p=tos at *
 clear hg hc hnode hcs
 obtain ⟨srcs,defs⟩:=p
 simp only at *
 have horc:CC.orc 50 [.lst (srcs.map sv)]=some (.own 9 1 (srcs.map sv)):=by
  show (if (srcs.map sv).all isStrIV=true/\(srcs.map sv).length<=4294967296 then some (OrcR.own 9 1 (srcs.map sv)) else none)=_
  rw [if_pos ⟨by rw [List.all_map];exact List.all_eq_true.2 fun _ _=>rfl,by simp;omega⟩]
 have hdm:(defs.map Dfn.iv).length=defs.length:=List.length_map ..
 have hlm:(ls.map intIV).length=ls.length:=List.length_map ..
 refine MW.seq (.of cfgOK ?_)
 refine BB ?_
 refine W.skipM ?_
 refine MW.seq (.of cfgOK ?_)
 refine BB ?_
 refine W.skipM ?_
 refine MW.seq (.of cfgOK ?_)
 refine BB ?_
 refine W.skipM ?_
 refine MW.seq (.of cfgOK ?_)
 refine BB ?_
 refine W.skipM ?_
 refine MW.seq (MW.seq (.of cfgOK ?_))
 refine BB ?_
 refine W.skipM ?_
 refine MW.block ?_
 refine MW.loop (X:=Nat) (fun i=>[(1, .imm (intsIV ls)),(2, .ptr 0 0),(4, .ptr 1 0),(6, .imm (.fptr cs 0)),(7, .map 8),(20, .imm (intsIV ls)),(21, .imm (.int .i64 (ls.map intIV).length)),(22, .imm (.int .i64 i))])
  (fun i nx G=>13<=nx/\G 0 = .box [.imm (.lst (srcs.map sv)), .imm (.lst (defs.map Dfn.iv))] false/\G 1 = .box ty29.zero.cells false/\i<=ls.length/\(∀ d∈ls.take i,insB defs.length d=true)/\∃ s:List Nat,G 8=setObj s/\s.Nodup/\(∀ x∈s,x < tos.length)/\∀ e,e∈s↔InK tos (ls.take i) e)
  (fun i=>ls.length-i) 0 .auto ⟨by omega,rfl,rfl,Nat.zero_le _,(fun d hd=>by cases hd),[],rfl,List.nodup_nil,(fun _ h=>by cases h),fun e=>⟨(fun h=>by cases h),fun h=>by obtain ⟨_,h,_⟩:=h;cases h⟩⟩ ?_
 rintro i nx G ⟨hnx,g0,g1,hi,hins,s,g8,s1,s2,s3⟩
 refine MW.seq (.of cfgOK ?_)
 refine BB ?_
 refine W.skipM ?_
 refine MW.seq (MW.cond rfl (fun h1=>?_) (fun h1=>?_))
 ·have hlt:i < ls.length:=by have:=of_decide_eq_true h1;rw [hlm] at this;omega
  obtain ⟨d,hd⟩:=at_lt hlt
  have hdi:(ls.map intIV)[((i:Nat):Int).toNat]? = some (.int .i64 d):=at_map intIV hd
  refine .of cfgOK (W.skipM ?_)
  refine MW.seq (MW.block ?_)
  refine MW.seq (.of cfgOK ?_)
  refine BB ?_
  refine W.skipM ?_
  cases hin:insB defs.length d with
  |false=>
   have hall:ls.all (insB defs.length)=false:=by
    rw [List.all_eq_false]
    exact ⟨d,List.mem_of_getElem? hd,by rw [hin];decide⟩
   rw [hall]
   refine MW.seq (.of cfgOK ?_)
   rcases Bool.eq_false_or_eq_true (decide (d < 0)) with c1|c1
   ·refine BB ?_
    exact .ret (W.retFinCT (fid:=0) (nt:=0) (Ψ:=fun v G _=>∃ ids,peek G pkDepth v=some (.tup [(Pgm.mk [] []).iv, .int .i64 2],ids)) (cs:=ty29.zero.cells) rfl at_upd rfl rfl rfl ⟨[],rfl⟩).retI
   ·have c2:decide (d>=((defs.map Dfn.iv).length:Int))=true:=by
     unfold insB at hin
     rw [decide_eq_true (by have:=of_decide_eq_false c1;omega:(0:Int)<=d),Bool.true_and] at hin
     have:=of_decide_eq_false hin
     exact decide_eq_true (by rw [hdm];omega)
    refine BB ?_
    exact .ret (W.retFinCT (fid:=0) (nt:=0) (Ψ:=fun v G _=>∃ ids,peek G pkDepth v=some (.tup [(Pgm.mk [] []).iv, .int .i64 2],ids)) (cs:=ty29.zero.cells) rfl at_upd rfl rfl rfl ⟨[],rfl⟩).retI
  |true=>
   have hdb:0<=d/\d < defs.length:=by
    unfold insB at hin
    rw [Bool.and_eq_true] at hin
    exact ⟨of_decide_eq_true hin.1,of_decide_eq_true hin.2⟩
   obtain ⟨d,rfl⟩:=Int.eq_ofNat_of_zero_le hdb.1
   have c1:decide (((d:Nat):Int) < 0)=false:=decide_eq_false (by omega)
   have c2:decide (((d:Nat):Int)>=((defs.map Dfn.iv).length:Int))=false:=decide_eq_false (by rw [hdm];omega)
   refine MW.seq (.of cfgOK ?_)
   refine BB ?_
   refine W.skipM ?_
   refine MW.seq (.of cfgOK ?_)
   refine BB ?_
   refine R.opN1 (O.setPut rfl rfl rfl g8) ?_
   refine BB ?_
   refine W.skipM ?_
   obtain ⟨out,o1,o2,o3,h47⟩:=h47 d (by omega)
   have hmu:ls.length-(i+1) < ls.length-i:=by omega
   have hol:(out.map natIV).length=out.length:=List.length_map ..
   unfold setIV at h47
   refine MW.walkT (X:=List Nat) (ks:=out.map natIV) (us:=out.map fun _ => .bool true) (o:=nx+1+3+9+3+4)
    (le:=fun _=>[(1, .imm (intsIV ls)),(2, .ptr 0 0),(4, .ptr 1 0),(6, .imm (.fptr cs 0)),(7, .map 8),(20, .imm (intsIV ls)),(21, .imm (.int .i64 (ls.map intIV).length)),(22, .imm (.int .i64 i)),(42, .ptr (nx+1+3+9+3+4) 0)])
    (Ge:=fun x n2 G2=>nx+1+3+9+3+5<=n2/\G2 0 = .box [.imm (.lst (srcs.map sv)), .imm (.lst (defs.map Dfn.iv))] false/\G2 1 = .box ty29.zero.cells false/\∃ s':List Nat,G2 8=setObj s'/\s'.Nodup/\(∀ x∈s',x < tos.length)/\∀ e,e∈s'↔(e∈addN s d\/∃ j∈x,out[j]? = some e))
    (so:=fun x=>x) (dk:=10) (l1:=[(1, .imm (intsIV ls)),(2, .ptr 0 0),(4, .ptr 1 0),(6, .imm (.fptr cs 0)),(7, .map 8),(20, .imm (intsIV ls)),(21, .imm (.int .i64 (ls.map intIV).length)),(22, .imm (.int .i64 i)),(41, .imm (.fmp (out.map natIV) (out.map fun _ => .bool true)))])
    (G1:=upd G 8 (setObj (addN s d))) cfgOK 4 [] rfl rfl ⟨rfl,rfl,rfl,by decide⟩ rfl ?_ rfl rfl ⟨fun _=>rfl,⟨rfl,rfl,rfl,by decide⟩,⟨rfl,rfl,rfl,by decide⟩,?_,?_,?_,?_,?_⟩ .auto ?_ rfl ?_
   ·refine BQ ?_
    exact R.last fun t ht=>⟨t,rfl,ht.sub .auto⟩
   ·rintro x n2 G2 v bb hg hv
    rcases hv with rfl|⟨kk,uu,rfl⟩
    ·refine BQ ?_
     exact R.last fun t ht=>⟨t,rfl,ht.sub .auto⟩
    ·refine BQ ?_
     exact R.last fun t ht=>⟨t,rfl,ht.sub .auto⟩
   ·intro x v;exact .auto
   ·rintro x n2 G2 kk uu hg
    refine BQ ?_
    exact R.last fun t ht=>⟨t,rfl,ht.sub .auto⟩
   ·rintro x n2 G2 j kk ⟨hn2,k0,k1,s',k8,t1,t2,t3⟩ hj hnot
    rw [List.getElem?_map,Option.map_eq_some_iff] at hj
    obtain ⟨e,he,rfl⟩:=hj
    have het:=o2 e (List.mem_of_getElem? he)
    refine BB ?_
    refine R.opN1 (O.setPut rfl rfl rfl k8) ?_
    refine BB ?_
    refine .skip fun t ht=>⟨_,j::x,rfl,rfl,ht.sub .auto,⟨by simp only;omega,at_upd,at_upd,addN s' e,upd_same G2 8 _,addN_nodup t1,fun y hy=>?_,fun y=>?_⟩,rfl,rfl⟩
    ·rcases addN_mem.1 hy with hy|rfl
     ·exact t2 y hy
     ·exact het
    ·rw [addN_mem,t3 y]
     constructor
     ·rintro ((h|⟨j2,h,h5⟩)|rfl)
      ·exact .inl h
      ·exact .inr ⟨j2,List.mem_cons_of_mem _ h,h5⟩
      ·exact .inr ⟨j,List.mem_cons_self ..,he⟩
     ·rintro (h|⟨j2,h,h5⟩)
      ·exact .inl (.inl h)
      ·rcases List.mem_cons.1 h with rfl|h
       ·rw [he] at h5;exact .inr (Option.some.inj h5).symm
       ·exact .inl (.inr ⟨j2,h,h5⟩)
   ·rintro x n2 n3 G2 ⟨hn2,hr⟩ h
    exact ⟨by omega,hr⟩
   ·refine ⟨by simp,at_upd,at_upd,addN s d,upd_same _ _ _,addN_nodup s1,fun x hx=>?_,fun e=>?_⟩
    ·rcases addN_mem.1 hx with hx|rfl
     ·exact s2 x hx
     ·omega
    ·simp
   ·rintro x n2 G2 ⟨hn2,k0,k1,s',k8,t1,t2,t3⟩ hall t ht
    have hin2:∀ y∈ls.take (i+1),insB defs.length y=true:=fun y hy=>by
     rw [List.take_add_one,hd] at hy
     rcases List.mem_append.1 hy with hy|hy
     ·exact hins y hy
     ·simp at hy;subst hy;exact hin
    have t4:∀ e,e∈s'↔InK tos (ls.take (i+1)) e:=fun e=>by
     rw [t3 e,addN_mem,s3 e,List.take_add_one,hd]
     constructor
     ·rintro ((⟨y,hy,h⟩|rfl)|⟨j,hj,h⟩)
      ·exact ⟨y,List.mem_append_left _ hy,h⟩
      ·exact ⟨_,List.mem_append_right _ (by simp), .inl (Int.toNat_natCast _)⟩
      ·exact ⟨((d:Nat):Int),List.mem_append_right _ (by simp), .inr (by rw [Int.toNat_natCast];exact (o3 e).1 (List.mem_of_getElem? h))⟩
     ·rintro ⟨y,hy,h⟩
      rcases List.mem_append.1 hy with hy|hy
      ·exact .inl (.inl ⟨y,hy,h⟩)
      ·simp at hy
       subst hy
       rw [Int.toNat_natCast] at h
       rcases h with h|h
       ·exact .inl (.inr h.symm)
       ·obtain ⟨j,hj⟩:=List.mem_iff_getElem?.1 ((o3 e).2 h)
        exact .inr ⟨j,hall j (by rw [hol];exact (List.getElem?_eq_some_iff.1 hj).1),hj⟩
    refine MW.st (.of cfgOK ?_) t ht
    refine BB ?_
    exact W.skipLop (i+1) hmu .auto ⟨by omega,k0,k1,hlt,hin2,s',k8,t1,t2,t4⟩
 ·have hge:ls.length<=i:=by have:=of_decide_eq_false h1;rw [hlm] at this;omega
  rw [List.take_of_length_le hge] at hins s3
  have hall:ls.all (insB defs.length)=true:=List.all_eq_true.2 fun d hd=>hins d hd
  rw [hall]
  simp only [if_true]
  have hkb:∀ e,keepB tos ls e=true↔e∈s:=fun e=>by
   rw [s3 e]
   unfold keepB InK
   rw [List.any_eq_true]
   constructor
   ·rintro ⟨d,h2,h3⟩
    rw [Bool.or_eq_true,beq_iff_eq,reachB_iff] at h3
    exact ⟨d,h2,h3⟩
   ·rintro ⟨d,h2,h3⟩
    exact ⟨d,h2,by rw [Bool.or_eq_true,beq_iff_eq,reachB_iff];exact h3⟩
  have horc2:CC.orc 69 [setIV s]=some (.own 3 1 (((List.range defs.length).filter (keepB tos ls)).map natIV)):=orcSet s1 (fun x hx=>by rw [<-htl];exact s2 x hx) (fun x _=>hkb x) (by have:=nodup_lt s1 s2;omega)
  have hL:∀ e∈(List.range defs.length).filter (keepB tos ls),e < defs.length:=fun e he=>List.mem_range.1 (List.mem_filter.1 he).1
  have hL6:((List.range defs.length).filter (keepB tos ls)).length<=6:=by
   have:=List.length_filter_le (keepB tos ls) (List.range defs.length)
   rw [List.length_range] at this;omega
  generalize (List.range defs.length).filter (keepB tos ls)=L at *
  refine MW.exitB cfgOK (.of cfgOK ?_)
  refine BB ?_
  refine R.op1 (O.callOwnI rfl horc rfl rfl) rfl ?_
  refine BB ?_
  have hsl:(srcs.map sv).length=srcs.length:=List.length_map ..
  refine R.gen' (fun G2=>G2 0 = .box [.imm (.lst (srcs.map sv)), .imm (.lst (defs.map Dfn.iv))] false/\G2 1 = .box ty29.zero.cells false/\G2 8=setObj s/\G2 (nx+1+2) = .row 9 1 ((srcs.map sv).map .imm) false/\G2 (nx+1+4) = .box [.row (nx+1+2) srcs.length, .nils] false) ⟨Eq.trans at_upd g0,Eq.trans at_upd g1,Eq.trans at_upd g8,at_upd,by rw [<-hsl];exact at_upd⟩ ?_
  clear g0 g1 g8 G
  rintro G ⟨g0,g1,g8,g2,g4⟩
  have hr1:∀ q,q≠8->q≠nx+1+6+1->updL G (frz [8]++[(nx+1+6+1, .set (.row 3 1 ((L.map natIV).map .imm) false))]) q=G q:=fun q h2 h3=>by rw [updL_frz1,if_neg h3,if_neg h2]
  refine R.opU (O.callOwn rfl horc2 rfl (peeks_cons (vs:=[]) (peek_mpx g8))) rfl ?_
  refine R.gen' (fun G2=>G2 0 = .box [.imm (.lst (srcs.map sv)), .imm (.lst (defs.map Dfn.iv))] false/\G2 1 = .box ty29.zero.cells false/\G2 (nx+1+2) = .row 9 1 ((srcs.map sv).map .imm) false/\G2 (nx+1+4) = .box [.row (nx+1+2) srcs.length, .nils] false/\G2 (nx+1+6+1) = .row 3 1 ((L.map natIV).map .imm) false)
   ⟨(hr1 0 (by omega) (by omega)).trans g0,(hr1 1 (by omega) (by omega)).trans g1,(hr1 _ (by omega) (by omega)).trans g2,(hr1 _ (by omega) (by omega)).trans g4,by rw [updL_frz1,if_pos rfl]⟩ ?_
  clear g0 g1 g8 g2 g4 hr1 G
  rintro G ⟨g0,g1,g2,g4,g7⟩
  have hLm:(L.map natIV).length=L.length:=List.length_map ..
  have hLm2:((L.map natIV).map AV.imm).length=L.length:=by rw [List.length_map,hLm]
  refine R.op0 (O.lenR rfl rfl g7 (List.length_map ..)) rfl ?_
  refine BB ?_
  rw [hLm]
  refine W.loop (X:=Nat×AV) (fun x=>[(2, .ptr 0 0),(4, .ptr 1 0),(11, .ptr (nx+1+4) 0),(55, .row (nx+1+6+1) L.length),(56, .imm (.int .i64 L.length)),(57, .imm (.int .i64 x.1))])
   (fun x n2 G2=>nx+11<=n2/\G2 0 = .box [.imm (.lst (srcs.map sv)), .imm (.lst (defs.map Dfn.iv))] false/\G2 1 = .box ty29.zero.cells false/\G2 (nx+1+2) = .row 9 1 ((srcs.map sv).map .imm) false/\G2 (nx+1+4) = .box [.row (nx+1+2) srcs.length,x.2] false/\G2 (nx+1+6+1) = .row 3 1 ((L.map natIV).map .imm) false/\x.1<=L.length/\Own 95 7 (nx+11) n2 ((takeD defs (L.take x.1)).map Dfn.iv) G2 x.2)
   (fun x=>L.length-x.1) (0, .nils) .auto ⟨by omega,g0,g1,g2,g4,g7,Nat.zero_le _, .nil ..⟩ ?_
  clear g0 g1 g2 g4 g7 G
  rintro ⟨j,v⟩ n2 G ⟨hn2,g0,g1,g2,g4,g7,hj,ho⟩
  dsimp only at g4 hj ho ⊢
  have hw1:=ho.cells1
  have hw2:=ho.one1
  rcases Bool.eq_false_or_eq_true (decide ((j:Int) < (L.length:Int))) with hcc|hcc
  ·have hlt:j < L.length:=by have:=of_decide_eq_true hcc;omega
   obtain ⟨e,hje⟩:=at_lt hlt
   have hjx:((L.map natIV).map AV.imm)[((j:Nat):Int).toNat]? = some (.imm (natIV e)):=by rw [Int.toNat_natCast];simp [hje]
   have hed:=hL e (List.mem_of_getElem? hje)
   obtain ⟨y,hy⟩:=at_lt hed
   have hyi:=at_map Dfn.iv hy
   have hdc:=y.cells_len
   have hr:=hsi y (List.mem_of_getElem? hy)
   have hmu:L.length-(j+1) < L.length-j:=by omega
   have htk:(takeD defs (L.take (j+1))).map Dfn.iv=(takeD defs (L.take j)).map Dfn.iv++[y.iv]:=by
    unfold takeD
    rw [List.take_add_one,hje,List.filterMap_append,List.map_append]
    congr 1
    show (List.filterMap _ [e]).map Dfn.iv=_
    rw [List.filterMap_cons,hy];rfl
   have hlen:((takeD defs (L.take j)).map Dfn.iv).length<=6:=by
    rw [List.length_map]
    unfold takeD
    have:=List.length_filterMap_le (fun i=>defs[i]?) (L.take j)
    rw [List.length_take] at this
    omega
   obtain ⟨ny,ey⟩:=y
   simp only at hr htk
   obtain ⟨o1,z1,n1,f1,c1,k1⟩:=ey
   refine BB ?_
   refine D.app2 ho at_upd (by simp only [most];omega) fun v' G' o' ho' hG' hG2 hlo hlo2=>?_
   have hv1:=ho'.cells1
   have hv2:=ho'.one1
   have i0:=(hG' 0 (by omega)).trans (Eq.trans at_upd g0)
   have i1:=(hG' 1 (by omega)).trans (Eq.trans at_upd g1)
   have i2:=(hG' (nx+1+2) (by omega)).trans (Eq.trans at_upd g2)
   have i4:=(hG' (nx+1+4) (by omega)).trans (Eq.trans at_upd g4)
   have i7:=(hG' (nx+1+6+1) (by omega)).trans (Eq.trans at_upd g7)
   refine BD ?_
   refine D.skipN' [0,nx+1+4,o',n2+1+3+16] (by simp;omega) [⟨0,[],[],[]⟩,⟨1,[2],[],[]⟩,⟨2,[],[],[]⟩,⟨3,[1],[],[]⟩,⟨4,[],[],[]⟩,⟨5,[],[],[]⟩,⟨6,[],[],[]⟩,⟨7,[],[],[]⟩,⟨8,[],[],[]⟩,
    ⟨9,[1],[],[]⟩,⟨10,[],[],[]⟩,⟨11,[],[],[]⟩,⟨12,[],[],[]⟩,⟨13,[],[],[]⟩,⟨14,[],[],[]⟩,⟨15,[],[],[]⟩,⟨16,[],[4],[]⟩,⟨17,[3,4],[3],[]⟩,⟨18,[],[],[]⟩,⟨19,[2],[2],[]⟩] rfl rfl (by kernel_rfl) ?_
   refine BB ?_
   refine W.skipLop (j+1,v') hmu .auto ⟨by omega,Eq.trans at_upd i0,Eq.trans at_upd i1,Eq.trans at_upd i2,at_upd,Eq.trans at_upd i7,hlt,?_⟩
   show Own 95 7 (nx+11) _ ((takeD defs (L.take (j+1))).map Dfn.iv) _ v'
   rw [htk]
   exact ho'.fr
  ·have hge:L.length<=j:=by have:=of_decide_eq_false hcc;omega
   rw [List.take_of_length_le hge] at ho
   have hmk:mkAgg [.row (nx+1+2) srcs.length,v] = .agg [.row (nx+1+2) srcs.length,v]:=mkAgg_not ⟨.row (nx+1+2) srcs.length,by simp,by intro x h;cases h⟩
   have hft:AV.fits 2 (.agg [.row (nx+1+2) srcs.length,v])=true:=by
    show ((2==2)&&(true&&(v.one&&true)))=true
    rw [hw2];rfl
   have hrw:Rdx 2 G (fun o=>2<=o) (.agg [.row (nx+1+2) srcs.length,v]) (Pgm.mk srcs (takeD defs L)).iv:=
    Rdx.agg (d:=1) (.cons (Rdx.row (d:=0) (e:=9) (sz:=1) (fr:=false) g2 (by rw [List.length_map,hsl]) (All2.imms 0 _ _ _) (by omega)) (.cons (ho.rdx.frame (fun _ _=>rfl) fun _ h=>by omega) .nil))
   refine BB ?_
   refine R.opN1 (O.storeP rfl (congrArg some hmk) hft g1 rfl rfl) ?_
   refine BB ?_
   refine W.retFinCT (cs:=[.row (nx+1+2) srcs.length,v]) rfl at_upd rfl rfl rfl ?_
   rw [hmk]
   exact Rdx.peek (d:=3) (P:=fun o=>2<=o) (Rdx.tup (d:=2) (.cons (hrw.frame (fun o h=>at_upd) fun _ h=>h) (.cons (.imm ..) .nil))) (by decide)
end Go.Abs

/- Laws that call Keep: all calls by what is known of them. -/
open Go Go.Abs Go.RowKit
namespace Go.Abs
set_option maxRecDepth 100000
theorem ret_calls {f:FuncId} {ivs:List IV} {x:IV} (h:Ret CC f ivs x):PInv CC.P f/\∀ M w vs,(∀ b o,M b=some o->w.heap[b]? = some o)->VL (VI M) ivs vs->Calls CC.P f vs w fun e w'=>∃ cv,e = .returned cv/\WS (QN w) w w'/\OrcEnd w M cv w' (.dat x):=by
 obtain ⟨n,v,G',nx',pk',ids,h1,h2⟩:=h
 refine ⟨((low_ok cfgOK n).1 _ _ _ _ _ _ _ h1).1,fun M w vs hm hv=>?_⟩
 refine (run_ok (C:=CC) (n:=n) (v:=v) (G:=G') (nx:=nx') cfgOK (by unfold run;rw [h1];rfl) hm hv).mono fun e w' ⟨cv,Q',M',ρ',he,hws,hle,hmq,hI,hsub,hva⟩=>?_
 have hdat:=peek_live _ _ _ _ h2
 refine ⟨cv,he,hws,memOf w' M' ρ' ids,Mem.le_trans hle (memOf_le _ _ _ _),hmq.trans ((MQ.memOf hI hdat).sub fun b hb=>hsub b hb),(hI.frz hdat).mem,peek_VI hI _ _ _ _ _ h2 (fun o h=>h) hva⟩
theorem ret_uniq {f:FuncId} {ivs:List IV} {x y:IV} (h:Ret CC f ivs x) (k:Ret CC f ivs y):x=y:=by
 obtain ⟨n,v,G,nx,pk,ids,h1,h2⟩:=h
 obtain ⟨m,v',G',nx',pk',ids',k1,k2⟩:=k
 have e1:=(low_mono (C:=CC) (Nat.le_max_left n m)).call _ _ _ _ _ _ h1
 have e2:=(low_mono (C:=CC) (Nat.le_max_right n m)).call _ _ _ _ _ _ k1
 rw [e1] at e2
 cases e2
 rw [h2] at k2
 cases k2
 rfl
open Classical in
noncomputable def orcK (f:FuncId) (ivs:List IV):Option OrcR:=
 if f=26 then (if h:∃ x:Pgm×List Int,ivs=[x.1.iv,intsIV x.2]/\x.1.Fits/\x.2.length<=maxI then some (.dat (keepIV (Classical.choose h).1 (Classical.choose h).2)) else none)
 else if h:∃ x,Ret CC f ivs x then some (.dat (Classical.choose h)) else none
noncomputable def CK:Cfg:={ P:=CC.P,byref:=fun _=>false,orc:=orcK }
theorem cfgK:CfgOK CK where
 mixed:=cfgOK.mixed
 ng:=cfgOK.ng
 orc:=by
  intro f ivs r h
  have h':orcK f ivs=some r:=h
  unfold orcK at h'
  split at h'
  ·rename_i hf
   subst hf
   split at h'
   ·rename_i hx
    cases h'
    obtain ⟨h1,h2,h3⟩:=Classical.choose_spec hx
    refine ⟨⟨_,Go.Proofs.Tryz.func26,by kernel_rfl⟩,fun M w vs hm hv=>?_⟩
    rw [h1] at hv
    exact keep_calls h2 h3 hm hv
   ·cases h'
  ·split at h'
   ·rename_i hx
    cases h'
    exact ret_calls (Classical.choose_spec hx)
   ·cases h'
theorem orcK_ret {f:FuncId} {ivs:List IV} {x:IV} (hf:Nat.beq f 26=false) (h:Ret CC f ivs x):CK.orc f ivs=some (.dat x):=by
 show orcK f ivs=_
 unfold orcK
 rw [if_neg (fun e=>by rw [e,Nat.beq_refl] at hf;cases hf),dif_pos ⟨x,h⟩,ret_uniq (Classical.choose_spec ⟨x,h⟩) h]
theorem sv_inj {a b:Str} (h:sv a=sv b):a=b:=by
 simp only [sv,IV.str.injEq,ByteArray.mk.injEq] at h
 have:=congrArg Array.toList h
 simpa using this
theorem map_inj {α:Type} {f:α->IV} (hf:∀ {a b},f a=f b->a=b):∀ {l m:List α},l.map f=m.map f->l=m
 |[],[],_=>rfl
 |[],_::_,h=>by cases h
 |_::_,[],h=>by cases h
 |a::l,b::m,h=>by
  rw [List.map_cons,List.map_cons,List.cons.injEq] at h
  rw [hf h.1,map_inj hf h.2]
mutual
theorem Trm.iv_inj:∀ {a b:Trm},a.iv=b.iv->a=b
 | .mk o n k, .mk o2 n2 k2,h=>by
  simp only [Trm.iv,IV.agg.injEq,List.cons.injEq,IV.int.injEq,IV.lst.injEq,true_and,and_true] at h
  obtain ⟨rfl,rfl,h⟩:=h
  rw [Trm.ivs_inj h]
theorem Trm.ivs_inj:∀ {a b:List Trm},Trm.ivs a=Trm.ivs b->a=b
 |[],[],_=>rfl
 |[],_::_,h=>by simp [Trm.ivs] at h
 |_::_,[],h=>by simp [Trm.ivs] at h
 |a::l,b::m,h=>by
  simp only [Trm.ivs,List.cons.injEq] at h
  rw [Trm.iv_inj h.1,Trm.ivs_inj h.2]
end
mutual
theorem Exp.iv_inj:∀ {a b:Exp},a.iv=b.iv->a=b
 | .mk o s n f c k, .mk o2 s2 n2 f2 c2 k2,h=>by
  simp only [Exp.iv,IV.agg.injEq,List.cons.injEq,IV.int.injEq,IV.lst.injEq,true_and,and_true] at h
  obtain ⟨rfl,hs,rfl,rfl,hc,h⟩:=h
  rw [sv_inj hs,Trm.ivs_inj hc,Exp.ivs_inj h]
theorem Exp.ivs_inj:∀ {a b:List Exp},Exp.ivs a=Exp.ivs b->a=b
 |[],[],_=>rfl
 |[],_::_,h=>by simp [Exp.ivs] at h
 |_::_,[],h=>by simp [Exp.ivs] at h
 |a::l,b::m,h=>by
  simp only [Exp.ivs,List.cons.injEq] at h
  rw [Exp.iv_inj h.1,Exp.ivs_inj h.2]
end
theorem Dfn.iv_inj {a b:Dfn} (h:a.iv=b.iv):a=b:=by
 obtain ⟨s,⟨o,z,n,f,c,k⟩⟩:=a
 obtain ⟨s2,⟨o2,z2,n2,f2,c2,k2⟩⟩:=b
 simp only [Dfn.iv,Exp.iv,IV.cells,IV.agg.injEq,List.cons.injEq] at h
 obtain ⟨h1,h2⟩:=h
 have h3:Exp.iv (.mk o z n f c k)=Exp.iv (.mk o2 z2 n2 f2 c2 k2):=by
  simp only [Exp.iv,IV.agg.injEq,List.cons.injEq];exact h2
 rw [sv_inj h1,Exp.iv_inj h3]
theorem Pgm.iv_inj {p q:Pgm} (h:p.iv=q.iv):p=q:=by
 obtain ⟨s,d⟩:=p
 obtain ⟨s2,d2⟩:=q
 simp only [Pgm.iv,IV.agg.injEq,List.cons.injEq,IV.lst.injEq,and_true] at h
 rw [map_inj sv_inj h.1,map_inj Dfn.iv_inj h.2]
theorem intsIV_inj {a b:List Int} (h:intsIV a=intsIV b):a=b:=by
 simp only [intsIV,IV.lst.injEq] at h
 exact map_inj (fun h=>by simpa [intIV] using h) h
theorem orcK_keep {p:Pgm} {ls:List Int} (hp:p.Fits) (hl:ls.length<=maxI):CK.orc 26 [p.iv,intsIV ls]=some (.dat (keepIV p ls)):=by
 show orcK 26 _=_
 unfold orcK
 have hx:∃ x:Pgm×List Int,[p.iv,intsIV ls]=[x.1.iv,intsIV x.2]/\x.1.Fits/\x.2.length<=maxI:=⟨(p,ls),rfl,hp,hl⟩
 rw [if_pos rfl,dif_pos hx]
 obtain ⟨h1,_,_⟩:=Classical.choose_spec hx
 generalize Classical.choose hx=y at *
 obtain ⟨q,ms⟩:=y
 simp only [List.cons.injEq,and_true] at h1
 simp only
 rw [Pgm.iv_inj h1.1,intsIV_inj h1.2]
instance tyisK {t:TypeId} {k:TyI} [h:TyIs CC t k]:TyIs CK t k:=⟨h.is⟩
section
variable {id nt:Nat} {l:Env} {G:Nat->Obj} {nx:Nat} {df:List (AV×List AV)} {pk:Pk}
theorem O.callO {f:FuncId} {ars:List Operand} {ats:Array TypeId} {vs:List AV} {ivs:List IV} {x:IV} (ho:CK.orc f ivs=some (.dat x)) (ha:looks l ars=some vs) (hi:imms vs=some ivs) :
  OpV CK id l G nx df pk (.call { callee := .value (.func f),args:=⟨ars⟩,argTypes:=ats }) (.imm x) []:=by
 have hb:CK.byref f=false:=rfl
 refine ⟨fun t ht=>⟨0,?_⟩⟩
 simp only [opA,ev,aCall,fnOf,List.map_nil,List.append_nil,callA,hb,Bool.false_eq_true,if_false,ht.evs ha,imms_eq hi,peeks_imm,ho,give_nil]
end
theorem calls_of_retK {f:FuncId} {ivs:List IV} {b:Bool} (h:Ret CK f ivs (.bool b)) {M:Mem} {w:World} {vs:Array Value} (hm:∀ b o,M b=some o->w.heap[b]? = some o) (hv:VL (VI M) ivs vs) :
  Calls Go.Proofs.Tryz.prog f vs w fun e w'=>e = .returned (.bool b)/\Below w.heap.size w w':=by
 obtain ⟨n,v,G',nx',pk',ids,h1,h2⟩:=h
 have hb:=peek_bool h2
 subst hb
 exact run_bool (C:=CK) (n:=n) (G:=G') (nx:=nx') cfgK (by unfold run;rw [h1];rfl) hm hv
end Go.Abs

/- Going round a ring until nothing changes: the rounds end after as many as there are members. -/
namespace Go.Abs.Iter
def le:Option Int->Option Int->Prop
 |none,_=>True
 |some _,none=>False
 |some a,some b=>a<=b
def lt (a b:Option Int):Prop:=¬ le b a
theorem le_refl:∀ a,le a a
 |none=>trivial
 |some _=>Int.le_refl _
theorem le_trans {a b c:Option Int} (h:le a b) (h2:le b c):le a c:=by
 cases a with
 |none=>trivial
 |some x=>cases b with
  |none=>exact absurd h id
  |some y=>cases c with
   |none=>exact absurd h2 id
   |some z=>exact Int.le_trans h h2
def LE (u v:Nat->Option Int):Prop:=∀ d,le (u d) (v d)
theorem nodup_le:∀ (a b:List Nat),a.Nodup->(∀ x∈a,x∈b)->a.length<=b.length
 |[],_,_,_=>Nat.zero_le _
 |x::a,b,hn,h=>by
  rw [List.nodup_cons] at hn
  have hx:x∈b:=h x (List.mem_cons_self ..)
  have:=nodup_le a (b.erase x) hn.2 (fun y hy=>by
   have hne:y≠x:=fun e=>hn.1 (e▸hy)
   exact (List.mem_erase_of_ne hne).2 (h y (List.mem_cons_of_mem _ hy)))
  rw [List.length_erase_of_mem hx] at this
  have:0 < b.length:=List.length_pos_of_mem hx
  simp only [List.length_cons];omega
section
variable (F:(Nat->Option Int)->Nat->Option Int) (g:List Nat)
def one (v:Nat->Option Int) (d:Nat):Nat->Option Int:=fun x=>if x=d then F v d else v x
def gs (v:Nat->Option Int):Nat->Option Int:=g.foldl (one F) v
def it (f:(Nat->Option Int)->(Nat->Option Int)):Nat->(Nat->Option Int)->(Nat->Option Int)
 |0,v=>v
 |n+1,v=>f (it f n v)
structure Ok (v0:Nat->Option Int):Prop where
 start:∀ d∈g,v0 d=none
 mono:∀ u v,LE u v->∀ d,le (F u d) (F v d)
 wit:∀ u v,LE u v->(∀ d,d∉g->u d=v d)->∀ d∈g,lt (F u d) (F v d)->∃ e∈g,le (F v d) (v e)/\lt (u e) (v e)
variable {F g} {v0:Nat->Option Int} (h:Ok F g v0)
include h
end
end Go.Abs.Iter

/- How expressions depend on sources: what the reference says, and what of it goes round a ring. -/
open Go Go.Abs
namespace Go.Abs
set_option maxRecDepth 100000
structure Lg where
 on:Bool
 ever:Bool
 back:Int
 ahead:Int
/-! How far ahead. -/
section
open Iter
variable (srcs names:List Str) (s:Nat)
end
end Go.Abs

/- The lags of definitions: round after round. -/
open Go Go.Abs
namespace Go.Abs
set_option maxRecDepth 100000
def expAt (p:Pgm) (d:Nat):Exp:=match p.defs[d]? with
 |some x=>x.exp
 |none => .mk 0 [] 0 0 [] []
/-! A ring. -/
/-! What is alone. -/
end Go.Abs

/- How far lags go; the lags of all definitions. -/
open Go Go.Abs
namespace Go.Abs
set_option maxRecDepth 100000
structure NodeB (x:Exp):Prop where
 n : -50<=x.n/\x.n<=50
 kids:x.kids.length<=2
 op:1<=x.op/\x.op<=15
end Go.Abs

/- The rings of a program, as the program finds them. -/
open Go Go.Abs
namespace Go.Abs
set_option maxRecDepth 100000
set_option maxHeartbeats 4000000
theorem ring_eq {tos:List (List Nat)} {i:Nat} (hi:i < tos.length) (hr:Reach tos i i):((List.range tos.length).filter (reachB tos i)).filter (fun k=>reachB tos k i)=ringTo (reachR tos) i tos.length:=by
 unfold ringTo
 rw [List.filter_filter]
 apply List.filter_congr
 intro k hk
 rw [List.mem_range] at hk
 rw [Bool.eq_iff_iff,inRing_iff hi hk,Bool.and_eq_true,reachB_iff,reachB_iff]
 constructor
 ·rintro ⟨a,b⟩;exact .inr ⟨b,a⟩
 ·rintro (rfl|⟨a,b⟩)
  ·exact ⟨hr,hr⟩
  ·exact ⟨b,a⟩
theorem head_ring {tos:List (List Nat)} {i:Nat} (hi:i < tos.length):(ringTo (reachR tos) i tos.length).head? = some i↔∀ k,k < i->¬ (Reach tos i k/\Reach tos k i):=by
 unfold ringTo
 have hn:tos.length=i+(tos.length-i-1+1):=by omega
 have hsplit:List.range tos.length=List.range i++(List.range (tos.length-i-1+1)).map (i + ·):=by
  conv=>lhs;rw [hn]
  rw [List.range_add]
 rw [hsplit,List.filter_append,List.range_succ_eq_map,List.map_cons,List.filter_cons]
 have hii:inRing (reachR tos) i (i+0)=true:=by unfold inRing;simp
 rw [if_pos hii]
 constructor
 ·intro h k hk hm
  have hmem:k∈(List.range i).filter (inRing (reachR tos) i):=List.mem_filter.2 ⟨List.mem_range.2 hk,(inRing_iff hi (by omega)).2 (.inr hm)⟩
  cases hf:(List.range i).filter (inRing (reachR tos) i) with
  |nil=>rw [hf] at hmem;cases hmem
  |cons a r=>
   rw [hf] at h
   simp at h
   subst h
   have:a∈(List.range a).filter (inRing (reachR tos) a):=by rw [hf];simp
   rw [List.mem_filter,List.mem_range] at this
   omega
 ·intro h
  have:(List.range i).filter (inRing (reachR tos) i)=[]:=by
   rw [List.filter_eq_nil_iff]
   intro k hk hr
   rw [List.mem_range] at hk
   rcases (inRing_iff hi (by omega)).1 hr with rfl|hm
   ·omega
   ·exact h k hk hm
  rw [this];simp
def InRing (tos:List (List Nat)) (i s:Nat):Prop:=∃ i',i' < i/\Reach tos i' i'/\Reach tos i' s/\Reach tos s i'
theorem ringIs_iff {tos:List (List Nat)} {i:Nat} (hi:i < tos.length):ringIs (reachR tos) i=true↔Reach tos i i/\¬ InRing tos i i:=by
 unfold ringIs
 rw [reachR_len,Bool.and_eq_true,at2_reach hi hi,reachB_iff,beq_iff_eq,head_ring hi]
 constructor
 ·rintro ⟨h1,h2⟩
  exact ⟨h1,fun ⟨i',h3,h4,h5,h6⟩=>h2 i' h3 ⟨h6,h5⟩⟩
 ·rintro ⟨h1,h2⟩
  exact ⟨h1,fun k hk ⟨h3,h4⟩=>h2 ⟨k,hk,h4.trans h3,h4,h3⟩⟩
theorem InRing.skip {tos:List (List Nat)} {i s:Nat} (h:¬ Reach tos i i\/InRing tos i i):InRing tos (i+1) s↔InRing tos i s:=by
 constructor
 ·rintro ⟨i',h1,h2,h3,h4⟩
  by_cases he:i'=i
  ·subst he
   rcases h with h|⟨j,g1,g2,g3,g4⟩
   ·exact absurd h2 h
   ·exact ⟨j,g1,g2,g3.trans h3,h4.trans g4⟩
  ·exact ⟨i',by omega,h2,h3,h4⟩
 ·rintro ⟨i',h1,h2⟩
  exact ⟨i',by omega,h2⟩
theorem InRing.step {tos:List (List Nat)} {i s:Nat} (h:Reach tos i i):InRing tos (i+1) s↔InRing tos i s\/(Reach tos i s/\Reach tos s i):=by
 constructor
 ·rintro ⟨i',h1,h2,h3,h4⟩
  by_cases he:i'=i
  ·subst he;exact .inr ⟨h3,h4⟩
  ·exact .inl ⟨i',by omega,h2,h3,h4⟩
 ·rintro (⟨i',h1,h2⟩|⟨h1,h2⟩)
  ·exact ⟨i',by omega,h2⟩
  ·exact ⟨i,by omega,h,h1,h2⟩
theorem ret17 (p:Pgm) (hp:p.Fits):Ret CC 21 [p.iv] (.tup [.lst ((ringsA p).map natsIV), .int .i64 (if progR p then 0 else 2)]):=by
 have hr:=ret54 p hp
 unfold lookedIV at hr
 unfold ringsA
 cases hb:progR p with
 |true=>
  rw [hb] at hr
  simp only [if_true] at hr ⊢
  have hc:=progR_count hb
  have hg:=countR_good hc
  have htos:=hg.tos
  have htl:(tosR p).length=p.defs.length:=hg.steps.2.1
  have hd6:=hg.defs
  have hreach:=fun (d:Nat) (h:d < p.defs.length)=>ret47 hp htos ((p.defs.length-1:Nat):Int) (countR p) (d:=d) (by rw [htl];exact h)
  have hrings:ringsOf p=ringsTo (reachR (tosR p)) p.defs.length:=by unfold ringsOf ringsR;rw [reachR_len,htl]
  rw [hrings]
  generalize ((p.defs.length-1:Nat):Int)=m1 at *
  generalize countR p=m2 at *
  generalize tosR p=tos at *
  obtain ⟨srcs,defs⟩:=p
  simp only at *
  have hdm:(defs.map Dfn.iv).length=defs.length:=List.length_map ..
  refine Ret.of (fn:=Go.Proofs.Tryz.f21) (by kernel_rfl) rfl rfl ?_
  refine AA ?_
  refine W.loop (X:=Nat×AV) (fun x=>[(1, .ptr 0 0),(4, .imm (scopeIV ⟨srcs,defs⟩ m1 m2)),(6, .map 9),(18, .imm (.lst (defs.map Dfn.iv))),(19, .imm (.int .i64 (defs.map Dfn.iv).length)),(20, .imm (.int .i64 x.1)),(5,x.2)])
   (fun x nx G=>11<=nx/\G 0 = .box [.imm (.lst (srcs.map sv)), .imm (.lst (defs.map Dfn.iv))] false/\(∃ ins,G 9=setObj ins/\ins.Nodup/\∀ s,s∈ins↔InRing tos x.1 s)/\x.1<=defs.length/\OwnV 1 44 1 11 nx ((ringsTo (reachR tos) x.1).map natsIV) G x.2)
   (fun x=>defs.length-x.1) (0, .nils) .auto ⟨by omega,rfl,⟨[],rfl,by simp,fun s=>⟨(fun h=>by cases h),(fun ⟨_,h,_⟩=>by omega)⟩⟩,Nat.zero_le _, .nil ..⟩ ?_
  rintro ⟨i,v⟩ nx G ⟨hnx,hG0,⟨ins,hG9,hin,him⟩,hi,ho⟩
  dsimp only at him hi ho ⊢
  rcases Bool.eq_false_or_eq_true (decide ((i:Int) < ((defs.map Dfn.iv).length:Int))) with hcc|hcc
  ·have hlt:i < defs.length:=by have:=of_decide_eq_true hcc;omega
   have hmu:defs.length-(i+1) < defs.length-i:=by omega
   obtain ⟨out,ho1,ho2,ho3,hr47⟩:=hreach i hlt
   have hset1:lookIs (some ty3) (some ty4) (mapKV G (.map 9)) (natIV i) false (.imm (.bool (ins.contains i))):=by
    simp only [mapKV,hG9,setObj];exact setLook ins i
   have hset2:=setLook out i
   have hins:ins.contains i=true↔InRing tos i i:=by rw [<-him i];simp
   have hout:out.contains i=true↔Reach tos i i:=by rw [<-ho3 i];simp
   have hsucc:=ringsTo_succ (reachR tos) i
   have skip:(¬ Reach tos i i\/InRing tos i i)->(∀ s,s∈ins↔InRing tos (i+1) s)/\ringsTo (reachR tos) (i+1)=ringsTo (reachR tos) i:=by
    intro h
    refine ⟨fun s=>by rw [him s,InRing.skip h],?_⟩
    rw [hsucc]
    have:ringIs (reachR tos) i=false:=by
     rw [Bool.eq_false_iff]
     intro h'
     have:=(ringIs_iff (by omega)).1 h'
     rcases h with h|h
     ·exact h this.1
     ·exact this.2 h
    rw [this,if_neg (by decide),List.append_nil]
   rcases Bool.eq_false_or_eq_true (ins.contains i) with hA|hA
   ·obtain ⟨s1,s2⟩:=skip (.inr (hins.1 hA))
    refine AA ?_
    refine W.skipLop (i+1,v) hmu .auto ⟨by omega,hG0,⟨ins,hG9,hin,s1⟩,hlt,?_⟩
    dsimp only
    rw [s2]
    exact ho.frame (by omega) fun _ _ _=>rfl
   rcases Bool.eq_false_or_eq_true (!out.contains i) with hB|hB
   ·have hB':out.contains i=false:=by simpa using hB
    obtain ⟨s1,s2⟩:=skip (.inl fun h=>by rw [hout.2 h] at hB';cases hB')
    refine AA ?_
    refine W.skipLop (i+1,v) hmu .auto ⟨by omega,hG0,⟨ins,hG9,hin,s1⟩,hlt,?_⟩
    dsimp only
    rw [s2]
    exact ho.frame (by omega) fun _ _ _=>rfl
   have hB':out.contains i=true:=by simpa using hB
   have hri:=hout.1 hB'
   have hni:¬ InRing tos i i:=fun h=>by rw [hins.2 h] at hA;cases hA
   have hri2:ringIs (reachR tos) i=true:=(ringIs_iff (by omega)).2 ⟨hri,hni⟩
   rw [hri2,if_pos rfl,reachR_len,<-ring_eq (by omega) hri] at hsucc
   have holen:=nodup_lt ho1 ho2
   have horc:CC.orc 69 [setIV out]=some (.own 3 1 (((List.range tos.length).filter (reachB tos i)).map natIV)):=orcSet ho1 ho2 (fun x _=>by rw [ho3 x,reachB_iff]) (by omega)
   have hLlt:∀ k∈(List.range tos.length).filter (reachB tos i),k < defs.length:=fun k h=>by
    rw [List.mem_filter,List.mem_range] at h;omega
   have hLr:∀ k∈(List.range tos.length).filter (reachB tos i),Reach tos i k:=fun k h=>by
    rw [List.mem_filter] at h;exact reachB_iff.1 h.2
   have hLa:∀ k,Reach tos i k->k∈(List.range tos.length).filter (reachB tos i):=fun k h=>by
    rw [List.mem_filter,List.mem_range];exact ⟨ho2 k ((ho3 k).2 h),reachB_iff.2 h⟩
   have hLl:((List.range tos.length).filter (reachB tos i)).length<=6:=by
    have:=List.length_filter_le (reachB tos i) (List.range tos.length)
    rw [List.length_range] at this;omega
   generalize (List.range tos.length).filter (reachB tos i)=L at *
   refine AA ?_
   refine R.op1 (O.callOwnI rfl horc rfl rfl) rfl ?_
   refine R.op0 (O.lenR rfl rfl at_upd (List.length_map ..)) rfl ?_
   refine AA ?_
   have hLm:(L.map natIV).length=L.length:=List.length_map ..
   rw [hLm]
   generalize hRR:nx+1+2+5+9+1+1=bR
   have hLm2:((L.map natIV).map AV.imm).length=L.length:=by simp
   generalize hP:(fun k=>reachB tos k i)=P at *
   have hPk:∀ k,P k=reachB tos k i:=fun k=>by rw [<-hP]
   refine W.loop (X:=Nat×AV) (fun x=>[(1, .ptr 0 0),(4, .imm (scopeIV ⟨srcs,defs⟩ m1 m2)),(6, .map 9),(7, .imm (natIV i)),(18, .imm (.lst (defs.map Dfn.iv))),(19, .imm (.int .i64 (defs.map Dfn.iv).length)),(20, .imm (.int .i64 i)),(5,v),(37, .row bR L.length),(38, .imm (.int .i64 L.length)),(39, .imm (.int .i64 x.1)),(9,x.2)])
    (fun x nx2 G2=>bR+1<=nx2/\G2 0 = .box [.imm (.lst (srcs.map sv)), .imm (.lst (defs.map Dfn.iv))] false/\G2 bR = .row 3 1 ((L.map natIV).map AV.imm) false/\(∃ insj,G2 9=setObj insj/\insj.Nodup/\∀ s,s∈insj↔s∈ins\/s∈(L.take x.1).filter P)/\x.1<=L.length/\OwnV 1 44 1 11 nx ((ringsTo (reachR tos) i).map natsIV) G2 v/\Own 3 1 (bR+1) nx2 (((L.take x.1).filter P).map natIV) G2 x.2)
    (fun x=>L.length-x.1) (0, .nils) .auto ⟨by omega,(upd_ne _ _ _ _ (by omega)).trans hG0,upd_same _ _ _,⟨ins,(upd_ne _ _ _ _ (by omega)).trans hG9,hin,fun s=>by simp⟩,Nat.zero_le _,ho.frame (Nat.le_refl _) (fun o _ h=>upd_ne _ _ _ _ (by omega)), .inl ⟨rfl,rfl⟩⟩ ?_
   rintro ⟨j,w⟩ nx2 G2 ⟨hnx2,hB0,hBR,⟨insj,hB9,hjn,hjm⟩,hj,hov,how⟩
   dsimp only at hjm hj hov how ⊢
   rcases Bool.eq_false_or_eq_true (decide ((j:Int) < (L.length:Int))) with hcj|hcj
   ·have hltj:j < L.length:=by have:=of_decide_eq_true hcj;omega
    obtain ⟨k,hjk⟩:=at_lt hltj
    have hjx:((L.map natIV).map AV.imm)[((j:Nat):Int).toNat]? = some (.imm (natIV k)):=by rw [Int.toNat_natCast];simp [hjk]
    have hkd:=hLlt k (List.mem_of_getElem? hjk)
    obtain ⟨outk,hk1,hk2,hk3,hr47k⟩:=hreach k hkd
    have hset3:=setLook outk i
    have hmu2:L.length-(j+1) < L.length-j:=by omega
    have htk:(L.take (j+1)).filter P=(L.take j).filter P++(if P k then [k] else []):=by
     rw [List.take_add_one,hjk,List.filter_append]
     congr 1
     simp only [Option.toList,List.filter_cons,List.filter_nil]
    have hPc:P k=outk.contains i:=by
     rw [hPk,Bool.eq_iff_iff,reachB_iff,<-hk3 i];simp
    have hll:((L.take j).filter P).length<=6:=by
     have h1:=List.length_filter_le P (L.take j)
     rw [List.length_take] at h1;omega
    rcases Bool.eq_false_or_eq_true (outk.contains i) with hC|hC
    ·rw [hPc,hC,if_pos rfl] at htk
     refine AA ?_
     refine R.app1 how at_upd (by simp only [List.length_map,most];omega) fun v' G' ho' hG'=>?_
     have hfr:∀ o,o < bR+1->G' o=G2 o:=fun o h=>by rw [hG' o h,upd_ne _ _ _ _ (by omega)]
     have h9:G' 9=setObj insj:=(hfr 9 (by omega)).trans hB9
     refine AA ?_
     refine R.opN1 (O.setPut rfl rfl rfl h9) ?_
     refine AA ?_
     refine W.skipLop (j+1,v') hmu2 .auto ⟨by omega,(upd_ne _ _ _ _ (by omega)).trans ((hfr 0 (by omega)).trans hB0),(upd_ne _ _ _ _ (by omega)).trans ((hfr bR (by omega)).trans hBR),⟨addN insj k,upd_same _ _ _,addN_nodup hjn,fun s=>?_⟩,hltj,hov.frame (Nat.le_refl _) (fun o h1 h2=>(upd_ne _ _ _ _ (by omega)).trans (hfr o (by omega))),?_⟩
     ·rw [addN_mem,hjm s,htk,List.mem_append,List.mem_singleton,or_assoc]
     ·show Own 3 1 (bR+1) _ (((L.take (j+1)).filter P).map natIV) _ v'
      rw [htk,List.map_append]
      exact ho'.frame (by omega) fun o h1 _=>upd_ne _ _ _ _ (by omega)
    ·rw [hPc,hC,if_neg (by decide),List.append_nil] at htk
     refine AA ?_
     refine W.skipLop (j+1,w) hmu2 .auto ⟨by omega,hB0,hBR,⟨insj,hB9,hjn,fun s=>by rw [hjm s,htk]⟩,hltj,hov,?_⟩
     show Own 3 1 (bR+1) _ (((L.take (j+1)).filter P).map natIV) _ w
     rw [htk]
     exact how.up (by omega)
   ·have hgej:L.length<=j:=by have:=of_decide_eq_false hcj;omega
    rw [List.take_of_length_le hgej] at hjm how
    refine AA ?_
    have hfit:=how.fits1
    have hrl:=ringsTo_len (reachR tos) i
    refine R.op1 (O.buildS (n:=1) (ke:=ty30) (xs:=[w]) rfl rfl rfl (by decide) rfl (by show ([w].all (AV.fits 1))=true;simp [hfit]) (by decide)) rfl ?_
    refine R.appOwnV (d':=1) (lo:=11) (hi:=nx) (ws:=[w]) (ys:=[natsIV (L.filter P)]) rfl rfl rfl (hov.frame (Nat.le_refl _) fun o _ h=>upd_ne _ _ _ _ (by omega)) rfl (by simp [elems,upd]) (by decide) (by decide) rfl (by show ([w].all (AV.fits 1))=true;simp [hfit]) (by simp only [List.length_map,List.length_cons,List.length_nil,most];omega) ⟨by omega,by omega⟩ (fun G' h1 h2=>⟨?_,trivial⟩) rfl fun v' G' ho' hG1 hG2=>?_
    ·exact how.rdx.frame (fun o ho=>by rw [h2 o (by omega) (by omega),upd_ne _ _ _ _ (by omega)]) fun o ho=>⟨by omega,by omega⟩
    ·refine AA ?_
     refine W.skipLop (i+1,v') hmu .auto ⟨by omega,by rw [hG1 0 (by omega),upd_ne _ _ _ _ (by omega)];exact hB0,⟨insj,by rw [hG1 9 (by omega),upd_ne _ _ _ _ (by omega)];exact hB9,hjn,fun s=>?_⟩,hlt,?_⟩
     ·rw [InRing.step hri,hjm s,him s,List.mem_filter,hPk,reachB_iff]
      constructor
      ·rintro (h|⟨h,h'⟩)
       ·exact .inl h
       ·exact .inr ⟨hLr s h,h'⟩
      ·rintro (h|⟨h,h'⟩)
       ·exact .inl h
       ·exact .inr ⟨hLa s h,h'⟩
     ·show OwnV 1 44 1 11 _ ((ringsTo (reachR tos) (i+1)).map natsIV) G' v'
      rw [hsucc,List.map_append]
      exact ho'.frame (by omega) fun _ _ _=>rfl
  ·have hge:defs.length<=i:=by have:=of_decide_eq_false hcc;omega
   have he:i=defs.length:=by omega
   subst he
   have hp:=ho.rdx
   refine AA ?_
   rcases ho with ⟨h0,rfl⟩|⟨o,vs,_,_,rfl,_⟩
   ·exact W.retFin2 rfl rfl ⟨[],by rw [h0];rfl⟩
   ·exact W.retFin2 rfl rfl (Rdx.peek (d:=3) (Rdx.tup (d:=2) (.cons hp (.cons (.imm ..) .nil))) (by decide))
 |false=>
  rw [hb] at hr
  simp only [Bool.false_eq_true,if_false] at hr ⊢
  obtain ⟨srcs,defs⟩:=p
  refine Ret.of (fn:=Go.Proofs.Tryz.f21) (by kernel_rfl) rfl rfl ?_
  refine AA ?_
  exact W.retFin2 rfl rfl ⟨[],rfl⟩
end Go.Abs

/- Reaches. -/
open Go Go.Abs
namespace Go.Abs
set_option maxRecDepth 100000
set_option maxHeartbeats 4000000
theorem ringsA_len (p:Pgm):(ringsA p).length<=6:=by
 unfold ringsA
 split
 ·rename_i h;exact ringsOf_len (countR_good (progR_count h))
 ·simp
theorem ringsA_le (p:Pgm):∀ r∈ringsA p,r.length<=6:=by
 unfold ringsA
 split
 ·rename_i h;exact ringsOf_le (countR_good (progR_count h))
 ·intro r hr;cases hr
end Go.Abs

/- The groups of definitions, in their order, as the program finds them: what is ready. -/
open Go Go.Abs
namespace Go.Abs
set_option maxRecDepth 100000
set_option maxHeartbeats 4000000
theorem progR_good {p:Pgm} (h:progR p=true):p.Good:=by
 refine countR_good ?_
 unfold progR at h
 split at h
 ·cases h
 ·omega
end Go.Abs

/- The lags of a formed program: its groups, one after the other; when a round changes nothing, all are done. -/
open Go Go.Abs
namespace Go.Abs
set_option maxRecDepth 100000
theorem NodeIs.nodeB {srcs defs:List Str} {ahead:Nat} {x:Exp} (h:NodeIs srcs defs ahead x):NodeB x/\(x.op=2\/x.op=3->0<=x.n/\x.name∈defs)/\(x.op=1->x.name∈srcs):=by
 obtain ⟨s,h1,h2⟩:=h
 unfold headIs at h2
 simp only [Bool.and_eq_true,beq_iff_eq,inR,decide_eq_true_eq] at h2
 obtain ⟨⟨⟨⟨⟨_,h4⟩,_⟩,h6⟩,_⟩,h8⟩:=h2
 rcases ops15 x.op with h|h|h|h|h|h|h|h|h|h|h|h|h|h|h|h
 case inr.inr.inr.inr.inr.inr.inr.inr.inr.inr.inr.inr.inr.inr.inr=>
  obtain ⟨n1,n2,n3,n4,n5,n6,n7,n8,n9,n10,n11,n12,n13,n14,n15⟩:=h
  simp [shapeR,n1,n2,n3,n4,n5,n6,n7,n8,n9,n10,n11,n12,n13,n14,n15] at h1
 all_goals
  simp [shapeR,h] at h1
  subst h1
  simp only at h4 h6
  refine ⟨⟨by omega,by omega,by omega⟩,fun hop=>⟨by omega,?_⟩,fun hop=>?_⟩
  all_goals first|(exfalso;omega)|skip
  all_goals
   unfold nameIs at h8
   rw [h] at h8
   simp at h8
   first|exact h8|exact List.mem_of_mem_take h8
theorem expAt_at {p:Pgm} {d:Nat} {x:Dfn} (h:p.defs[d]? = some x):expAt p d=x.exp:=by unfold expAt;rw [h]
theorem progR_node {p:Pgm} (h:progR p=true) {d:Nat} (hd:d < p.defs.length):∀ x∈allE (expAt p d),NodeIs p.srcs (p.defs.map Dfn.name) d x:=by
 obtain ⟨x,hx⟩:=at_lt hd
 rw [expAt_at hx]
 exact (progR_parts h).2.2.2.2.2 d x hx
section
variable {tos:List (List Nat)}
end
end Go.Abs

/- The lags fulfil their equations. -/
open Go Go.Abs
namespace Go.Abs
set_option maxRecDepth 100000
theorem ref_lt {p:Pgm} (hp:progR p=true) {d:Nat} (hd:d < p.defs.length) {x:Exp} (hx:x∈allE (expAt p d)) (hop:x.op=2\/x.op=3):idxN (p.defs.map Dfn.name) x.name < p.defs.length:=by
 have:=((progR_node hp hd x hx).nodeB.2.1 hop).2
 have h2:=idxN_lt this
 rwa [List.length_map] at h2
end Go.Abs

/- What is put in place: nodes, numbers, steps. -/
open Go Go.Abs
namespace Go.Abs
set_option maxRecDepth 100000
def isRef (y:Exp):Prop:=y.op=2\/y.op=3
/-! Numbers without one of them. -/
theorem idxN_get {l:List Str} {s:Str} (hn:l.Nodup) (h:s∈l):l[idxN l s]? = some s:=by
 obtain ⟨i,hi,rfl⟩:=List.mem_iff_getElem.1 h
 rw [idxN_at hn (List.getElem?_eq_getElem hi)]
 exact List.getElem?_eq_getElem hi
end Go.Abs

/- A program without a definition whose expression stands in its place: its steps. -/
open Go Go.Abs
namespace Go.Abs
set_option maxRecDepth 100000
theorem map_erase {α β:Type} (f:α->β):∀ (l:List α) (d:Nat),(l.eraseIdx d).map f=(l.map f).eraseIdx d
 |[],_=>rfl
 |_::_,0=>rfl
 |a::l,d+1=>by
  show f a::(l.eraseIdx d).map f=f a::(l.map f).eraseIdx d
  rw [map_erase f l d]
def nmsP (p:Pgm):List Str:=p.defs.map Dfn.name
theorem step_iff {p:Pgm} (hp:progR p=true) {e:Nat} (he:e < p.defs.length) {k:Nat}:k∈(tosR p).getD e []↔∃ y∈allE (expAt p e),isRef y/\idxN (nmsP p) y.name=k:=by
 obtain ⟨w,hw⟩:=at_lt he
 rw [(progR_good hp).tos.at' e w hw,expAt_at hw]
 unfold stepsN
 rw [(countR_parts (progR_count hp)).2.2.1,List.mem_map]
 constructor
 ·rintro ⟨y,hy,hk⟩
  obtain ⟨h1,h2⟩:=List.mem_filter.1 hy
  refine ⟨y,h1,?_,hk⟩
  unfold namesDef at h2
  unfold isRef
  simpa using h2
 ·rintro ⟨y,hy,ho,hk⟩
  refine ⟨y,List.mem_filter.2 ⟨hy,?_⟩,hk⟩
  unfold namesDef
  unfold isRef at ho
  simpa using ho
section
variable {p:Pgm} {d:Nat} {x:Dfn}
theorem nms_nodup {p:Pgm} (hp:progR p=true):(nmsP p).Nodup:=by
 have h:=countR_parts (progR_count hp)
 have h1:=diff_nodup h.2.1
 rw [h.2.2.1] at h1
 exact (List.nodup_append.1 h1).2.1
theorem ref_name {p:Pgm} (hp:progR p=true) {e:Nat} (he:e < p.defs.length) {y:Exp} (hy:y∈allE (expAt p e)) (ho:isRef y):y.name∈nmsP p:=((progR_node hp he y hy).nodeB.2.1 ho).2
theorem step_lt {p:Pgm} (hp:progR p=true) {e k:Nat} (he:e < p.defs.length) (hk:k∈(tosR p).getD e []):k < p.defs.length:=by
 obtain ⟨y,hy,ho,rfl⟩:=(step_iff hp he).1 hk
 exact ref_lt hp he hy ho
end
end Go.Abs

/- A program under other names is formed, and depends in the same way. -/
open Go Go.Abs
namespace Go.Abs
set_option maxRecDepth 100000
section
variable {S:List Str} {to:Str->Str}
theorem ren_beq (inj:∀ x∈S,∀ y∈S,to x=to y->x=y) {s a:Str} (hs:s∈S) (ha:a∈S):(to s==to a)=(s==a):=by
 by_cases h:s=a
 ·rw [h,beq_self_eq_true,beq_self_eq_true]
 ·rw [beq_eq_false_iff_ne.2 h,beq_eq_false_iff_ne.2 fun h2=>h (inj s hs a ha h2)]
theorem ren_cont (inj:∀ x∈S,∀ y∈S,to x=to y->x=y) {s:Str} (hs:s∈S):∀ {l:List Str},(∀ y∈l,y∈S)->(l.map to).contains (to s)=l.contains s
 |[],_=>rfl
 |a::l,hl=>by
  rw [List.map_cons,List.contains_cons,List.contains_cons,ren_beq inj hs (hl a (List.mem_cons_self ..)),ren_cont inj hs fun y hy=>hl y (List.mem_cons_of_mem _ hy)]
theorem ren_from (inj:∀ x∈S,∀ y∈S,to x=to y->x=y) {s:Str} (hs:s∈S):∀ {l:List Str} (i:Nat),(∀ y∈l,y∈S)->idxFrom (l.map to) (to s) i=idxFrom l s i
 |[],_,_=>rfl
 |a::l,i,hl=>by
  rw [List.map_cons,idxFrom,idxFrom,ren_beq inj (hl a (List.mem_cons_self ..)) hs,ren_from inj hs (i+1) fun y hy=>hl y (List.mem_cons_of_mem _ hy)]
theorem renL_len (l:List Exp):(renL to l).length=l.length:=by rw [renL_map,List.length_map]
mutual
theorem allE_ren (to:Str->Str):∀ e,allE (renE to e)=(allE e).map (renE to)
 | .mk op name n fold calcs kids=>by rw [renE,allE,allE,List.map_cons,renE,allEs_ren to kids]
theorem allEs_ren (to:Str->Str):∀ l,allEs (renL to l)=(allEs l).map (renE to)
 |[]=>by rw [renL,allEs];rfl
 |x::r=>by rw [renL,allEs,allEs,List.map_append,allE_ren to x,allEs_ren to r]
end
theorem headIs_ren (inj:∀ x∈S,∀ y∈S,to x=to y->x=y) (nil:to []=[]) (h0:[]∈S) {srcs defs:List Str} (hs:∀ y∈srcs,y∈S) (hd:∀ y∈defs,y∈S) (ahead:Nat) (s:Shp) (op:Int) {name:Str} (hn:name∈S) (n fold:Int) (nc nk:Nat) :
  headIs (srcs.map to) (defs.map to) ahead s op (to name) n fold nc nk=headIs srcs defs ahead s op name n fold nc nk:=by
 have h1:(to name==[])=(name==[]):=by
  have:=ren_beq inj hn h0
  rwa [nil] at this
 have h2:nameIs (srcs.map to) (defs.map to) ahead op (to name)=nameIs srcs defs ahead op name:=by
  unfold nameIs
  rw [ren_cont inj hn hs,ren_cont inj hn hd,<-List.map_take,ren_cont inj hn fun y hy=>hd y (List.mem_of_mem_take hy)]
 unfold headIs
 rw [h1,h2]
mutual
theorem expR_ren (inj:∀ x∈S,∀ y∈S,to x=to y->x=y) (nil:to []=[]) (h0:[]∈S) {srcs defs:List Str} (hs:∀ y∈srcs,y∈S) (hd:∀ y∈defs,y∈S) (ahead:Nat):∀ (e:Exp) (depth left:Int),(∀ x∈allE e,x.name∈S) ->
  expR (srcs.map to) (defs.map to) ahead (renE to e) depth left=expR srcs defs ahead e depth left
 | .mk op name n fold calcs kids,depth,left,h=>by
  have hn:name∈S:=h (.mk op name n fold calcs kids) (by rw [allE];exact List.mem_cons_self ..)
  rw [renE,expR,expR]
  cases shapeR op with
  |none=>rfl
  |some s=>
   dsimp only
   rw [renL_len,headIs_ren inj nil h0 hs hd ahead s op hn,expRs_ren inj nil h0 hs hd ahead kids _ _ _ fun x hx=>h x (by rw [allE];exact List.mem_cons_of_mem _ hx)]
theorem expRs_ren (inj:∀ x∈S,∀ y∈S,to x=to y->x=y) (nil:to []=[]) (h0:[]∈S) {srcs defs:List Str} (hs:∀ y∈srcs,y∈S) (hd:∀ y∈defs,y∈S) (ahead:Nat):∀ (l:List Exp) (depth left n:Int),(∀ x∈allEs l,x.name∈S) ->
  expRs (srcs.map to) (defs.map to) ahead (renL to l) depth left n=expRs srcs defs ahead l depth left n
 |[],_,_,_,_=>by rw [renL,expRs,expRs]
 |k::r,depth,left,n,h=>by
  have h1:∀ x∈allE k,x.name∈S:=fun x hx=>h x (by rw [allEs];exact List.mem_append_left _ hx)
  have h2:∀ x∈allEs r,x.name∈S:=fun x hx=>h x (by rw [allEs];exact List.mem_append_right _ hx)
  rw [renL,expRs,expRs,expR_ren inj nil h0 hs hd ahead k _ _ h1,expRs_ren inj nil h0 hs hd ahead r _ _ _ h2]
end
theorem countL_ren (inj:∀ x∈S,∀ y∈S,to x=to y->x=y) (nil:to []=[]) (h0:[]∈S) {srcs defs:List Str} (hs:∀ y∈srcs,y∈S) (hd:∀ y∈defs,y∈S):∀ (ds:List Dfn) (i:Nat) (n:Int),(∀ d∈ds,∀ x∈allE d.exp,x.name∈S) ->
  countL (srcs.map to) (defs.map to) (ds.map (renD to)) i n=countL srcs defs ds i n
 |[],_,_,_=>rfl
 |d::r,i,n,h=>by
  have h1:=h d (List.mem_cons_self ..)
  rw [List.map_cons,countL,countL,show (renD to d).exp=renE to d.exp from rfl,expR_ren inj nil h0 hs hd i d.exp _ _ h1,countL_ren inj nil h0 hs hd r _ _ fun x hx=>h x (List.mem_cons_of_mem _ hx)]
end
theorem diff_of {l:List Str} (hn:l.Nodup) (ho:∀ s∈l,nameOk s=true):diff l=true:=by
 unfold diff
 refine List.all_eq_true.2 fun i hi=>?_
 have hi:=List.mem_range.1 hi
 have hg:l.getD i []=l[i]:=by rw [List.getD_eq_getElem?_getD,List.getElem?_eq_getElem hi];rfl
 rw [hg,ho _ (List.getElem_mem hi),Bool.true_and,Bool.not_eq_true',Bool.eq_false_iff]
 intro hc
 have hm:l[i]∈l.take i:=by simpa using hc
 obtain ⟨j,hj,he⟩:=List.mem_iff_getElem.1 hm
 rw [List.getElem_take] at he
 rw [List.length_take] at hj
 exact List.pairwise_iff_getElem.1 hn j i (by omega) hi (by omega) he
structure RenIs (p q:Pgm) (to:Str->Str):Prop where
 hp:progR p=true
 srcs:q.srcs=p.srcs.map to
 defs:q.defs=p.defs.map (renD to)
 nil:to []=[]
 inj:∀ x∈[]::oldN p,∀ y∈[]::oldN p,to x=to y->x=y
 ok:∀ s∈oldN p,nameOk (to s)=true
section
variable {p q:Pgm} {to:Str->Str}
theorem RenIs.sin (_I:RenIs p q to):∀ y∈p.srcs,y∈[]::oldN p:=fun y hy=>List.mem_cons_of_mem _ (List.mem_append_left _ hy)
theorem RenIs.din (_I:RenIs p q to):∀ y∈nmsP p,y∈[]::oldN p:=fun y hy=>List.mem_cons_of_mem _ (List.mem_append_right _ hy)
theorem RenIs.ein (I:RenIs p q to):∀ d∈p.defs,∀ x∈allE d.exp,x.name∈[]::oldN p:=fun d hd x hx=>by
 obtain ⟨i,hi⟩:=List.mem_iff_getElem?.1 hd
 rcases ((progR_parts I.hp).2.2.2.2.2 i d hi x hx).named with h|h
 ·rw [h];exact List.mem_cons_self ..
 ·exact List.mem_cons_of_mem _ h
theorem RenIs.len (I:RenIs p q to):q.srcs.length=p.srcs.length/\q.defs.length=p.defs.length:=by rw [I.srcs,I.defs,List.length_map,List.length_map];exact ⟨rfl,rfl⟩
end
theorem fresh_is {l:List Str} (h:l.length<=1048576):nameOk (freshOf l)=true/\freshOf l∉l:=by
 unfold freshOf
 rw [dif_pos h]
 have:=(Classical.choose_spec (exists_first l h)).good
 unfold good at this
 rw [Bool.and_eq_true] at this
 exact ⟨this.1,by simpa using this.2⟩
theorem canonP_is {p:Pgm} (h:progR p=true):RenIs p (canonP p) (toC p):=by
 have hp:=progR_parts h
 have hlen:(oldN p).length<=10:=by rw [oldN_len];omega
 have hat:∀ s∈oldN p,∃ i,i < (oldN p).length/\(oldN p)[i]? = some s/\toC p s=freshOf (canonL i):=fun s hs=>by
  obtain ⟨i,hi⟩:=List.mem_iff_getElem?.1 hs
  exact ⟨i,(List.getElem?_eq_some_iff.1 hi).1,hi,toC_at hp.1 hi⟩
 have hf:∀ {i:Nat},i < (oldN p).length->nameOk (freshOf (canonL i))=true/\freshOf (canonL i)∉canonL i:=fun {i} hi=>fresh_is (by rw [canonL_len];omega)
 have hne:∀ {i j:Nat},j < (oldN p).length->i < j->freshOf (canonL i)≠freshOf (canonL j):=fun {i j} hj hij he=>by
  refine (hf hj).2 ?_
  rw [<-he]
  exact List.mem_of_getElem? (canonL_at hij)
 have hok:∀ s∈oldN p,nameOk (toC p s)=true:=fun s hs=>by
  obtain ⟨i,hi,_,he⟩:=hat s hs
  rw [he]
  exact (hf hi).1
 have hnil:toC p []=[]:=by
  unfold toC toR
  rw [if_neg]
  intro hc
  have:[]∈oldN p:=by simpa using hc
  exact nameOk_ne (hp.2.2.2.2.1 _ this) rfl
 refine ⟨h,?_,rfl,hnil,?_,hok⟩
 ·refine List.ext_getElem? fun i=>?_
  show (canonL p.srcs.length)[i]? = _
  rw [List.getElem?_map]
  by_cases hi:i < p.srcs.length
  ·obtain ⟨s,hs⟩:=at_lt hi
   have hs':(oldN p)[i]? = some s:=by unfold oldN;rw [List.getElem?_append_left hi];exact hs
   rw [canonL_at hi,hs,Option.map_some,toC_at hp.1 hs']
  ·rw [List.getElem?_eq_none (by omega:p.srcs.length<=i),List.getElem?_eq_none (by rw [canonL_len];omega)];rfl
 ·intro x hx y hy he
  rcases List.mem_cons.1 hx with rfl|hx
  ·rcases List.mem_cons.1 hy with rfl|hy
   ·rfl
   ·rw [hnil] at he
    exact absurd he.symm (nameOk_ne (hok y hy))
  ·rcases List.mem_cons.1 hy with rfl|hy
   ·rw [hnil] at he
    exact absurd he (nameOk_ne (hok x hx))
   ·obtain ⟨i,hi,h1,h2⟩:=hat x hx
    obtain ⟨j,hj,h3,h4⟩:=hat y hy
    rw [h2,h4] at he
    rcases Nat.lt_trichotomy i j with hij|rfl|hij
    ·exact absurd he (hne hj hij)
    ·rw [h1] at h3;exact Option.some.inj h3
    ·exact absurd he.symm (hne hi hij)
mutual
theorem renE_fits {to:Str->Str}:∀ {e:Exp},e.Fits->(∀ x∈allE e,(to x.name).length<=maxI)->(renE to e).Fits
 | .mk op name n fold calcs kids,h,hl=>by
  cases h with
  |mk _ _ _ _ _ _ hn hw hc hk hcs hks=>
   rw [renE]
   refine .mk _ _ _ _ _ _ (hl (.mk op name n fold calcs kids) (by rw [allE];exact List.mem_cons_self ..)) hw hc (by rw [renL_len];exact hk) hcs ?_
   exact renL_fits hks fun x hx=>hl x (by rw [allE];exact List.mem_cons_of_mem _ hx)
theorem renL_fits {to:Str->Str}:∀ {l:List Exp},(∀ k∈l,Exp.Fits k)->(∀ x∈allEs l,(to x.name).length<=maxI)->∀ k∈renL to l,Exp.Fits k
 |[],_,_,k,hk=>by rw [renL] at hk;cases hk
 |a::r,h,hl,k,hk=>by
  rw [renL] at hk
  rcases List.mem_cons.1 hk with rfl|hk
  ·exact renE_fits (h a (List.mem_cons_self ..)) fun x hx=>hl x (by rw [allEs];exact List.mem_append_left _ hx)
  ·exact renL_fits (fun y hy=>h y (List.mem_cons_of_mem _ hy)) (fun x hx=>hl x (by rw [allEs];exact List.mem_append_right _ hx)) k hk
end
theorem nameOk_len {s:Str} (h:nameOk s=true):s.length<=maxI:=by
 unfold nameOk at h
 simp only [Bool.and_eq_true,decide_eq_true_eq] at h
 unfold maxI
 omega
theorem RenIs.fits {p q:Pgm} {to:Str->Str} (I:RenIs p q to) (hp:p.Fits):q.Fits:=by
 have hl:∀ s∈[]::oldN p,(to s).length<=maxI:=fun s hs=>by
  rcases List.mem_cons.1 hs with rfl|hs
  ·rw [I.nil];unfold maxI;simp
  ·exact nameOk_len (I.ok s hs)
 refine ⟨by rw [I.len.1];exact hp.srcs,fun s hs=>?_,by rw [I.len.2];exact hp.defs,fun d hd=>?_,fun d hd=>?_⟩
 ·rw [I.srcs] at hs
  obtain ⟨y,hy,rfl⟩:=List.mem_map.1 hs
  exact hl y (I.sin y hy)
 ·rw [I.defs] at hd
  obtain ⟨y,hy,rfl⟩:=List.mem_map.1 hd
  exact hl y.name (I.din _ (List.mem_map.2 ⟨y,hy,rfl⟩))
 ·rw [I.defs] at hd
  obtain ⟨y,hy,rfl⟩:=List.mem_map.1 hd
  exact renE_fits (hp.exp y hy) fun x hx=>hl _ (I.ein y hy x hx)
end Go.Abs

/- Programs under other names, formed or not: what is made of them is the same. -/
open Go Go.Abs
namespace Go.Abs
set_option maxRecDepth 100000
structure RenS (S:List Str) (p q:Pgm) (to:Str->Str):Prop where
 srcs:q.srcs=p.srcs.map to
 defs:q.defs=p.defs.map (renD to)
 nil:to []=[]
 inj:∀ x∈S,∀ y∈S,to x=to y->x=y
 h0:[]∈S
 on:∀ y∈oldN p,y∈S
 ein:∀ d∈p.defs,∀ x∈allE d.exp,x.name∈S
 nd:(oldN p).Nodup
 ok1:∀ s∈oldN p,nameOk s=true
 ok2:∀ s∈oldN p,nameOk (to s)=true
 len:p.defs.length<=6
section
variable {S:List Str} {p q:Pgm} {to:Str->Str}
theorem RenIs.rens (I:RenIs p q to):RenS ([]::oldN p) p q to:=
 have h:=progR_parts I.hp
 ⟨I.srcs,I.defs,I.nil,I.inj,List.mem_cons_self ..,fun _ hy=>List.mem_cons_of_mem _ hy,I.ein,h.1,h.2.2.2.2.1,I.ok,h.2.2.1⟩
theorem RenS.sin (I:RenS S p q to):∀ y∈p.srcs,y∈S:=fun y hy=>I.on y (List.mem_append_left _ hy)
theorem RenS.din (I:RenS S p q to):∀ y∈nmsP p,y∈S:=fun y hy=>I.on y (List.mem_append_right _ hy)
theorem RenS.lens (I:RenS S p q to):q.srcs.length=p.srcs.length/\q.defs.length=p.defs.length:=by rw [I.srcs,I.defs,List.length_map,List.length_map];exact ⟨rfl,rfl⟩
theorem RenS.dn (I:RenS S p q to):defNames q=(defNames p).map to:=by
 unfold defNames
 rw [I.defs,<-List.map_take,List.map_map,List.map_map];rfl
theorem dn_nms {p:Pgm} (h:p.defs.length<=6):defNames p=nmsP p:=by unfold defNames nmsP;rw [List.take_of_length_le (by omega)]
theorem RenS.old (I:RenS S p q to):oldN q=(oldN p).map to:=by
 unfold oldN
 rw [I.srcs,I.defs,List.map_append,List.map_map,List.map_map];rfl
theorem RenS.nd2 (I:RenS S p q to):(oldN q).Nodup:=by
 rw [I.old]
 exact List.pairwise_map.2 (List.Pairwise.imp_of_mem (fun {a b} ha hb hne he=>hne (I.inj a (I.on a ha) b (I.on b hb) he)) I.nd)
theorem RenS.ok3 (I:RenS S p q to):∀ s∈oldN q,nameOk s=true:=fun s hs=>by
 rw [I.old] at hs
 obtain ⟨y,hy,rfl⟩:=List.mem_map.1 hs
 exact I.ok2 y hy
theorem RenS.count (I:RenS S p q to):countR q=countR p:=by
 have e1:p.srcs++defNames p=oldN p:=by rw [dn_nms I.len];rfl
 have e2:q.srcs++defNames q=oldN q:=by rw [dn_nms (by rw [I.lens.2];exact I.len)];rfl
 unfold countR
 rw [e1,e2,diff_of I.nd I.ok1,diff_of I.nd2 I.ok3,I.lens.1,I.lens.2,I.dn,I.srcs,I.defs,dn_nms I.len,countL_ren I.inj I.nil I.h0 I.sin I.din p.defs 0 0 I.ein]
theorem RenS.steps (I:RenS S p q to):stepsR q=stepsR p:=by
 unfold stepsR
 rw [I.defs,List.map_map]
 refine List.map_congr_left fun d hd=>?_
 show stepsL (defNames q) (allE (renE to d.exp))=_
 unfold stepsL
 rw [allE_ren,List.filter_map,List.map_map,I.dn]
 have hf:namesDef ∘ renE to=namesDef:=by
  funext x;cases x;rfl
 rw [hf]
 refine List.map_congr_left fun x hx=>?_
 have hx:=(List.mem_filter.1 hx).1
 have hn:=I.ein d hd x hx
 show idxFrom _ (renE to x).name 0=_
 have:(renE to x).name=to x.name:=by cases x;rfl
 rw [this]
 exact ren_from I.inj hn 0 (by rw [dn_nms I.len];exact I.din)
theorem RenS.tos (I:RenS S p q to):tosR q=tosR p:=by unfold tosR;rw [I.steps]
theorem RenS.fore (I:RenS S p q to) (k:Nat):foreAt q.defs k=foreAt p.defs k:=by
 unfold foreAt
 rw [I.defs,List.getElem?_map]
 cases p.defs[k]? with
 |none=>rfl
 |some d=>
  show aheadE (renE to d.exp)=aheadE d.exp
  unfold aheadE
  rw [allE_ren,List.any_map]
  congr 1
  funext x;cases x;rfl
theorem RenS.prog (I:RenS S p q to):progR q=progR p:=by
 unfold progR
 have hr:ringsOf q=ringsOf p:=by unfold ringsOf;rw [I.tos]
 rw [I.count,hr]
 simp only [I.fore]
mutual
theorem renE_ren {f g h:Str->Str}:∀ e,(∀ x∈allE e,f (g x.name)=h x.name)->renE f (renE g e)=renE h e
 | .mk op name n fold calcs kids,hh=>by
  have h0:f (g name)=h name:=hh (.mk op name n fold calcs kids) (by rw [allE];exact List.mem_cons_self ..)
  rw [renE,renE,renE,h0,renL_ren kids fun x hx=>hh x (by rw [allE];exact List.mem_cons_of_mem _ hx)]
theorem renL_ren {f g h:Str->Str}:∀ l,(∀ x∈allEs l,f (g x.name)=h x.name)->renL f (renL g l)=renL h l
 |[],_=>by rw [renL,renL,renL]
 |k::r,hh=>by
  rw [renL,renL,renL,renE_ren k fun x hx=>hh x (by rw [allEs];exact List.mem_append_left _ hx),renL_ren r fun x hx=>hh x (by rw [allEs];exact List.mem_append_right _ hx)]
end
theorem toC_nil {p:Pgm} (h:∀ s∈oldN p,nameOk s=true):toC p []=[]:=by
 unfold toC toR
 rw [if_neg]
 intro hc
 have:[]∈oldN p:=by simpa using hc
 exact nameOk_ne (h _ this) rfl
theorem RenS.canon (I:RenS S p q to) (hp:progR p=true):canonP q=canonP p:=by
 have hpp:=progR_parts hp
 have hto:∀ s,s=[]\/s∈oldN p->toC q (to s)=toC p s:=fun s hs=>by
  rcases hs with rfl|hs
  ·rw [I.nil,toC_nil I.ok3,toC_nil I.ok1]
  ·obtain ⟨i,hi⟩:=List.mem_iff_getElem?.1 hs
   rw [toC_at I.nd hi,toC_at I.nd2 (i:=i) (by rw [I.old,List.getElem?_map,hi];rfl)]
 unfold canonP
 rw [I.lens.1,I.defs,List.map_map]
 congr 1
 refine List.map_congr_left fun d hd=>?_
 have h1:toC q (to d.name)=toC p d.name:=hto _ (.inr (List.mem_append_right _ (List.mem_map.2 ⟨d,hd,rfl⟩)))
 have h2:renE (toC q) (renE to d.exp)=renE (toC p) d.exp:=renE_ren _ fun x hx=>by
  obtain ⟨i,hi⟩:=List.mem_iff_getElem?.1 hd
  exact hto _ (hpp.2.2.2.2.2 i d hi x hx).named
 show renD (toC q) (renD to d)=renD (toC p) d
 unfold renD
 rw [h1,h2]
theorem RenS.asks (I:RenS S p q to) {nm:Str} (hn:nm∈S) {d:Dfn} (hd:d∈p.defs):asksD (to nm) (renD to d)=asksD nm d:=by
 unfold asksD
 show (allE (renE to d.exp)).any _=_
 rw [allE_ren,List.any_map]
 rw [Bool.eq_iff_iff,List.any_eq_true,List.any_eq_true]
 constructor<;>rintro ⟨x,hx,h⟩<;>refine ⟨x,hx,?_⟩
 ·have h3:=ren_beq I.inj (I.ein d hd x hx) hn
  obtain ⟨o,s,n,f,c,k⟩:=x
  simp only [Function.comp,renE,asksE,Exp.op,Exp.name] at h h3 ⊢
  rw [<-h3];exact h
 ·have h3:=ren_beq I.inj (I.ein d hd x hx) hn
  obtain ⟨o,s,n,f,c,k⟩:=x
  simp only [Function.comp,renE,asksE,Exp.op,Exp.name] at h h3 ⊢
  rw [h3];exact h
mutual
theorem putE_names (nm:Str) (rep:Exp):∀ e,∀ y∈allE (putE nm rep e),(∃ x∈allE e,x.name=y.name)\/∃ x∈allE rep,x.name=y.name
 | .mk op name n fold calcs kids,y,hy=>by
  rw [putE] at hy
  split at hy
  ·exact .inr ⟨y,hy,rfl⟩
  ·rw [allE] at hy
   rcases List.mem_cons.1 hy with rfl|hy
   ·exact .inl ⟨.mk op name n fold calcs kids,by rw [allE];exact List.mem_cons_self ..,rfl⟩
   ·rcases putL_names nm rep kids y hy with ⟨x,h1,h2⟩|h
    ·exact .inl ⟨x,by rw [allE];exact List.mem_cons_of_mem _ h1,h2⟩
    ·exact .inr h
theorem putL_names (nm:Str) (rep:Exp):∀ l,∀ y∈allEs (putL nm rep l),(∃ x∈allEs l,x.name=y.name)\/∃ x∈allE rep,x.name=y.name
 |[],y,hy=>by rw [putL,allEs] at hy;cases hy
 |k::r,y,hy=>by
  rw [putL,allEs] at hy
  rcases List.mem_append.1 hy with hy|hy
  ·rcases putE_names nm rep k y hy with ⟨x,h1,h2⟩|h
   ·exact .inl ⟨x,by rw [allEs];exact List.mem_append_left _ h1,h2⟩
   ·exact .inr h
  ·rcases putL_names nm rep r y hy with ⟨x,h1,h2⟩|h
   ·exact .inl ⟨x,by rw [allEs];exact List.mem_append_right _ h1,h2⟩
   ·exact .inr h
end
mutual
theorem renE_put (inj:∀ x∈S,∀ y∈S,to x=to y->x=y) {nm:Str} (hn:nm∈S) (rep:Exp):∀ e,(∀ x∈allE e,x.name∈S)->renE to (putE nm rep e)=putE (to nm) (renE to rep) (renE to e)
 | .mk op name n fold calcs kids,h=>by
  have h0:=ren_beq inj (h (.mk op name n fold calcs kids) (by rw [allE];exact List.mem_cons_self ..)) hn
  simp only [Exp.name] at h0
  rw [putE,renE,putE,h0]
  split
  ·rfl
  ·rw [renE,renL_put inj hn rep kids fun x hx=>h x (by rw [allE];exact List.mem_cons_of_mem _ hx)]
theorem renL_put (inj:∀ x∈S,∀ y∈S,to x=to y->x=y) {nm:Str} (hn:nm∈S) (rep:Exp):∀ l,(∀ x∈allEs l,x.name∈S)->renL to (putL nm rep l)=putL (to nm) (renE to rep) (renL to l)
 |[],_=>by rw [putL,renL,putL]
 |k::r,h=>by
  rw [putL,renL,renL,putL,renE_put inj hn rep k fun x hx=>h x (by rw [allEs];exact List.mem_append_left _ hx),renL_put inj hn rep r fun x hx=>h x (by rw [allEs];exact List.mem_append_right _ hx)]
end
theorem takeD_all:∀ defs:List Dfn,takeD defs (List.range defs.length)=defs
 |[]=>rfl
 |a::l=>by
  have ih:=takeD_all l
  unfold takeD at ih ⊢
  rw [List.length_cons,List.range_succ_eq_map,List.filterMap_cons,List.filterMap_map]
  exact congrArg (a :: ·) ih
theorem RenS.part (I:RenS S p q to) {D:List Dfn} (hD:(D.map Dfn.name).Sublist (nmsP p)) (he:∀ d∈D,∀ x∈allE d.exp,x.name∈S) {D2:List Dfn} (h2:D2=D.map (renD to)):RenS S ⟨p.srcs,D⟩ ⟨q.srcs,D2⟩ to:=by
 have hs:(oldN ⟨p.srcs,D⟩).Sublist (oldN p):=List.Sublist.append (List.Sublist.refl _) hD
 have hl:=hD.length_le
 rw [List.length_map] at hl
 refine ⟨I.srcs,h2,I.nil,I.inj,I.h0,fun y hy=>I.on y (hs.subset hy),he,I.nd.sublist hs,fun y hy=>I.ok1 y (hs.subset hy),fun y hy=>I.ok2 y (hs.subset hy),?_⟩
 have:=I.len
 unfold nmsP at hl
 rw [List.length_map] at hl
 show D.length<=6
 omega
theorem RenS.inl (I:RenS S p q to) {d:Nat} {w:Dfn} (hw:p.defs[d]? = some w):RenS S (inlP p d w) (inlP q d (renD to w)) to:=by
 have hwm:=List.mem_of_getElem? hw
 have hwn:w.name∈S:=I.din _ (List.mem_map.2 ⟨w,hwm,rfl⟩)
 refine I.part ?_ (fun z hz x hx=>?_) ?_
 ·rw [List.map_map]
  show ((p.defs.eraseIdx d).map Dfn.name).Sublist _
  exact (List.eraseIdx_sublist ..).map _
 ·obtain ⟨y,hy,rfl⟩:=List.mem_map.1 hz
  rcases putE_names w.name w.exp y.exp x hx with ⟨u,h1,h2⟩|⟨u,h1,h2⟩
  ·rw [<-h2];exact I.ein y (List.mem_of_mem_eraseIdx hy) u h1
  ·rw [<-h2];exact I.ein w hwm u h1
 ·rw [I.defs,<-map_erase,List.map_map,List.map_map]
  refine List.map_congr_left fun y hy=>?_
  have hy:=List.mem_of_mem_eraseIdx hy
  show putD (renD to w).name (renD to w).exp (renD to y)=renD to (putD w.name w.exp y)
  unfold putD renD
  simp only
  rw [renE_put I.inj hwn w.exp y.exp (I.ein y hy)]
theorem RenS.keep (I:RenS S p q to) (L:List Int):RenS S (keepP p L) (keepP q L) to:=by
 have hk:keepN q L=keepN p L:=by unfold keepN;rw [I.tos,I.lens.2]
 have hmem:∀ {i:Nat} {d:Dfn},p.defs[i]? = some d->d∈p.defs:=fun h=>List.mem_of_getElem? h
 refine I.part ?_ (fun z hz x hx=>?_) ?_
 ·have h1:(takeD p.defs (keepN p L)).Sublist (takeD p.defs (List.range p.defs.length)):=List.Sublist.filterMap _ List.filter_sublist
  rw [takeD_all] at h1
  exact h1.map _
 ·unfold takeD at hz
  obtain ⟨i,_,h⟩:=List.mem_filterMap.1 hz
  exact I.ein z (hmem h) x hx
 ·rw [hk,I.defs]
  unfold takeD
  rw [List.map_filterMap]
  congr 1
  funext i
  rw [List.getElem?_map]
end
end Go.Abs
