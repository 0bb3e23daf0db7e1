/- The groups of definitions, in their order, as the program finds them: what is ready. -/
import Derived.Test.YtbdoijpclmhbaaaGreatLag10
open Go Go.Abs
namespace Go.Abs
set_option maxRecDepth 100000
set_option maxHeartbeats 4000000
def ty561:TyI:={ d:=TyD.mp 3 44,sz:=1,bytes:=8,zero:=AV.imm IV.nilmap }
instance tyis561:TyIs CC 261 ty561:=⟨by kernel_rfl⟩
def RowF (lo hi:Nat) (G:Nat->Obj) (v:AV) (g:List Nat):Prop:=v = .imm (natsIV g)\/∃ o fr,lo<=o/\o < hi/\v = .row o g.length/\G o = .row 3 1 ((g.map natIV).map .imm) fr
theorem RowF.frame {G G':Nat->Obj} {lo hi hi':Nat} {v:AV} {g:List Nat} (h:RowF lo hi G v g) (hh:hi<=hi') (hG:∀ o,lo<=o->o < hi->G' o=G o):RowF lo hi' G' v g:=by
 rcases h with h|⟨o,fr,h0,h1,h2,h3⟩
 ·exact .inl h
 ·exact .inr ⟨o,fr,h0,by omega,h2,by rw [hG o h0 h1];exact h3⟩
theorem RowF.peek {G:Nat->Obj} {lo hi:Nat} {v:AV} {g:List Nat} (h:RowF lo hi G v g):∃ ids,Go.Abs.peek G pkDepth v=some (natsIV g,ids)/\∀ o∈ids,lo<=o/\o < hi:=by
 rcases h with rfl|⟨o,fr,h0,h1,rfl,h3⟩
 ·exact ⟨[],rfl,fun _ h=>by cases h⟩
 ·refine ⟨[o],peek_row1 h3 (by simp),fun q hq=>?_⟩
  rw [List.mem_singleton] at hq;subst hq;exact ⟨h0,h1⟩
structure InIs (tos:List (List Nat)) (lo hi:Nat) (G:Nat->Obj) (ks:List Nat) (vs:List AV):Prop where
 len:vs.length=ks.length
 row:∀ (i k:Nat) (w:AV),ks[i]? = some k->vs[i]? = some w->RowF lo hi G w (grpR tos k)
theorem InIs.frame {tos:List (List Nat)} {lo hi hi':Nat} {G G':Nat->Obj} {ks:List Nat} {vs:List AV} (h:InIs tos lo hi G ks vs) (hh:hi<=hi') (hG:∀ o,lo<=o->o < hi->G' o=G o):InIs tos lo hi' G' ks vs:=
 ⟨h.len,fun i k w h1 h2=>(h.row i k w h1 h2).frame hh hG⟩
theorem findIdx_at' {s j:Nat}:∀ {l:List Nat},(l.findIdx? fun x=>s==x)=some j->l[j]? = some s
 |l,h=>by
  obtain ⟨h1,h2,_⟩:=List.findIdx?_eq_some_iff_getElem.1 h
  rw [List.getElem?_eq_getElem h1]
  simp only [beq_iff_eq] at h2
  rw [<-h2]
theorem InIs.look {tos:List (List Nat)} {lo hi:Nat} {G:Nat->Obj} {ks:List Nat} {vs:List AV} (h:InIs tos lo hi G ks vs) {d:Nat} (hd:d∈ks):∃ w,lookIs (some ty3) (some ty30) (some (ks.map natIV,vs)) (natIV d) false w/\RowF lo hi G w (grpR tos d):=by
 have hc:ks.contains d=true:=List.contains_iff_mem.2 hd
 rw [<-findIdx_contains'] at hc
 obtain ⟨j,hj⟩:=Option.isSome_iff_exists.1 hc
 have hlt:=findIdx_lt' hj
 obtain ⟨w,hw⟩:∃ w,vs[j]? = some w:=at_lt (by rw [h.len];exact hlt)
 refine ⟨w,⟨rfl, .inl ⟨j,w,?_,hw,rfl⟩⟩,h.row j d w (findIdx_at' hj) hw⟩
 rw [natKey,hj]
theorem InIs.miss {ks:List Nat} {vs:List AV} {d:Nat} (hd:d∉ks):lookIs (some ty3) (some ty30) (some (ks.map natIV,vs)) (natIV d) false .nils:=by
 refine ⟨rfl, .inr ⟨?_,rfl⟩⟩
 exact setNew (by rw [List.contains_eq_mem];exact decide_eq_false hd)
structure RdyK (tos:List (List Nat)) (done ks:List Nat) (vs:List AV) (dp md ip mi db d lo hi:Nat) (G:Nat->Obj) (nx:Nat):Prop where
 ub:dp < nx/\md < nx/\ip < nx/\mi < nx/\db < nx/\hi<=nx
 dp:G dp = .box [.map md] false
 md:G md=setObj done
 ip:G ip = .box [.map mi] false
 mi:G mi = .mp (ks.map natIV) vs false
 db:G db = .box [.imm (natIV d)] false
 ins:InIs tos lo hi G ks vs
theorem cal504 {tos:List (List Nat)} {done ks:List Nat} {vs:List AV} {dp md ip mi db d lo hi:Nat} (hdk:d∈ks) (hl:(grpR tos d).length<=1000) (x:Nat) {G:Nat->Obj} {nx:Nat} (h:RdyK tos done ks vs dp md ip mi db d lo hi G nx) :
  Cal CC 204 [.imm (natIV x), .ptr dp 0, .ptr ip 0, .ptr db 0] G nx fun v G' nx'=>v = .imm (.bool (!done.contains x && !(grpR tos d).contains x))/\nx<=nx'/\∀ o,o < nx->G' o=G o:=by
 obtain ⟨w,hlk,hrow⟩:=h.ins.look hdk
 have hset:=setLook done x
 have h438:=ret438 hl x
 have e1:=h.dp
 have e2:=h.md
 have e3:=h.ip
 have e4:=h.mi
 have e5:=h.db
 have hset':lookIs (some ty3) (some ty4) (mapKV G (.map md)) (natIV x) false (.imm (.bool (done.contains x))):=by
  simp only [mapKV,e2,setObj];exact hset
 have hlk':lookIs (some ty3) (some ty30) (mapKV G (.map mi)) (natIV d) false w:=by
  simp only [mapKV,e4];exact hlk
 refine Cal.of (fn:=Go.Proofs.Tryz.f204) (by kernel_rfl) rfl rfl ?_
 generalize done.contains x=z at *
 generalize (grpR tos d).contains x=y at *
 cases z with
 |true=>
  refine BN ?_
  exact W.retFin1 rfl ⟨rfl,by omega,fun _ _=>rfl⟩
 |false=>
  obtain ⟨ids,hp,_⟩:=hrow.peek
  refine BN ?_
  refine R.op0 (O.callG rfl (peeks_one hp (peeks_im peeks_nil)) h438 rfl) rfl ?_
  refine BN ?_
  exact W.retFin1 rfl ⟨rfl,by omega,fun _ _=>rfl⟩
theorem progR_good {p:Pgm} (h:progR p=true):p.Good:=by
 refine countR_good ?_
 unfold progR at h
 split at h
 ·cases h
 ·omega
theorem cal503 {p:Pgm} (hp:p.Fits) {done ks:List Nat} {vs:List AV} {pb dp md ip mi lo hi d:Nat} (hpr:progR p=true) (hd:d < p.defs.length) (hdk:d∈ks) {G:Nat->Obj} {nx:Nat} (hpb:pb < nx) (hP:G pb = .box [.imm (.lst (p.srcs.map sv)), .imm (.lst (p.defs.map Dfn.iv))] false)
  (hub:dp < nx/\md < nx/\ip < nx/\mi < nx/\hi<=nx) (e1:G dp = .box [.map md] false) (e2:G md=setObj done) (e3:G ip = .box [.map mi] false) (e4:G mi = .mp (ks.map natIV) vs false) (hin:InIs (tosR p) lo hi G ks vs) :
  Cal CC 203 [.imm (natIV d), .ptr pb 0, .ptr dp 0, .ptr ip 0] G nx fun v G' nx'=>v = .imm (.bool (readyR (tosR p) done d))/\nx<=nx'/\∀ o,o < nx->G' o=G o:=by
 have hg:=progR_good hpr
 have hn:(tosR p).length=p.defs.length:=hg.steps.2.1
 have hd6:=hg.defs
 have hh:hasR p (d:Int)=true:=by
  unfold hasR
  rw [hpr,decide_eq_true (by omega),decide_eq_true (by omega)];rfl
 have h15:=ret15 p hp (d:Int)
 have hra:reachA p (d:Int)=reachN p d:=by unfold reachA;rw [if_pos hh,Int.toNat_natCast]
 rw [hra] at h15
 have hrl:(reachN p d).length<=1000:=by
  unfold reachN
  have:=List.length_filter_le (reachB (tosR p) d) (List.range p.defs.length)
  rw [List.length_range] at this
  omega
 have hgl:(grpR (tosR p) d).length<=1000:=by
  have:=nodup_lt (grp_nodup (tos:=tosR p) d) (fun k hk=>grp_lt hk)
  omega
 have hset:lookIs (some ty3) (some ty4) (mapKV (upd G (nx+0) (.box [.imm (natIV d)] false)) (.map md)) (natIV d) false (.imm (.bool (done.contains d))):=by
  have:upd G (nx+0) (.box [.imm (natIV d)] false) md=setObj done:=by rw [upd_ne _ _ _ _ (by omega)];exact e2
  simp only [mapKV,this,setObj];exact setLook done d
 have hrdy:readyR (tosR p) done d=(!done.contains d && !(reachN p d).any fun k => !done.contains k && !(grpR (tosR p) d).contains k):=by
  unfold readyR reachN
  rw [hn,List.any_filter]
  congr 1
  rw [Bool.eq_iff_iff,List.all_eq_true,Bool.not_eq_true',List.any_eq_false]
  refine forall_congr' fun k=>forall_congr' fun _=>?_
  cases reachB (tosR p) d k<;>cases done.contains k<;>cases (grpR (tosR p) d).contains k<;>simp
 rw [hrdy]
 generalize srcsA p (d:Int)=sr at *
 generalize errR p (d:Int)=er at *
 generalize reachN p d=rl at *
 generalize tosR p=tos at *
 clear hrdy hra hh hn hg
 obtain ⟨srcs,defs⟩:=p
 simp only at hP
 refine Cal.of (fn:=Go.Proofs.Tryz.f203) (by kernel_rfl) rfl rfl ?_
 generalize done.contains d=z at *
 cases z with
 |true=>
  refine BN ?_
  exact W.retFin1 rfl ⟨rfl,by omega,fun o ho=>upd_ne _ _ _ _ (by omega)⟩
 |false=>
  have hc:=fun (G1:Nat->Obj) (nx1:Nat) (h1:nx+1<=nx1) (h2:∀ o,o < nx->G1 o=G o) (h3:G1 (nx+0) = .box [.imm (natIV d)] false)=>
   cal386 (f:=204) (cap:=[.ptr dp 0, .ptr ip 0, .ptr (nx+0) 0]) (P:=fun k => !done.contains k && !(grpR tos d).contains k) (K:=fun G2 nx2=>nx1<=nx2/\∀ o,o < nx+1->G2 o=G1 o) rfl (fun _ _ _ h hh=>⟨by omega,h.2⟩) (l:=rl) hrl
    (fun x _ G2 nx2 hK=>(cal504 (tos:=tos) (done:=done) (ks:=ks) (vs:=vs) (md:=md) (mi:=mi) (d:=d) (lo:=lo) (hi:=hi) hdk hgl x
     ⟨by omega,by rw [hK.2 _ (by omega),h2 _ (by omega)];exact e1,by rw [hK.2 _ (by omega),h2 _ (by omega)];exact e2,by rw [hK.2 _ (by omega),h2 _ (by omega)];exact e3,by rw [hK.2 _ (by omega),h2 _ (by omega)];exact e4,by rw [hK.2 _ (by omega)];exact h3,hin.frame (Nat.le_refl _) fun o _ ho=>by rw [hK.2 _ (by omega),h2 _ (by omega)]⟩).mono fun v G3 nx3 h=>⟨h.1,Nat.le_trans hK.1 h.2.1,fun o ho=>by rw [h.2.2 o (Nat.lt_of_lt_of_le ho (Nat.le_trans h1 hK.1))];exact hK.2 o ho⟩)
    (G:=G1) (nx:=nx1) ⟨Nat.le_refl _,fun _ _=>rfl⟩
  refine BN ?_
  refine R.callB rfl rfl rfl rfl rfl ((hc _ _ (by omega) (fun o ho=>upd_ne _ _ _ _ (by omega)) (upd_same ..)).mono fun v G' nx' hv=>?_)
  obtain ⟨rfl,h1,h2⟩:=hv
  refine BN ?_
  refine W.retFin1 rfl ⟨rfl,by omega,fun o ho=>?_⟩
  rw [h2 o (by omega)]
  exact upd_ne _ _ _ _ (by omega)
end Go.Abs

/- Programs that are the same; what is put, is short. -/
open Go Go.Abs
namespace Go.Abs
set_option maxRecDepth 100000
set_option maxHeartbeats 4000000
instance fnis60:FnIs CC 60:=⟨rfl,fun _=>rfl⟩
instance fnis23:FnIs CC 18:=⟨rfl,fun _=>rfl⟩
theorem ret60 {l:List Str} (hl:l.length<=9223372036854775807):Ret CC 60 [.lst (l.map sv), .lst (l.map sv)] (.bool true):=by
 have hlm:(l.map sv).length=l.length:=List.length_map ..
 have b3:(((l.map sv).length:Int) != ((l.map sv).length:Int))=false:=by simp
 refine Ret.of (fn:=Go.Proofs.Tryz.f60) (by kernel_rfl) rfl rfl ?_
 refine AA ?_
 refine W.loop (X:=Nat) (fun i=>[(0, .imm (.lst (l.map sv))),(1, .imm (.lst (l.map sv))),(5, .imm (.int .i64 i))])
  (fun i nx G=>i<=l.length) (fun i=>l.length-i) 0 .auto (Nat.zero_le _) ?_
 rintro i nx G hi
 rcases Bool.eq_false_or_eq_true (decide ((i:Int) < ((l.map sv).length:Int))) with hc|hc
 ·have hlt:i < l.length:=by have:=of_decide_eq_true hc;omega
  obtain ⟨d,hx⟩:=at_lt hlt
  have hxi:=at_map sv hx
  have hmu:l.length-(i+1) < l.length-i:=by omega
  have b0:(!(d==d))=false:=by simp
  refine AA ?_
  exact W.skipLop (i+1) hmu .auto hlt
 ·refine AA ?_
  exact W.retFin1 rfl ⟨[],rfl⟩
theorem ret23 {p:Pgm} (hs:p.srcs.length<=9223372036854775807) (hd:p.defs.length<=9223372036854775807) (h:∀ d∈p.defs,d.exp.Sm):Ret CC 18 [p.iv,p.iv] (.bool true):=by
 have h60:=ret60 hs
 obtain ⟨srcs,defs⟩:=p
 simp only at h60 hd h
 have hdm:(defs.map Dfn.iv).length=defs.length:=List.length_map ..
 have b3:(((defs.map Dfn.iv).length:Int) != ((defs.map Dfn.iv).length:Int))=false:=by simp
 have b4:(!true)=false:=rfl
 refine Ret.of (fn:=Go.Proofs.Tryz.f18) (by kernel_rfl) rfl rfl ?_
 refine AA ?_
 refine W.loop (X:=Nat) (fun i=>[(2, .ptr 0 0),(3, .ptr 1 0),(5, .imm (.int .i64 i))])
  (fun i nx G=>i<=defs.length/\G 0 = .box [.imm (.lst (srcs.map sv)), .imm (.lst (defs.map Dfn.iv))] false/\G 1 = .box [.imm (.lst (srcs.map sv)), .imm (.lst (defs.map Dfn.iv))] false) (fun i=>defs.length-i) 0 .auto ⟨Nat.zero_le _,rfl,rfl⟩ ?_
 rintro i nx G ⟨hi,h0,h1⟩
 rcases Bool.eq_false_or_eq_true (decide ((i:Int) < ((defs.map Dfn.iv).length:Int))) with hc|hc
 ·have hlt:i < defs.length:=by have:=of_decide_eq_true hc;omega
  obtain ⟨d,hx⟩:=at_lt hlt
  have hxi:=at_map Dfn.iv hx
  have hdc:=d.cells_len
  have hmu:defs.length-(i+1) < defs.length-i:=by omega
  have hr:=ret61 (h d (List.mem_of_getElem? hx))
  obtain ⟨nm,⟨o',s',n',f',c',k'⟩⟩:=d
  have b0:(!(nm==nm))=false:=by simp
  refine AA ?_
  exact W.skipLop (i+1) hmu .auto ⟨hlt,h0,h1⟩
 ·refine AA ?_
  exact W.retFin1 rfl ⟨[],rfl⟩
end Go.Abs

/- Names: there is one that is none of some. -/
open Go Go.Abs
namespace Go.Abs
theorem wordN_zero:wordN 0=[]:=by rw [wordN]
theorem wordN_inj:∀ n m,wordN n=wordN m->n=m:=by
 intro n
 induction n using Nat.strongRecOn with
 |_ n ih=>
  intro m h
  cases n with
  |zero=>
   cases m with
   |zero=>rfl
   |succ m=>rw [wordN_zero,wordN_succ] at h;simp at h
  |succ n=>
   cases m with
   |zero=>rw [wordN_zero,wordN_succ] at h;simp at h
   |succ m=>
    rw [wordN_succ,wordN_succ] at h
    have h1:=List.append_inj_left' h rfl
    have h2:=List.append_inj_right' h rfl
    have h3:=ih (n / 26) (by omega) _ h1
    have h4:n % 26=m % 26:=by
     have:=congrArg UInt8.toNat (List.cons.inj h2).1
     simp only [UInt8.toNat_ofNat'] at this
     omega
    omega
theorem wordN_short:∀ k n,n < 26 ^ k->(wordN n).length<=k
 |0,n,h=>by
  have:n=0:=by simpa using h
  rw [this,wordN_zero];simp
 |k+1,n,h=>by
  cases n with
  |zero=>rw [wordN_zero];simp
  |succ n=>
   rw [wordN_succ]
   have:=wordN_short k (n / 26) (by rw [Nat.pow_succ] at h;omega)
   simp;omega
theorem wordN_low:∀ n,lows (wordN n)=true:=by
 intro n
 induction n using Nat.strongRecOn with
 |_ n ih=>
  cases n with
  |zero=>rw [wordN_zero];rfl
  |succ n=>
   have h:=ih (n / 26) (by omega)
   have hc:∀ r,r < 26->okc (UInt8.ofNat (97+r))=true:=by decide
   rw [wordN_succ]
   unfold lows at h ⊢
   rw [List.all_append,h,List.all_cons,hc _ (Nat.mod_lt _ (by omega))]
   rfl
theorem name_word {n:Nat} (h1:1<=n) (h:n < 26 ^ 8):nameOk (wordN n) = !kws.contains (wordN n):=by
 have h2:=wordN_short 8 n h
 have h3:0 < (wordN n).length:=by
  cases n with
  |zero=>omega
  |succ n=>rw [wordN_succ];simp
 rw [nameOk,wordN_low,decide_eq_true h3,decide_eq_true h2]
 simp
theorem nodup_len:∀ (a b:List Str),a.Nodup->(∀ x∈a,x∈b)->a.length<=b.length
 |[],_,_,_=>Nat.zero_le _
 |x::r,b,hn,hs=>by
  rw [List.nodup_cons] at hn
  have hx:=hs x (by simp)
  have h1:=nodup_len r (b.erase x) hn.2 (fun y hy=>by
   have hne:y≠x:=fun e=>hn.1 (e▸hy)
   exact (List.mem_erase_of_ne hne).2 (hs y (by simp [hy])))
  rw [List.length_erase_of_mem hx] at h1
  have:=List.length_pos_of_mem hx
  simp
  omega
theorem least_of {p:Nat->Bool}:∀ n,p n=true->1<=n->∃ m,1<=m/\m<=n/\p m=true/\∀ k,1<=k->k < m->p k=false:=by
 intro n
 induction n using Nat.strongRecOn with
 |_ n ih=>
  intro h hn
  by_cases hk:∃ k,1<=k/\k < n/\p k=true
  ·obtain ⟨k,h1,h2,h3⟩:=hk
   obtain ⟨m,a,b,c⟩:=ih k h2 h3 h1
   exact ⟨m,a,by omega,c⟩
  ·exact ⟨n,hn,Nat.le_refl _,h,fun k h1 h2=>by
    cases e:p k with
    |false=>rfl
    |true=>exact absurd ⟨k,h1,h2,e⟩ hk⟩
theorem exists_first (l:List Str) (hl:l.length<=1048576):∃ N,First l N:=by
 have key:∃ n,1<=n/\n<=l.length+35/\good l n=true:=by
  refine Classical.byContradiction fun hno=>?_
  have h:∀ n,1<=n->n<=l.length+35->wordN n∈kws++l:=by
   intro n h1 h2
   have hg:good l n=false:=by
    cases e:good l n with
    |false=>rfl
    |true=>exact absurd ⟨n,h1,h2,e⟩ hno
   rw [good,name_word h1 (by omega)] at hg
   rw [List.mem_append]
   cases hk:kws.contains (wordN n) with
   |true=>exact .inl (by simpa using hk)
   |false=>
    rw [hk] at hg
    exact .inr (by simpa using hg)
  have h2:=nodup_len ((List.range (l.length+35)).map fun i=>wordN (i+1)) (kws++l) (by
   rw [List.nodup_iff_pairwise_ne,List.pairwise_map]
   refine List.Pairwise.imp ?_ (List.nodup_iff_pairwise_ne.1 List.nodup_range)
   intro a b hab e
   have:=wordN_inj _ _ e
   omega) (by
   intro x hx
   simp only [List.mem_map,List.mem_range] at hx
   obtain ⟨i,hi,rfl⟩:=hx
   exact h (i+1) (by omega) (by omega))
  have hk:kws.length=34:=rfl
  simp only [List.length_map,List.length_range,List.length_append,hk] at h2
  omega
 obtain ⟨n,h1,h2,h3⟩:=key
 obtain ⟨m,a,b,c,d⟩:=least_of (p:=good l) n h3 h1
 exact ⟨m,a,c,d,by omega⟩
end Go.Abs

/- Programs with other names: the names, and expressions. -/
open Go Go.Abs
namespace Go.Abs
set_option maxRecDepth 100000
set_option maxHeartbeats 4000000
open Classical in
/-- The first name that is none of some. -/
noncomputable def freshOf (l:List Str):Str:=if h:l.length<=1048576 then wordN (Classical.choose (exists_first l h)) else []
theorem allEs_mem {kids:List Exp} {c x:Exp} (h:c∈kids) (hx:x∈allE c):x∈allEs kids:=by
 induction kids with
 |nil=>cases h
 |cons k r ih=>
  rw [allEs,List.mem_append]
  rcases List.mem_cons.1 h with rfl|h
  ·exact .inl hx
  ·exact .inr (ih h)
end Go.Abs

/- Programs with other names, as the reference makes them. -/
open Go Go.Abs
namespace Go.Abs
set_option maxRecDepth 100000
set_option maxHeartbeats 4000000
def oldN (p:Pgm):List Str:=p.srcs++p.defs.map Dfn.name
theorem progR_parts {p:Pgm} (h:progR p=true):(oldN p).Nodup/\(1<=p.srcs.length/\p.srcs.length<=4)/\p.defs.length<=6/\(∀ d∈p.defs,d.exp.Sm)/\(∀ s∈oldN p,nameOk s=true)/\∀ i d,p.defs[i]? = some d->∀ x∈allE d.exp,NodeIs p.srcs (p.defs.map Dfn.name) i x:=by
 have hc:=progR_count h
 obtain ⟨h1,h2,h3,h4⟩:=countR_parts hc
 rw [h3] at h2 h4
 exact ⟨diff_nodup h2,⟨h1.1,h1.2.1⟩,h1.2.2,countR_sm hc,fun s hs=>diff_mem h2 hs,h4⟩
end Go.Abs

/- The lags of a formed program: its groups, one after the other; when a round changes nothing, all are done. -/
open Go Go.Abs
namespace Go.Abs
set_option maxRecDepth 100000
theorem NodeIs.nodeB {srcs defs:List Str} {ahead:Nat} {x:Exp} (h:NodeIs srcs defs ahead x):NodeB x/\(x.op=2\/x.op=3->0<=x.n/\x.name∈defs)/\(x.op=1->x.name∈srcs):=by
 obtain ⟨s,h1,h2⟩:=h
 unfold headIs at h2
 simp only [Bool.and_eq_true,beq_iff_eq,inR,decide_eq_true_eq] at h2
 obtain ⟨⟨⟨⟨⟨_,h4⟩,_⟩,h6⟩,_⟩,h8⟩:=h2
 rcases ops15 x.op with h|h|h|h|h|h|h|h|h|h|h|h|h|h|h|h
 case inr.inr.inr.inr.inr.inr.inr.inr.inr.inr.inr.inr.inr.inr.inr=>
  obtain ⟨n1,n2,n3,n4,n5,n6,n7,n8,n9,n10,n11,n12,n13,n14,n15⟩:=h
  simp [shapeR,n1,n2,n3,n4,n5,n6,n7,n8,n9,n10,n11,n12,n13,n14,n15] at h1
 all_goals
  simp [shapeR,h] at h1
  subst h1
  simp only at h4 h6
  refine ⟨⟨by omega,by omega,by omega⟩,fun hop=>⟨by omega,?_⟩,fun hop=>?_⟩
  all_goals first|(exfalso;omega)|skip
  all_goals
   unfold nameIs at h8
   rw [h] at h8
   simp at h8
   first|exact h8|exact List.mem_of_mem_take h8
theorem expAt_at {p:Pgm} {d:Nat} {x:Dfn} (h:p.defs[d]? = some x):expAt p d=x.exp:=by unfold expAt;rw [h]
theorem progR_node {p:Pgm} (h:progR p=true) {d:Nat} (hd:d < p.defs.length):∀ x∈allE (expAt p d),NodeIs p.srcs (p.defs.map Dfn.name) d x:=by
 obtain ⟨x,hx⟩:=at_lt hd
 rw [expAt_at hx]
 exact (progR_parts h).2.2.2.2.2 d x hx
theorem progR_small {p:Pgm} (h:progR p=true):Small p where
 len:=(progR_parts h).2.2.1
 srcs:=(progR_parts h).2.1.2
 cnt:=fun d=>by
  cases hd:p.defs[d]? with
  |none=>unfold expAt;rw [hd];simp [allE,allEs]
  |some x=>
   rw [expAt_at hd]
   have:=(progR_good h).size x (List.mem_of_getElem? hd);omega
 node:=fun d hd x hx=>(progR_node h hd x hx).nodeB.1
section
variable {tos:List (List Nat)}
theorem order_apart:∀ (f:Nat) {done:List Nat},DoneIs tos done->(done++(orderTo tos f done).flatten).Nodup
 |0,done,h=>by rw [orderTo,List.flatten_nil,List.append_nil];exact h.nodup
 |f+1,done,h=>by
  rw [orderTo]
  cases hn:nextR tos done with
  |none=>simp only [List.flatten_nil,List.append_nil];exact h.nodup
  |some d=>
   have h1:=next_inv hn
   have:=order_apart f (h.step h1.1 ((ready_iff.1 h1.2.1).1))
   simp only [List.flatten_cons]
   rwa [<-List.append_assoc]
theorem order_is:∀ (f:Nat) {done:List Nat},∀ g∈orderTo tos f done,∃ d,d < tos.length/\g=grpR tos d
 |0,_,g,h=>by cases h
 |f+1,done,g,h=>by
  rw [orderTo] at h
  cases hn:nextR tos done with
  |none=>rw [hn] at h;cases h
  |some d=>
   rw [hn] at h
   rcases List.mem_cons.1 h with rfl|h
   ·exact ⟨d,(next_inv hn).1,rfl⟩
   ·exact order_is f g h
theorem order_len:∀ (f:Nat) {done:List Nat},(orderTo tos f done).length<=f
 |0,_=>by rw [orderTo];exact Nat.le_refl _
 |f+1,done=>by
  rw [orderTo]
  cases nextR tos done with
  |none=>exact Nat.zero_le _
  |some d=>exact Nat.succ_le_succ (order_len f)
structure GrpIs (tos:List (List Nat)) (g:List Nat):Prop where
 lt:∀ d∈g,d < tos.length
 ne:∃ f r,g=f::r
 nodup:g.Nodup
 ring:∀ d∈g,reachB tos d d=ringB tos g
 alone:ringB tos g=false->∃ d,g=[d]
theorem order_grp {g:List Nat} (h:g∈orderR tos):GrpIs tos g:=by
 obtain ⟨d,hd,rfl⟩:=order_is _ g h
 obtain ⟨f,r,hfr⟩:∃ f r,grpR tos d=f::r:=by
  cases hg:grpR tos d with
  |nil=>have:=grp_self hd;rw [hg] at this;cases this
  |cons f r=>exact ⟨f,r,rfl⟩
 have hring:∀ k∈grpR tos d,reachB tos k k=reachB tos d d:=fun k hk=>by
  obtain ⟨_,h⟩:=(mem_grp hd).1 hk
  rcases h with rfl|⟨h1,h2⟩
  ·rfl
  ·rw [reachB_iff.2 (h1.trans h2),reachB_iff.2 (h2.trans h1)]
 have hr:ringB tos (grpR tos d)=reachB tos d d:=by
  rw [<-hring f (hfr▸List.mem_cons_self ..),hfr];rfl
 refine ⟨fun k hk=>grp_lt hk,⟨f,r,hfr⟩,grp_nodup d,fun k hk=>by rw [hr];exact hring k hk,fun h=>?_⟩
 rw [hr] at h
 exact ⟨d,grp_alone hd fun hc=>by rw [reachB_iff.2 hc] at h;cases h⟩
end
theorem grp_end {p:Pgm} (hp:progR p=true) {g:List Nat} (hg:GrpIs (tosR p) g) {D:List (List Lg)} (hD:Wide p D) (h0:∀ d∈g,∀ s,colD D s d=Lg.z) {m n:Nat} (hm:g.length<=m) (hn:g.length<=n) :
  rndsL p (ringB (tosR p) g) g m D=rndsL p (ringB (tosR p) g) g n D:=by
 have hgd:=progR_good hp
 have htl:(tosR p).length=p.defs.length:=hgd.steps.2.1
 cases hr:ringB (tosR p) g with
 |true=>
  refine ring_end (fun d hd=>by rw [<-htl];exact hg.lt d hd) (fun d hd x hx=>⟨?_,fun hop=>?_⟩) hD h0 hm hn
  ·have hdl:d < p.defs.length:=by rw [<-htl];exact hg.lt d hd
   have h1:=(progR_eq (progR_count hp)).1 hp d hdl (reachB_iff.1 (by rw [hg.ring d hd,hr]))
   obtain ⟨y,hy⟩:=at_lt hdl
   rw [expAt_at hy] at hx
   unfold foreAt at h1
   rw [hy] at h1
   simp only at h1
   unfold aheadE at h1
   rw [List.any_eq_false] at h1
   simpa using h1 x hx
  ·exact ((progR_node hp (by rw [<-htl];exact hg.lt d hd) x hx).nodeB.2.1 hop).1
 |false=>
  obtain ⟨d,rfl⟩:=hg.alone hr
  have hdl:d < p.defs.length:=by rw [<-htl];exact hg.lt d (List.mem_cons_self ..)
  have hx:∀ x∈allE (expAt p d),x.op=2\/x.op=3->idxN (p.defs.map Dfn.name) x.name≠d:=fun x hx hop he=>by
   have hnr:reachB (tosR p) d d=false:=by rw [hg.ring d (List.mem_cons_self ..),hr]
   refine Bool.false_ne_true (hnr.symm.trans (reachB_iff.2 (.one ?_)))
   obtain ⟨y,hy⟩:=at_lt hdl
   rw [hgd.tos.at' d y hy]
   unfold stepsN
   rw [List.mem_map]
   refine ⟨x,List.mem_filter.2 ⟨by rwa [expAt_at hy] at hx,?_⟩,?_⟩
   ·unfold namesDef
    rcases hop with h|h<;>rw [h]<;>rfl
   ·rw [(countR_parts (progR_count hp)).2.2.1];exact he
  simp only [List.length_cons,List.length_nil] at hm hn
  rw [one_end hdl hx hD hm,one_end hdl hx hD hn]
theorem grp_still {p:Pgm} (hp:progR p=true) {g:List Nat} (hg:GrpIs (tosR p) g) {D:List (List Lg)} (hD:Wide p D) (h0:∀ d∈g,∀ s,colD D s d=Lg.z) {r n:Nat} (hn:g.length<=n)
  (h:rndL p (ringB (tosR p) g) g (rndsL p (ringB (tosR p) g) g r D)=rndsL p (ringB (tosR p) g) g r D):rndsL p (ringB (tosR p) g) g r D=rndsL p (ringB (tosR p) g) g n D:=by
 have h1:=rnds_still h (m:=max r n) (by omega)
 rw [<-h1]
 exact grp_end hp hg hD h0 (by omega) hn
theorem grp_must {p:Pgm} (hp:progR p=true) {g:List Nat} (hg:GrpIs (tosR p) g) {D:List (List Lg)} (hD:Wide p D) (h0:∀ d∈g,∀ s,colD D s d=Lg.z) {r:Nat} (hr:g.length<=r) :
  rndL p (ringB (tosR p) g) g (rndsL p (ringB (tosR p) g) g r D)=rndsL p (ringB (tosR p) g) g r D:=by
 rw [show rndL p (ringB (tosR p) g) g (rndsL p (ringB (tosR p) g) g r D)=rndsL p (ringB (tosR p) g) g (r+1) D from rfl]
 exact grp_end hp hg hD h0 (by omega) hr
end Go.Abs

/- The reference: how an expression depends on each source. -/
open Go Go.Abs
namespace Go.Abs
set_option maxRecDepth 100000
set_option maxHeartbeats 4000000
structure NodeP (p:Pgm) (x:Exp):Prop where
 b:NodeB x
 ref:x.op=2\/x.op=3->0<=x.n/\x.name∈p.defs.map Dfn.name
 src:x.op=1->x.name∈p.srcs
theorem progR_nodeP {p:Pgm} (h:progR p=true) {d:Nat} (hd:d < p.defs.length):∀ x∈allE (expAt p d),NodeP p x:=fun x hx=>
 have:=(progR_node h hd x hx).nodeB
 ⟨this.1,this.2.1,this.2.2⟩
theorem kidsG_snoc (srcs names:List Str) (v:Nat->Lg) (s:Nat) (op n:Int) (x:Exp):∀ (l:List Exp) (i:Nat) (out:Lg),kidsG srcs names v s op n (l++[x]) i out=(kidsG srcs names v s op n l i out).both (kidL op n (i+l.length) (expG srcs names v s x))
 |[],i,out=>by rw [List.nil_append,kidsG,kidsG,kidsG];rfl
 |y::l,i,out=>by
  rw [List.cons_append,kidsG,kidsG,kidsG_snoc srcs names v s op n x l (i+1) _,List.length_cons,Nat.add_right_comm,Nat.add_assoc]
theorem kidsG_take {srcs names:List Str} {v:Nat->Lg} {s:Nat} {op n:Int} {l:List Exp} {i:Nat} {x:Exp} (h:l[i]? = some x):kidsG srcs names v s op n (l.take (i+1)) 0 Lg.z=(kidsG srcs names v s op n (l.take i) 0 Lg.z).both (kidL op n i (expG srcs names v s x)):=by
 have hlt:=(List.getElem?_eq_some_iff.1 h).1
 rw [List.take_add_one,h]
 simp only [Option.toList]
 rw [kidsG_snoc,List.length_take,Nat.zero_add,Nat.min_eq_left (by omega)]
theorem colD_at {D:List (List Lg)} {d:Nat} {r:List Lg} (h:D[d]? = some r) (s:Nat):r.getD s Lg.z=colD D s d:=by
 unfold colD;rw [List.getD_eq_getElem?_getD (l:=D),h];rfl
theorem cal385 {p:Pgm} (hp:p.Fits) (hpr:progR p=true) {E:List (List Lg)} {K:Int} (hK:0<=K/\K<=4000000000) (hW:Wide p E) (hI:InL K E):∀ (m:Nat) (e:Exp),(allE e).length<=m->m<=1000->(∀ x∈allE e,NodeP p x) ->
  ∀ {G:Nat->Obj} {nx lo hi:Nat} {dv:AV},RowsV 147 49 lo hi G dv E->hi<=nx ->
  Cal CC 85 [.imm p.iv,dv, .imm e.iv] G nx fun v G' nx'=>RowU 147 nx nx' G' v (allL p E e)/\nx<=nx'/\∀ q,q < nx->G' q=G q
 |0, .mk op name n fold calcs kids,h,_,_,_,_,_,_,_,_,_=>by rw [allE] at h;simp at h
 |m+1, .mk op name n fold calcs kids,h,hm,hN,G,nx,lo,hi,dv,hR,hh=>by
  have hb:=hN (.mk op name n fold calcs kids) (by rw [allE];exact List.mem_cons_self ..)
  have hn50 : -50<=n/\n<=50:=hb.b.n
  have h96:=ret96 p hp.defs
  rw [(countR_parts (progR_count hpr)).2.2.1] at h96
  have hsm:=progR_small hpr
  have h6:=hsm.len
  have h4:=hsm.srcs
  have hsp:1<=p.srcs.length:=(progR_parts hpr).2.1.1
  have hDl:=hW.len
  have hm':m<=1000:=by omega
  have ih:=fun e h1 h2 G nx lo hi dv=>@cal385 p hp hpr E K hK hW hI m e h1 hm' h2 G nx lo hi dv
  unfold allL at *
  generalize hnames:p.defs.map Dfn.name=names at *
  have hnl:names.length=p.defs.length:=by rw [<-hnames,List.length_map]
  obtain ⟨srcs,defs⟩:=p
  simp only at *
  have hsm:(srcs.map sv).length=srcs.length:=List.length_map ..
  have hsm2:(List.map sv (Pgm.mk srcs defs).srcs).length=srcs.length:=List.length_map ..
  have hsm2':((List.map sv (Pgm.mk srcs defs).srcs).length:Int)=(srcs.length:Int):=by rw [hsm2]
  rcases Classical.em (op=1) with rfl|h1
  ·have h69:=ret69 srcs name (by omega)
   have hs:=hb.src rfl
   have hs:name∈srcs:=hs
   rw [idxFrom_idxN hs,Nat.zero_add] at h69
   have hlt:=idxN_lt hs
   have bA:((1:Int)==1)=true:=rfl
   refine Cal.of (fn:=Go.Proofs.Tryz.f85) (by kernel_rfl) rfl rfl ?_
   refine BN ?_
   refine R.op1 (O.makeL (n:=srcs.length) (fun _=>Lg.z) rfl inferInstance ⟨rfl,rfl,by decide⟩ rfl rfl hsm2' (by omega)) rfl ?_
   refine BN ?_
   refine R.op0 (O.addrRX rfl inferInstance rfl rfl at_upd mixL_ivlen (by omega) rfl) rfl ?_
   refine R.opN1 (O.storeRS (by decide) rfl rfl rfl at_upd mixL_ivlen (mixL_ivat0 hlt) rfl rfl) ?_
   refine BN ?_
   refine W.retFin1 rfl ⟨⟨nx+3+3,by omega,by omega,by simp,?_⟩,by omega,fun q hq=>at_upd⟩
   have hx:∀ s,expG srcs names (colD E s) s (.mk 1 name n fold calcs kids)=if idxN srcs name=s then ⟨true,false,0,0⟩ else Lg.z:=fun s=>by rw [expG,if_pos rfl]
   simp only [hx]
   rw [upd_same,Int.toNat_natCast]
   exact congrArg (fun x=>Obj.row 147 4 x false) (mixL_one (f:=fun _=>Lg.z) (a:=⟨true,false,0,0⟩) hlt)
  ·have bA:(op==1)=false:=by simpa using h1
   rcases Classical.em (op=2\/op=3) with h23|h23
   ·have h69:=ret69 names name (by omega)
    have hs:=(hb.ref h23).2
    have hs:name∈names:=hnames▸hs
    have hn0:0<=n:=(hb.ref h23).1
    rw [idxFrom_idxN hs,Nat.zero_add] at h69
    have hlt:=idxN_lt hs
    have hx:∀ s,expG srcs names (colD E s) s (.mk op name n fold calcs kids)=(colD E s (idxN names name)).thru false n (-n):=fun s=>by rw [expG,if_neg h1,if_pos h23]
    simp only [hx]
    generalize idxN names name=j at *
    obtain ⟨L,hL⟩:∃ L,E[j]? = some L:=at_lt (by omega)
    have hcol:∀ s,colD E s j=L.getD s Lg.z:=fun s=>(colD_at hL s).symm
    simp only [hcol]
    have hLl:L.length=srcs.length:=hW.row L (List.mem_of_getElem? hL)
    have hLi:∀ s,(L.getD s Lg.z).In 4294967296:=fun s=>by rw [<-hcol];exact (hI.col hK.1 s j).mono (by omega)
    have b23:(op==2)=true\/((op==2)=false/\(op==3)=true):=by rcases h23 with rfl|rfl<;>simp
    refine Cal.of (fn:=Go.Proofs.Tryz.f85) (by kernel_rfl) rfl rfl ?_
    refine BN ?_
    refine R.op1 (O.makeL (n:=srcs.length) (fun s=>(L.getD s Lg.z).thru false n (-n)) rfl inferInstance ⟨rfl,rfl,by decide⟩ rfl rfl hsm2' (by omega)) rfl ?_
    rcases b23 with b2|⟨b2,b3⟩
    all_goals
     refine BN ?_
     refine D.rowAt (hR.frame (lo':=lo) (hi':=hi) (Nat.le_refl _) (Nat.le_refl _) fun o ho=>at_upd) hL rfl ⟨rfl,rfl⟩ rfl rfl rfl rfl fun a w rd1 rd2 hw=>?_
     refine BN ?_
     refine W.loop (X:=Nat) (fun s=>[(3, .ptr (nx+0) 0),(5, .ptr (nx+1) 0),(7, .row (nx+3+3) srcs.length),(8,w),(9, .imm (.int .i64 s))])
      (fun s nx1 G1=>nx+7<=nx1/\s<=srcs.length/\RowV 147 lo hi G1 w L/\G1 (nx+1) = .box ((Exp.mk op name n fold calcs kids).iv.cells.map .imm) false /\
       G1 (nx+3+3) = .row 147 4 (((mixL srcs.length s (fun s=>(L.getD s Lg.z).thru false n (-n)) fun _=>Lg.z).map Lg.iv).map .imm) false/\∀ o,o < nx->G1 o=G o)
      (fun s=>srcs.length-s) 0 .auto ⟨by omega,Nat.zero_le _,hw,at_upd,at_upd,fun o ho=>at_upd⟩ ?_
     clear hw
     rintro s nx1 G1 ⟨hnx,hs,hw,g1,g6,hG1⟩
     refine BN ?_
     refine R.op0 (O.lenR rfl rfl g6 mixL_ivlen) rfl ?_
     refine BN ?_
     refine W.cond rfl (fun h1=>?_) (fun h1=>?_)
     ·have hlt:s < srcs.length:=by have:=of_decide_eq_true h1;omega
      have hmu:srcs.length-(s+1) < srcs.length-s:=by omega
      have h446:=ret446 (ev:=false) (bk:=n) (ah := -n) (hLi s) (by omega) (by omega)
      have hset:=mixL_set (f:=fun s=>(L.getD s Lg.z).thru false n (-n)) (g:=fun _=>Lg.z) hlt
      refine BN ?_
      refine D.lagAt hw (by omega) rfl ⟨rfl,rfl⟩ rfl rfl rfl rfl fun a2 rd3 rd4=>?_
      refine BN ?_
      refine D.op0 (O.addrRX rfl inferInstance rfl rfl g6 mixL_ivlen (by omega) rfl) rfl rfl ?_
      refine D.opN1 (O.storeRS (by decide) rfl rfl rfl g6 mixL_ivlen (mixL_ivat hlt) rfl rfl) rfl ?_
      refine D.skip (by kernel_rfl) ?_
      refine BN ?_
      exact W.skipLop (s+1) hmu .auto ⟨by omega,hlt,hw.frame (Nat.le_refl _) (Nat.le_refl _) fun o _ ho _=>upd_ne _ _ _ _ (by omega),(upd_ne _ _ _ _ (by omega)).trans g1,(upd_same ..).trans (congrArg (fun x=>Obj.row 147 4 x false) hset),fun o ho=>(upd_ne _ _ _ _ (by omega)).trans (hG1 o ho)⟩
     ·have hge:s=srcs.length:=by have:=of_decide_eq_false h1;omega
      subst hge
      refine BN ?_
      exact W.retFin1 rfl ⟨⟨nx+3+3,by omega,by omega,by simp,by rw [<-mixL_all (g:=fun _=>Lg.z)];exact g6⟩,by omega,hG1⟩
   ·have b2:(op==2)=false:=by simpa using fun h=>h23 (.inl h)
    have b3:(op==3)=false:=by simpa using fun h=>h23 (.inr h)
    have hx:∀ s,expG srcs names (colD E s) s (.mk op name n fold calcs kids)=kidsG srcs names (colD E s) s op n kids 0 Lg.z:=fun s=>by rw [expG,if_neg h1,if_neg h23]
    simp only [hx]
    have hkl:kids.length<=2:=hb.b.kids
    have hop:=hb.b.op
    have hkm:(Exp.ivs kids).length=kids.length:=ivs_len kids
    have hle:(allEs kids).length<=m:=by rw [allE,List.length_cons] at h;omega
    have hNk:∀ x∈allEs kids,NodeP ⟨srcs,defs⟩ x:=fun x hx=>hN x (by rw [allE];exact List.mem_cons_of_mem _ hx)
    refine Cal.of (fn:=Go.Proofs.Tryz.f85) (by kernel_rfl) rfl rfl ?_
    refine BN ?_
    refine R.op1 (O.makeL (n:=srcs.length) (fun s=>kidsG srcs names (colD E s) s op n (kids.take 0) 0 Lg.z) rfl inferInstance ⟨rfl,rfl,by decide⟩ rfl rfl hsm2' (by omega)) rfl ?_
    refine BN ?_
    refine W.loop (X:=Nat) (fun i=>[(1,dv),(3, .ptr (nx+0) 0),(5, .ptr (nx+1) 0),(7, .row (nx+3+3) srcs.length),(10, .imm (.int .i64 i))])
     (fun i nx1 G1=>nx+7<=nx1/\i<=kids.length/\G1 (nx+0) = .box [.imm (.lst (srcs.map sv)), .imm (.lst (defs.map Dfn.iv))] false/\G1 (nx+1) = .box ((Exp.mk op name n fold calcs kids).iv.cells.map .imm) false /\
      G1 (nx+3+3) = .row 147 4 ((((List.range srcs.length).map fun s=>kidsG srcs names (colD E s) s op n (kids.take i) 0 Lg.z).map Lg.iv).map .imm) false/\∀ o,o < nx->G1 o=G o)
     (fun i=>kids.length-i) 0 .auto ⟨by omega,Nat.zero_le _,at_upd,at_upd,?_,fun o ho=>at_upd⟩ ?_
    ·refine (upd_same ..).trans ?_
     rw [mixL_zero]
     simp only [List.take_zero,kidsG]
    rintro i nx1 G1 ⟨hnx,hi1,g0,g1,g6,hG1⟩
    refine BN ?_
    refine W.cond rfl (fun h2=>?_) (fun h2=>?_)
    ·have hlt:i < kids.length:=by have:=of_decide_eq_true h2;omega
     obtain ⟨x,hx⟩:=at_lt hlt
     have hxi:=ivs_at hx
     have hmu:kids.length-(i+1) < kids.length-i:=by omega
     have hxm:=List.mem_of_getElem? hx
     have hxl:=allE_kid hxm
     have hih:=fun nx2 (h:nx1<=nx2)=>ih x (by omega) (fun y hy=>hNk y (allEs_mem hxm hy)) G1 nx2 lo nx dv (hR.frame (Nat.le_refl _) hh fun o ho=>hG1 o (by omega)) (by omega)
     have htk:=fun s=>kidsG_take (srcs:=srcs) (names:=names) (v:=colD E s) (s:=s) (op:=op) (n:=n) hx
     have hxin:∀ s,(expG srcs names (colD E s) s x).In 4294967295:=fun s=>(expG_in srcs names hK.1 (hI.col hK.1 s) s x fun y hy=>(hNk y (allEs_mem hxm hy)).b).mono (by omega)
     generalize hX:(fun s=>expG srcs names (colD E s) s x)=X at *
     have hX':∀ s,expG srcs names (colD E s) s x=X s:=fun s=>congrFun hX s
     simp only [hX'] at htk hxin
     obtain ⟨o',s',n',f',c',k'⟩:=x
     refine BN ?_
     refine D.callB rfl rfl rfl rfl rfl (by kernel_rfl) ((hih _ (by omega)).mono fun v G2 nx2 hv=>?_)
     obtain ⟨hv,hnx2,hG2⟩:=hv
     refine BN ?_
     refine W.loop (X:=Nat) (fun s=>[(1,dv),(3, .ptr (nx+0) 0),(5, .ptr (nx+1) 0),(7, .row (nx+3+3) srcs.length),(10, .imm (.int .i64 i)),(11,v),(12, .imm (.int .i64 s))])
      (fun s nx3 G3=>nx2<=nx3/\s<=srcs.length/\RowL 147 nx1 nx2 G3 v ((List.range srcs.length).map X)/\G3 (nx+0) = .box [.imm (.lst (srcs.map sv)), .imm (.lst (defs.map Dfn.iv))] false/\G3 (nx+1) = .box ((Exp.mk op name n fold calcs kids).iv.cells.map .imm) false /\
       G3 (nx+3+3) = .row 147 4 (((mixL srcs.length s (fun s=>kidsG srcs names (colD E s) s op n (kids.take (i+1)) 0 Lg.z) fun s=>kidsG srcs names (colD E s) s op n (kids.take i) 0 Lg.z).map Lg.iv).map .imm) false/\∀ o,o < nx->G3 o=G o)
      (fun s=>srcs.length-s) 0 .auto ⟨by omega,Nat.zero_le _,hv.rowL.frame (by omega) (Nat.le_refl _) fun _ _ _ _=>rfl,by rw [hG2 _ (by omega)];exact g0,by rw [hG2 _ (by omega)];exact g1,by rw [hG2 _ (by omega),mixL_zero];exact g6,fun o ho=>by rw [hG2 _ (by omega)];exact hG1 o ho⟩ ?_
     clear hv hG2 g0 g1 g6 hG1 hih
     rintro s nx3 G3 ⟨hnx3,hs,hv,g0,g1,g6,hG3⟩
     refine BN ?_
     refine R.op0 (O.lenR rfl rfl g6 mixL_ivlen) rfl ?_
     refine BN ?_
     refine W.cond rfl (fun h3=>?_) (fun h3=>?_)
     ·have hls:s < srcs.length:=by have:=of_decide_eq_true h3;omega
      have hmu2:srcs.length-(s+1) < srcs.length-s:=by omega
      have hset:=mixL_set (f:=fun s=>kidsG srcs names (colD E s) s op n (kids.take (i+1)) 0 Lg.z) (g:=fun s=>kidsG srcs names (colD E s) s op n (kids.take i) 0 Lg.z) hls
      have hXs:((List.range srcs.length).map X).getD s Lg.z=X s:=by simp [List.getD_eq_getElem?_getD,hls]
      have h456:=ret456 (op:=op) (n:=n) (i:=i) (name:=name) (fold:=fold) (calcs:=calcs) (kids:=kids) (hxin s) hop hn50 (by omega)
      have h455:=ret455 (a:=kidsG srcs names (colD E s) s op n (kids.take i) 0 Lg.z) (b:=kidL op n i (X s))
      rw [<-htk] at h455
      have hat:=mixL_ivat (f:=fun s=>kidsG srcs names (colD E s) s op n (kids.take (i+1)) 0 Lg.z) (g:=fun s=>kidsG srcs names (colD E s) s op n (kids.take i) 0 Lg.z) hls
      have hml:=mixL_ivlen (n:=srcs.length) (j:=s) (f:=fun s=>kidsG srcs names (colD E s) s op n (kids.take (i+1)) 0 Lg.z) (g:=fun s=>kidsG srcs names (colD E s) s op n (kids.take i) 0 Lg.z)
      refine BN ?_
      refine D.lagAt (.inr hv) (by simp;omega) rfl ⟨rfl,rfl⟩ rfl rfl rfl rfl fun a2 rd3 rd4=>?_
      rw [hXs]
      refine BN ?_
      refine D.opN1 (O.storeRS (by decide) rfl rfl rfl g6 mixL_ivlen (mixL_ivat hls) rfl rfl) rfl ?_
      refine D.skip (by kernel_rfl) ?_
      refine BN ?_
      exact W.skipLop (s+1) hmu2 .auto ⟨by omega,hls,hv.frame (Nat.le_refl _) (Nat.le_refl _) fun o _ ho _=>upd_ne _ _ _ _ (by omega),(upd_ne _ _ _ _ (by omega)).trans g0,(upd_ne _ _ _ _ (by omega)).trans g1,(upd_same ..).trans (congrArg (fun x=>Obj.row 147 4 x false) hset),fun o ho=>(upd_ne _ _ _ _ (by omega)).trans (hG3 o ho)⟩
     ·have hge:s=srcs.length:=by have:=of_decide_eq_false h3;omega
      subst hge
      rw [mixL_all] at g6
      refine BN ?_
      exact W.skipLop (i+1) hmu .auto ⟨by omega,hlt,g0,g1,g6,hG3⟩
    ·have hge:kids.length<=i:=by have:=of_decide_eq_false h2;omega
     rw [List.take_of_length_le hge] at g6
     refine BN ?_
     exact W.retFin1 rfl ⟨⟨nx+3+3,by omega,by omega,by simp,g6⟩,by omega,hG1⟩
end Go.Abs

/- The reference: the lags of all definitions. -/
open Go Go.Abs
namespace Go.Abs
set_option maxRecDepth 100000
set_option maxHeartbeats 4000000
instance fnis379:FnIs CC 79:=⟨rfl,fun _=>rfl⟩
theorem rep_at {α:Type} {A:List α} {x:α} {n:Nat} (h:A.length < n):(A++List.replicate (n-A.length) x)[A.length]? = some x:=by
 rw [List.getElem?_append_right (Nat.le_refl _),Nat.sub_self,List.getElem?_replicate,if_pos (by omega)]
theorem rep_set {α:Type} {A:List α} {x v:α} {n:Nat} (h:A.length < n):(A++List.replicate (n-A.length) x).set A.length v=(A++[v])++List.replicate (n-(A++[v]).length) x:=by
 rw [List.set_append_right _ _ (Nat.le_refl _),Nat.sub_self,List.length_append,List.append_assoc]
 congr 1
 rw [show n-A.length=(n-(A.length+[v].length))+1 by simp only [List.length_cons,List.length_nil];omega]
 rfl
theorem rndL_take {p:Pgm} {ring:Bool} {g:List Nat} {k d:Nat} (h:g[k]? = some d) (E:List (List Lg)):rndL p ring (g.take (k+1)) E=setL p ring (rndL p ring (g.take k) E) d:=by
 unfold rndL
 rw [List.take_add_one,h,List.foldl_append];rfl
noncomputable def lags3 (p:Pgm) (gs:List (List Nat)) (g i k:Nat):List (List Lg):=rndL p (ringB (tosR p) (gs.getD g [])) ((gs.getD g []).take k) (rndsL p (ringB (tosR p) (gs.getD g [])) (gs.getD g []) i (lagsTo p (gs.take g)))
theorem order_small {p:Pgm} (hp:progR p=true):(orderR (tosR p)).length<=6/\∀ g∈orderR (tosR p),g.length<=6/\(∀ d∈g,d < p.defs.length)/\GrpIs (tosR p) g:=by
 have hg:=progR_good hp
 have htl:(tosR p).length=p.defs.length:=hg.steps.2.1
 refine ⟨?_,fun g hg2=>?_⟩
 ·have:=order_len (tos:=tosR p) (tosR p).length (done:=[])
  have h6:=hg.defs
  unfold orderR;omega
 ·have h1:=order_grp hg2
  have h2:=nodup_lt h1.nodup h1.lt
  have h6:=hg.defs
  exact ⟨by omega,fun d hd=>by rw [<-htl];exact h1.lt d hd,h1⟩
theorem lags_so {p:Pgm} (hp:progR p=true) (g:Nat):SoFar p ((orderR (tosR p)).take g) (lagsTo p ((orderR (tosR p)).take g)):=by
 have h:=lagsTo_far (progR_small hp) ((orderR (tosR p)).take g) [] (fun x hx=>by
  have:=(order_small hp).2 x (List.mem_of_mem_take hx)
  exact ⟨this.1,this.2.1⟩) (SoFar.zero p)
 rw [List.nil_append] at h
 exact h
theorem lags3_wide {p:Pgm} (hp:progR p=true) (g i k:Nat):Wide p (lags3 p (orderR (tosR p)) g i k):=((lags_so hp g).wide.rnds _ _ i).rnd _
theorem lags3_in {p:Pgm} (hp:progR p=true) {g i k:Nat} (hg:g < (orderR (tosR p)).length) (hi:i<=7):InL 40000000 (lags3 p (orderR (tosR p)) g i k):=by
 obtain ⟨h1,h2⟩:=order_small hp
 have hgm:(orderR (tosR p)).getD g []∈orderR (tosR p):=by rw [List.getD_eq_getElem?_getD,List.getElem?_eq_getElem hg];exact List.getElem_mem hg
 have h3:=h2 _ hgm
 have h4:=(lags_so hp g).low
 have h5:=h4.rnds (progR_small hp) (ring:=ringB (tosR p) ((orderR (tosR p)).getD g [])) h3.1 (by omega) h3.2.1 i
 have h6:=h5.rnd (progR_small hp) (ring:=ringB (tosR p) ((orderR (tosR p)).getD g [])) (((orderR (tosR p)).getD g []).take k) (by omega) fun d hd=>h3.2.1 d (List.mem_of_mem_take hd)
 refine h6.mono ?_
 have h7:((orderR (tosR p)).take g).length<=6:=by rw [List.length_take];omega
 have h8:(((orderR (tosR p)).getD g []).take k).length<=6:=by rw [List.length_take];have:=h3.1;omega
 omega
theorem lags3_next {p:Pgm} {gs:List (List Nat)} {g i k d:Nat} (h:(gs.getD g [])[k]? = some d):lags3 p gs g i (k+1)=setL p (ringB (tosR p) (gs.getD g [])) (lags3 p gs g i k) d:=by
 unfold lags3;exact rndL_take h _
theorem lags3_round {p:Pgm} {gs:List (List Nat)} {g i:Nat}:lags3 p gs g i (gs.getD g []).length=lags3 p gs g (i+1) 0:=by
 unfold lags3;rw [List.take_length,List.take_zero];rfl
theorem lags3_group {p:Pgm} {gs:List (List Nat)} {g:Nat} (h:g < gs.length):lags3 p gs g (p.defs.length+1) 0=lagsTo p (gs.take (g+1)):=by
 unfold lags3
 have e:gs.getD g []=gs[g]:=by rw [List.getD_eq_getElem?_getD,List.getElem?_eq_getElem h];rfl
 rw [List.take_zero,List.take_add_one,List.getElem?_eq_getElem h,e]
 simp only [Option.toList]
 rw [lagsTo_append];rfl
theorem lags3_zero {p:Pgm} {gs:List (List Nat)} {g:Nat}:lags3 p gs g 0 0=lagsTo p (gs.take g):=by
 unfold lags3;rw [List.take_zero];rfl
end Go.Abs

/- Whether lags are the same. -/
open Go Go.Abs
namespace Go.Abs
set_option maxRecDepth 100000
set_option maxHeartbeats 4000000
instance fnis442:FnIs CC 142:=⟨rfl,fun _=>rfl⟩
instance fnis332:FnIs CC 32:=⟨rfl,fun _=>rfl⟩
instance fnis331:FnIs CC 31:=⟨rfl,fun _=>rfl⟩
def Lg.same (a b:Lg):Bool:=(a.on==b.on)&&((a.ever==b.ever)&&((decide (IntKind.i64=IntKind.i64)&&decide (a.back=b.back))&&((decide (IntKind.i64=IntKind.i64)&&decide (a.ahead=b.ahead))&&true)))
theorem Lg.same_iff {a b:Lg}:a.same b=true↔a=b:=by
 obtain ⟨o,e,x,y⟩:=a
 obtain ⟨o',e',x',y'⟩:=b
 unfold Lg.same
 simp only [Bool.and_eq_true,beq_iff_eq,decide_eq_true_eq,Lg.mk.injEq,and_true,true_and]
def fsOf (P:Program) (t:TypeId):Array Field:=match P.underlying t with
 |some (.struct fs)=>fs
 |_ => #[]
theorem keyI {P:Program} {t:TypeId} {d:Nat} {n:Int} (h:P.underlying t=some (.int .i64)) (hw:(Lit.int .i64 n).wf=true):P.keyLits (d+1) t [.int .i64 n]=some [.int .i64 n]:=by
 unfold Program.keyLits;rw [h];simp [hw]
theorem keyB {P:Program} {t:TypeId} {d:Nat} {b:Bool} (h:P.underlying t=some .bool):P.keyLits (d+1) t [.bool b]=some [.bool b]:=by
 unfold Program.keyLits;rw [h]
theorem Lg.In.wf {a:Lg} (h:a.In 4294967296):(Lit.int .i64 a.back).wf=true/\(Lit.int .i64 a.ahead).wf=true:=by
 have h1:=h.back;have h2:=h.ahead
 refine ⟨?_,?_⟩
 ·show (decide (IntKind.i64.min<=_)&&decide (_<=IntKind.i64.max))=true
  rw [Bool.and_eq_true,decide_eq_true_eq,decide_eq_true_eq,show IntKind.i64.min = -9223372036854775808 from rfl,show IntKind.i64.max=9223372036854775807 from rfl];omega
 ·show (decide (IntKind.i64.min<=_)&&decide (_<=IntKind.i64.max))=true
  rw [Bool.and_eq_true,decide_eq_true_eq,decide_eq_true_eq,show IntKind.i64.min = -9223372036854775808 from rfl,show IntKind.i64.max=9223372036854775807 from rfl];omega
theorem litsLag {t : TypeId} (h1 : CC.P.underlying t = some (.struct (fsOf CC.P t))) (h2 : (fsOf CC.P t).toList.map (fun f => (f.type, f.offset)) = [(4, 0), (4, 1), (3, 2), (3, 3)]) (h3 : (fsOf CC.P t).all (·.name != "_") = true) (h4 : CC.P.cellsOf t = 4) {a : Lg} (hw : a.In 4294967296) :
  litsOf CC.P t [.bool a.on, .bool a.ever, .int .i64 a.back, .int .i64 a.ahead]=some [.bool a.on, .bool a.ever, .int .i64 a.back, .int .i64 a.ahead]:=by
 have e3:CC.P.underlying 3=some (.int .i64):=by kernel_rfl
 have e4:CC.P.underlying 4=some .bool:=by kernel_rfl
 have c3:CC.P.cellsOf 3=1:=by kernel_rfl
 have c4:CC.P.cellsOf 4=1:=by kernel_rfl
 unfold litsOf
 simp only [vsOf,vOf]
 unfold Program.keyLits
 rw [h1]
 simp only [List.length_cons,List.length_nil,h4,h3,and_self,if_true]
 generalize (fsOf CC.P t).toList=fs at *
 obtain ⟨f1,r1,rfl,e1,h2⟩:=List.map_eq_cons_iff.1 h2
 obtain ⟨f2,r2,rfl,e2,h2⟩:=List.map_eq_cons_iff.1 h2
 obtain ⟨f5,r3,rfl,e5,h2⟩:=List.map_eq_cons_iff.1 h2
 obtain ⟨f6,r4,rfl,e6,h2⟩:=List.map_eq_cons_iff.1 h2
 obtain rfl:=List.map_eq_nil_iff.1 h2
 simp only [Prod.mk.injEq] at e1 e2 e5 e6
 simp [e1.1,e1.2,e2.1,e2.2,e5.1,e5.2,e6.1,e6.2,c3,c4,keyB e4,keyI e3 hw.wf.1,keyI e3 hw.wf.2]
theorem eqLag {t : TypeId} (h1 : CC.P.underlying t = some (.struct (fsOf CC.P t))) (h2 : (fsOf CC.P t).toList.map (fun f => (f.type, f.offset)) = [(4, 0), (4, 1), (3, 2), (3, 3)]) (h3 : (fsOf CC.P t).all (·.name != "_") = true) (h4 : CC.P.cellsOf t = 4) (h5 : CC.P.keyTypeAt 10 t = true) (h6 : CC.P.eqGuardType CC.P.depth t = false)
  {a b:Lg} (ha:a.In 4294967296) (hb:b.In 4294967296):eqSt CC.P t [.bool a.on, .bool a.ever, .int .i64 a.back, .int .i64 a.ahead] [.bool b.on, .bool b.ever, .int .i64 b.back, .int .i64 b.ahead]=some (a.same b):=by
 unfold eqSt
 rw [if_pos ⟨h5,h6⟩,litsLag h1 h2 h3 h4 ha,litsLag h1 h2 h3 h4 hb]
 rfl
theorem eqLag453 {a b:Lg} (ha:a.In 4294967296) (hb:b.In 4294967296):eqSt CC.P 153 [.bool a.on, .bool a.ever, .int .i64 a.back, .int .i64 a.ahead] [.bool b.on, .bool b.ever, .int .i64 b.back, .int .i64 b.ahead]=some (a.same b):=
 eqLag (by kernel_rfl) (by kernel_rfl) (by kernel_rfl) (by kernel_rfl) (by kernel_rfl) (by kernel_rfl) ha hb
theorem eqLag447 {a b:Lg} (ha:a.In 4294967296) (hb:b.In 4294967296):eqSt CC.P 147 [.bool a.on, .bool a.ever, .int .i64 a.back, .int .i64 a.ahead] [.bool b.on, .bool b.ever, .int .i64 b.back, .int .i64 b.ahead]=some (a.same b):=
 eqLag (by kernel_rfl) (by kernel_rfl) (by kernel_rfl) (by kernel_rfl) (by kernel_rfl) (by kernel_rfl) ha hb
section
variable {id:Nat} {l:Env} {G:Nat->Obj} {nx:Nat} {df:List (AV×List AV)} {pk:Pk} {x y:Operand} {t2:TypeId} {a b:Lg}
theorem O.lagNe (ha:a.In 4294967296) (hb:b.In 4294967296) (hx:lookO l x=some (.imm a.iv)) (hy:lookO l y=some (.imm b.iv)):OpV CC id l G nx df pk (.binOp .neq 153 x y t2) (.imm (.bool !(a.same b))) []:=
 O.of fun t L ht=>by
  simp only [opA,ht.ev hx,ht.ev hy,Lg.iv,binA,eqAV,(inferInstance:TyIs CC 153 ty453).is,ty453,eqLag453 ha hb,Option.map_some]
theorem O.lagNe' (ha:a.In 4294967296) (hb:b.In 4294967296) (hx:lookO l x=some (.imm a.iv)) (hy:lookO l y=some (.imm b.iv)):OpV CC id l G nx df pk (.binOp .neq 147 x y t2) (.imm (.bool !(a.same b))) []:=
 O.of fun t L ht=>by
  simp only [opA,ht.ev hx,ht.ev hy,Lg.iv,binA,eqAV,(inferInstance:TyIs CC 147 ty447).is,ty447,eqLag447 ha hb,Option.map_some]
end
end Go.Abs

/- Whether lists of lags are the same. -/
open Go Go.Abs
namespace Go.Abs
set_option maxRecDepth 100000
set_option maxHeartbeats 4000000
def lagsEq (a b:List Lg):Bool:=a.length==b.length&&(List.range a.length).all fun i=>(a.getD i Lg.z).same (b.getD i Lg.z)
theorem lagsEq_iff {a b:List Lg}:lagsEq a b=true↔a=b:=by
 unfold lagsEq
 rw [Bool.and_eq_true,beq_iff_eq,List.all_eq_true]
 constructor
 ·rintro ⟨h1,h2⟩
  rw [<-getD_range (L:=a) rfl,<-getD_range (L:=b) rfl,<-h1]
  exact List.map_congr_left fun i hi=>Lg.same_iff.1 (h2 i hi)
 ·rintro rfl
  exact ⟨rfl,fun i _=>Lg.same_iff.2 rfl⟩
theorem all_range_succ {f:Nat->Bool} {i:Nat}:(List.range (i+1)).all f=((List.range i).all f&&f i):=by rw [List.range_succ,List.all_append];simp
theorem all_range_end {f:Nat->Bool} {n i:Nat} (hi:i < n) (h:f i=false):(List.range n).all f=false:=by
 rw [Bool.eq_false_iff,ne_eq,List.all_eq_true]
 exact fun hc=>by rw [hc i (List.mem_range.2 hi)] at h;cases h
theorem lag_ivat {a:List Lg} {i:Nat} (h:i < a.length):(a.map Lg.iv)[(i:Int).toNat]? = some (a.getD i Lg.z).iv:=by
 rw [Int.toNat_natCast,List.getElem?_map,List.getD_eq_getElem?_getD,List.getElem?_eq_getElem h];rfl
theorem getD_in {K:Int} (hK:0<=K) {a:List Lg} (h:∀ x∈a,x.In K) (i:Nat):(a.getD i Lg.z).In K:=by
 rw [List.getD_eq_getElem?_getD]
 cases hs:a[i]? with
 |none=>exact Lg.inz hK
 |some x=>exact h x (List.mem_of_getElem? hs)
theorem ret442 {a b:List Lg} (ha:∀ x∈a,x.In 4294967296) (hb:∀ x∈b,x.In 4294967296) (hl:a.length<=1000):Ret CC 142 [lagsIV a,lagsIV b] (.bool (lagsEq a b)):=by
 have hal:(a.map Lg.iv).length=a.length:=List.length_map ..
 have hbl:(b.map Lg.iv).length=b.length:=List.length_map ..
 have hai:=getD_in (by omega) ha
 have hbi:=getD_in (by omega) hb
 refine Ret.of (fn:=Go.Proofs.Tryz.f142) (by kernel_rfl) rfl rfl ?_
 by_cases hne:a.length=b.length
 ·have hc:(((a.map Lg.iv).length:Int) != ((b.map Lg.iv).length:Int))=false:=by rw [hal,hbl,hne];simp
  have hq:lagsEq a b=(List.range a.length).all fun i=>(a.getD i Lg.z).same (b.getD i Lg.z):=by unfold lagsEq;rw [hne];simp
  refine BN ?_
  refine W.loop (X:=Nat) (fun i=>[(0, .imm (lagsIV a)),(1, .imm (lagsIV b)),(12, .imm (.int .i64 (a.map Lg.iv).length)),(13, .imm (.int .i64 i))])
   (fun i _ _=>i<=a.length/\((List.range i).all fun i=>(a.getD i Lg.z).same (b.getD i Lg.z))=true) (fun i=>a.length-i) 0 .auto ⟨Nat.zero_le _,rfl⟩ ?_
  rintro i nx G ⟨hi,hst⟩
  refine BN ?_
  refine W.cond rfl (fun h1=>?_) (fun h1=>?_)
  ·have hlt:i < a.length:=by have:=of_decide_eq_true h1;rw [hal] at this;omega
   have h2:=lag_ivat hlt
   have h3:=lag_ivat (a:=b) (i:=i) (by omega)
   have hmu:a.length-(i+1) < a.length-i:=by omega
   have hsu:=all_range_succ (f:=fun i=>(a.getD i Lg.z).same (b.getD i Lg.z)) (i:=i)
   rw [hst,Bool.true_and] at hsu
   have hend:=all_range_end (f:=fun i=>(a.getD i Lg.z).same (b.getD i Lg.z)) hlt
   refine BN ?_
   refine D.op0 (O.lagNe (hai i) (hbi i) rfl rfl) rfl rfl ?_
   cases hs:(a.getD i Lg.z).same (b.getD i Lg.z) with
   |true=>
    refine BN ?_
    exact W.skipLop (i+1) hmu .auto ⟨hlt,hsu.trans hs⟩
   |false=>
    refine BN ?_
    exact W.retFin1 rfl ⟨[],by rw [hq,hend hs];rfl⟩
  ·have hge:i=a.length:=by have:=of_decide_eq_false h1;rw [hal] at this;omega
   subst hge
   refine BN ?_
   exact W.retFin1 rfl ⟨[],by rw [hq,hst];rfl⟩
 ·have hc:(((a.map Lg.iv).length:Int) != ((b.map Lg.iv).length:Int))=true:=by rw [hal,hbl,bne_iff_ne];omega
  have hq:lagsEq a b=false:=by
   cases h:lagsEq a b with
   |false=>rfl
   |true=>rw [lagsEq_iff.1 h] at hne;exact absurd rfl hne
  refine BN ?_
  exact W.retFin1 rfl ⟨[],by rw [hq];rfl⟩
theorem ret332 {a b:List Lg} (ha:∀ x∈a,x.In 4294967296) (hb:∀ x∈b,x.In 4294967296) (hl:a.length<=1000):Ret CC 32 [lagsIV a,lagsIV b] (.bool (lagsEq a b)):=by
 have hal:(a.map Lg.iv).length=a.length:=List.length_map ..
 have hbl:(b.map Lg.iv).length=b.length:=List.length_map ..
 have hai:=getD_in (by omega) ha
 have hbi:=getD_in (by omega) hb
 refine Ret.of (fn:=Go.Proofs.Tryz.f32) (by kernel_rfl) rfl rfl ?_
 by_cases hne:a.length=b.length
 ·have hc:(((a.map Lg.iv).length:Int) != ((b.map Lg.iv).length:Int))=false:=by rw [hal,hbl,hne];simp
  have hq:lagsEq a b=(List.range a.length).all fun i=>(a.getD i Lg.z).same (b.getD i Lg.z):=by unfold lagsEq;rw [hne];simp
  refine BN ?_
  refine W.loop (X:=Nat) (fun i=>[(0, .imm (lagsIV a)),(1, .imm (lagsIV b)),(5, .imm (.int .i64 i))])
   (fun i _ _=>i<=a.length/\((List.range i).all fun i=>(a.getD i Lg.z).same (b.getD i Lg.z))=true) (fun i=>a.length-i) 0 .auto ⟨Nat.zero_le _,rfl⟩ ?_
  rintro i nx G ⟨hi,hst⟩
  refine BN ?_
  refine W.cond rfl (fun h1=>?_) (fun h1=>?_)
  ·have hlt:i < a.length:=by have:=of_decide_eq_true h1;rw [hal] at this;omega
   have h2:=lag_ivat hlt
   have h3:=lag_ivat (a:=b) (i:=i) (by omega)
   have hmu:a.length-(i+1) < a.length-i:=by omega
   have hsu:=all_range_succ (f:=fun i=>(a.getD i Lg.z).same (b.getD i Lg.z)) (i:=i)
   rw [hst,Bool.true_and] at hsu
   have hend:=all_range_end (f:=fun i=>(a.getD i Lg.z).same (b.getD i Lg.z)) hlt
   refine BN ?_
   refine D.op0 (O.lagNe' (hai i) (hbi i) rfl rfl) rfl rfl ?_
   cases hs:(a.getD i Lg.z).same (b.getD i Lg.z) with
   |true=>
    refine BN ?_
    exact W.skipLop (i+1) hmu .auto ⟨hlt,hsu.trans hs⟩
   |false=>
    refine BN ?_
    exact W.retFin1 rfl ⟨[],by rw [hq,hend hs];rfl⟩
  ·have hge:i=a.length:=by have:=of_decide_eq_false h1;rw [hal] at this;omega
   subst hge
   refine BN ?_
   exact W.retFin1 rfl ⟨[],by rw [hq,hst];rfl⟩
 ·have hc:(((a.map Lg.iv).length:Int) != ((b.map Lg.iv).length:Int))=true:=by rw [hal,hbl,bne_iff_ne];omega
  have hq:lagsEq a b=false:=by
   cases h:lagsEq a b with
   |false=>rfl
   |true=>rw [lagsEq_iff.1 h] at hne;exact absurd rfl hne
  refine BN ?_
  exact W.retFin1 rfl ⟨[],by rw [hq];rfl⟩
theorem rows_ivat {a:List (List Lg)} {i:Nat} (h:i < a.length):(a.map lagsIV)[(i:Int).toNat]? = some (lagsIV (a.getD i [])):=by
 rw [Int.toNat_natCast,List.getElem?_map,List.getD_eq_getElem?_getD,List.getElem?_eq_getElem h];rfl
def rowsEq (a b:List (List Lg)):Bool:=a.length==b.length&&(List.range a.length).all fun i=>lagsEq (a.getD i []) (b.getD i [])
theorem rowsEq_iff {a b:List (List Lg)}:rowsEq a b=true↔a=b:=by
 unfold rowsEq
 rw [Bool.and_eq_true,beq_iff_eq,List.all_eq_true]
 constructor
 ·rintro ⟨h1,h2⟩
  refine List.ext_getElem h1 fun i hi hi'=>?_
  have:=lagsEq_iff.1 (h2 i (List.mem_range.2 hi))
  simpa [List.getD_eq_getElem?_getD,hi,hi'] using this
 ·rintro rfl
  exact ⟨rfl,fun i _=>lagsEq_iff.2 rfl⟩
theorem rows_in {K:Int} {a:List (List Lg)} (h:InL K a) (i:Nat):∀ x∈a.getD i [],x.In K:=by
 rw [List.getD_eq_getElem?_getD]
 cases hs:a[i]? with
 |none=>exact fun x hx=>absurd hx List.not_mem_nil
 |some r=>exact h r (List.mem_of_getElem? hs)
theorem ret331 {a b:List (List Lg)} (ha:InL 4294967296 a) (hb:InL 4294967296 b) (hl:a.length<=1000) (hr:∀ i,(a.getD i []).length<=1000):Ret CC 31 [.lst (a.map lagsIV), .lst (b.map lagsIV)] (.bool (rowsEq a b)):=by
 have hal:(a.map lagsIV).length=a.length:=List.length_map ..
 have hbl:(b.map lagsIV).length=b.length:=List.length_map ..
 have h332:=fun i=>ret332 (rows_in ha i) (rows_in hb i) (hr i)
 refine Ret.of (fn:=Go.Proofs.Tryz.f31) (by kernel_rfl) rfl rfl ?_
 by_cases hne:a.length=b.length
 ·have hc:(((a.map lagsIV).length:Int) != ((b.map lagsIV).length:Int))=false:=by rw [hal,hbl,hne];simp
  have hq:rowsEq a b=(List.range a.length).all fun i=>lagsEq (a.getD i []) (b.getD i []):=by unfold rowsEq;rw [hne];simp
  refine BN ?_
  refine W.loop (X:=Nat) (fun i=>[(0, .imm (.lst (a.map lagsIV))),(1, .imm (.lst (b.map lagsIV))),(5, .imm (.int .i64 i))])
   (fun i _ _=>i<=a.length/\((List.range i).all fun i=>lagsEq (a.getD i []) (b.getD i []))=true) (fun i=>a.length-i) 0 .auto ⟨Nat.zero_le _,rfl⟩ ?_
  rintro i nx G ⟨hi,hst⟩
  refine BN ?_
  refine W.cond rfl (fun h1=>?_) (fun h1=>?_)
  ·have hlt:i < a.length:=by have:=of_decide_eq_true h1;rw [hal] at this;omega
   have h2:=rows_ivat hlt
   have h3:=rows_ivat (a:=b) (i:=i) (by omega)
   have hmu:a.length-(i+1) < a.length-i:=by omega
   have hsu:=all_range_succ (f:=fun i=>lagsEq (a.getD i []) (b.getD i [])) (i:=i)
   rw [hst,Bool.true_and] at hsu
   have hend:=all_range_end (f:=fun i=>lagsEq (a.getD i []) (b.getD i [])) hlt
   have h4:=h332 i
   cases hs:lagsEq (a.getD i []) (b.getD i []) with
   |true=>
    rw [hs] at h4
    refine BN ?_
    exact W.skipLop (i+1) hmu .auto ⟨hlt,hsu.trans hs⟩
   |false=>
    rw [hs] at h4
    refine BN ?_
    exact W.retFin1 rfl ⟨[],by rw [hq,hend hs];rfl⟩
  ·have hge:i=a.length:=by have:=of_decide_eq_false h1;rw [hal] at this;omega
   subst hge
   refine BN ?_
   exact W.retFin1 rfl ⟨[],by rw [hq,hst];rfl⟩
 ·have hc:(((a.map lagsIV).length:Int) != ((b.map lagsIV).length:Int))=true:=by rw [hal,hbl,bne_iff_ne];omega
  have hq:rowsEq a b=false:=by
   cases h:rowsEq a b with
   |false=>rfl
   |true=>rw [rowsEq_iff.1 h] at hne;exact absurd rfl hne
  refine BN ?_
  exact W.retFin1 rfl ⟨[],by rw [hq];rfl⟩
end Go.Abs

/- The program's rounds: when one changes nothing. -/
open Go Go.Abs
namespace Go.Abs
set_option maxRecDepth 100000
theorem rndL_row {p:Pgm} {ring:Bool} {d:Nat}:∀ {g:List Nat} {E:List (List Lg)},d∉g->(rndL p ring g E)[d]? = E[d]?
 |[],_,_=>rfl
 |x::g,E,h=>by
  rw [show rndL p ring (x::g) E=rndL p ring g (setL p ring E x) from rfl,rndL_row fun hc=>h (List.mem_cons_of_mem _ hc)]
  unfold setL
  exact List.getElem?_set_ne (by rintro rfl;exact h (List.mem_cons_self ..))
theorem still_step {p:Pgm} {ring:Bool} {g:List Nat} {k d:Nat} {E:List (List Lg)} (hn:g.Nodup) (hd:g[k]? = some d) (hl:d < (rndL p ring (g.take k) E).length) :
  rndL p ring (g.take (k+1)) E=E↔rndL p ring (g.take k) E=E/\rowL p ring (rndL p ring (g.take k) E) d=(rndL p ring (g.take k) E).getD d []:=by
 have hnd:d∉g.take k:=fun hc=>by
  obtain ⟨hk,rfl⟩:=List.getElem?_eq_some_iff.1 hd
  obtain ⟨j,hj,he⟩:=List.mem_iff_getElem.1 hc
  rw [List.length_take] at hj
  rw [List.getElem_take] at he
  have:=(List.getElem_inj hn).1 he
  omega
 have hrow:=rndL_row (p:=p) (ring:=ring) (E:=E) hnd
 rw [rndL_take hd]
 unfold setL
 generalize rowL p ring (rndL p ring (g.take k) E) d=l at *
 generalize rndL p ring (g.take k) E=F at *
 rw [List.getD_eq_getElem?_getD,List.getElem?_eq_getElem hl]
 constructor
 ·intro h
  have h1:(F.set d l)[d]? = some l:=by rw [List.getElem?_set_self hl]
  rw [h,<-hrow,List.getElem?_eq_getElem hl] at h1
  have h2:F[d]=l:=by simpa using h1
  refine ⟨?_,h2.symm⟩
  rw [<-h,<-h2,List.set_getElem_self]
 ·rintro ⟨rfl,h⟩
  simp only [Option.getD_some] at h
  rw [h,List.set_getElem_self]
theorem order_flat (tos:List (List Nat)):(orderR tos).flatten.Nodup:=by
 have:=order_apart (tos:=tos) tos.length DoneIs.nil
 rw [List.nil_append] at this
 exact this
theorem flat_take {gs:List (List Nat)} (h:gs.flatten.Nodup) {g:Nat} {r:List Nat} (hg:gs[g]? = some r) {d:Nat} (hd:d∈r):d∉(gs.take g).flatten:=fun hc=>by
 have hlt:=(List.getElem?_eq_some_iff.1 hg).1
 have e:gs=gs.take g++(r::gs.drop (g+1)):=by
  have:=List.getElem_cons_drop hlt
  rw [(List.getElem?_eq_some_iff.1 hg).2] at this
  rw [this,List.take_append_drop]
 rw [e,List.flatten_append,List.nodup_append] at h
 exact h.2.2 d hc d (by rw [List.flatten_cons];exact List.mem_append_left _ hd) rfl
theorem lags3_still {p:Pgm} (hp:progR p=true) {g r:Nat} (hg:g < (orderR (tosR p)).length) (h:lags3 p (orderR (tosR p)) g r ((orderR (tosR p)).getD g []).length=lags3 p (orderR (tosR p)) g r 0):lags3 p (orderR (tosR p)) g r 0=lagsTo p ((orderR (tosR p)).take (g+1)):=by
 have hgr:(orderR (tosR p))[g]? = some ((orderR (tosR p)).getD g []):=by rw [List.getD_eq_getElem?_getD,List.getElem?_eq_getElem hg];rfl
 have h1:=(order_small hp).2 _ (List.mem_of_getElem? hgr)
 have h2:=lags_so hp g
 have h3:=(progR_small hp).len
 rw [<-lags3_group hg]
 unfold lags3 at h ⊢
 rw [List.take_zero,List.take_length] at h
 rw [List.take_zero]
 exact grp_still hp h1.2.2 h2.wide (fun d hd=>h2.rest d (flat_take (order_flat _) hgr hd)) (by have:=nodup_lt h1.2.2.nodup h1.2.1;omega) h
theorem lags3_must {p:Pgm} (hp:progR p=true) {g r:Nat} (hg:g < (orderR (tosR p)).length) (hr:((orderR (tosR p)).getD g []).length<=r):lags3 p (orderR (tosR p)) g r ((orderR (tosR p)).getD g []).length=lags3 p (orderR (tosR p)) g r 0:=by
 have hgr:(orderR (tosR p))[g]? = some ((orderR (tosR p)).getD g []):=by rw [List.getD_eq_getElem?_getD,List.getElem?_eq_getElem hg];rfl
 have h1:=(order_small hp).2 _ (List.mem_of_getElem? hgr)
 have h2:=lags_so hp g
 unfold lags3
 rw [List.take_zero,List.take_length]
 exact grp_must hp h1.2.2 h2.wide (fun d hd=>h2.rest d (flat_take (order_flat _) hgr hd)) hr
end Go.Abs

/- What the kinds of expressions do with the lags of their Kids. -/
open Go Go.Abs
namespace Go.Abs
set_option maxRecDepth 100000
set_option maxHeartbeats 4000000
instance fnis476:FnIs CC 176:=⟨rfl,fun _=>rfl⟩
instance fnis477:FnIs CC 177:=⟨rfl,fun _=>rfl⟩
instance fnis478:FnIs CC 178:=⟨rfl,fun _=>rfl⟩
instance fnis479:FnIs CC 179:=⟨rfl,fun _=>rfl⟩
instance fnis480:FnIs CC 180:=⟨rfl,fun _=>rfl⟩
instance fnis481:FnIs CC 181:=⟨rfl,fun _=>rfl⟩
instance fnis482:FnIs CC 182:=⟨rfl,fun _=>rfl⟩
instance fnis391:FnIs CC 91:=⟨rfl,fun _=>rfl⟩
theorem Lg.thru0 {a:Lg} (h:a.Ok):a.thru false 0 0=a:=by
 have h1:=h.back
 obtain ⟨on,e,b,f⟩:=a
 unfold Lg.thru
 cases on
 ·rfl
 ·cases e
  ·simp
  ·simp only at h1;simp [h1]
theorem Lg.In.wide {a:Lg} (h:a.In 4294967295):a.In 4294967296:=⟨⟨by have:=h.back;omega,by have:=h.back;omega⟩,⟨by have:=h.ahead;omega,by have:=h.ahead;omega⟩⟩
section
variable {a:Lg} {n:Int} {i:Nat}
theorem ret476:Ret CC 176 [a.iv, .int .i64 n,natIV i] a.iv:=by
 obtain ⟨on,e,b,f⟩:=a
 refine Ret.of (fn:=Go.Proofs.Tryz.f176) (by kernel_rfl) rfl rfl ?_
 refine BB ?_
 exact W.retFinCA rfl rfl rfl rfl ⟨[],rfl⟩
theorem ret477 (hk:a.Ok) (h:a.In 4294967295) (hn : -50<=n/\n<=50):Ret CC 177 [a.iv, .int .i64 n,natIV i] (a.thru false n (-n)).iv:=by
 have h1:=ret451 (bk:=n) (ah := -n) hk h.wide (by omega) (by omega)
 generalize a.thru=A at *
 obtain ⟨on,e,b,f⟩:=a
 refine Ret.of (fn:=Go.Proofs.Tryz.f177) (by kernel_rfl) rfl rfl ?_
 refine BB ?_
 exact W.retFinCA rfl rfl rfl rfl ⟨[],rfl⟩
theorem ret478 (hk:a.Ok) (h:a.In 4294967295) (hn : -50<=n/\n<=50):Ret CC 178 [a.iv, .int .i64 n,natIV i] (a.thru false (n-1) 0).iv:=by
 have h1:=ret451 (bk:=n-1) (ah:=0) hk h.wide (by omega) (by omega)
 generalize a.thru=A at *
 obtain ⟨on,e,b,f⟩:=a
 refine Ret.of (fn:=Go.Proofs.Tryz.f178) (by kernel_rfl) rfl rfl ?_
 refine BB ?_
 exact W.retFinCA rfl rfl rfl rfl ⟨[],rfl⟩
theorem ret479 (hk:a.Ok) (h:a.In 4294967295) (hn : -50<=n/\n<=50):Ret CC 179 [a.iv, .int .i64 n,natIV i] (a.thru false n 0).iv:=by
 have h1:=ret451 (bk:=n) (ah:=0) hk h.wide (by omega) (by omega)
 generalize a.thru=A at *
 obtain ⟨on,e,b,f⟩:=a
 refine Ret.of (fn:=Go.Proofs.Tryz.f179) (by kernel_rfl) rfl rfl ?_
 refine BB ?_
 exact W.retFinCA rfl rfl rfl rfl ⟨[],rfl⟩
theorem ret480:Ret CC 180 [a.iv, .int .i64 n,natIV i] (a.thru true 0 0).iv:=by
 have h1:=ret441 (a:=a)
 generalize a.thru=A at *
 obtain ⟨on,e,b,f⟩:=a
 refine Ret.of (fn:=Go.Proofs.Tryz.f180) (by kernel_rfl) rfl rfl ?_
 refine BB ?_
 exact W.retFinCA rfl rfl rfl rfl ⟨[],rfl⟩
theorem ret481 (hk:a.Ok) (hi:i<=1):Ret CC 181 [a.iv, .int .i64 n,natIV i] (a.thru (i==1) 0 0).iv:=by
 have h1:=ret441 (a:=a)
 have h0:=Lg.thru0 hk
 have hi:i=0\/i=1:=by omega
 rcases hi with rfl|rfl
 ·rw [show (0==1)=false from rfl,h0]
  obtain ⟨on,e,b,f⟩:=a
  refine Ret.of (fn:=Go.Proofs.Tryz.f181) (by kernel_rfl) rfl rfl ?_
  refine BB ?_
  exact W.retFinCA rfl rfl rfl rfl ⟨[],rfl⟩
 ·rw [show (1==1)=true from rfl]
  clear h0
  generalize a.thru=A at *
  obtain ⟨on,e,b,f⟩:=a
  refine Ret.of (fn:=Go.Proofs.Tryz.f181) (by kernel_rfl) rfl rfl ?_
  refine BB ?_
  exact W.retFinCA rfl rfl rfl rfl ⟨[],rfl⟩
theorem ret482 (hk:a.Ok) (h:a.In 4294967295) (hn : -50<=n/\n<=50) (hi:i<=1):Ret CC 182 [a.iv, .int .i64 n,natIV i] (a.thru false (n*i) (n*i)).iv:=by
 have hi:i=0\/i=1:=by omega
 rcases hi with rfl|rfl
 all_goals
  have h1:=fun x=>ret451 (bk:=x) (ah:=x) hk h.wide
 ·have h1:=h1 (n*((0:Nat):Int)) (by omega) (by omega)
  generalize a.thru=A at *
  obtain ⟨on,e,b,f⟩:=a
  refine Ret.of (fn:=Go.Proofs.Tryz.f182) (by kernel_rfl) rfl rfl ?_
  refine BB ?_
  exact W.retFinCA rfl rfl rfl rfl ⟨[],rfl⟩
 ·have h1:=h1 (n*((1:Nat):Int)) (by omega) (by omega)
  generalize a.thru=A at *
  obtain ⟨on,e,b,f⟩:=a
  refine Ret.of (fn:=Go.Proofs.Tryz.f182) (by kernel_rfl) rfl rfl ?_
  refine BB ?_
  exact W.retFinCA rfl rfl rfl rfl ⟨[],rfl⟩
def wayF (op:Int):FuncId:=if op=7 then 177 else if op=8 then 178 else if op=9\/op=12 then 179 else if op=10\/op=11 then 180 else if op=13 then 181 else if op=14 then 182 else 176
theorem retWay {op:Int} (hk:a.Ok) (h:a.In 4294967295) (hn : -50<=n/\n<=50) (hi:i<=1):Ret CC (wayF op) [a.iv, .int .i64 n,natIV i] (kidL op n i a).iv:=by
 unfold wayF kidL
 repeat' split
 ·exact ret477 hk h hn
 ·exact ret478 hk h hn
 ·exact ret479 hk h hn
 ·exact ret480
 ·exact ret481 hk hi
 ·exact ret482 hk h hn hi
 ·exact ret476
instance fnisWay {op:Int}:FnIs CC (wayF op):=by
 unfold wayF
 repeat' split
 all_goals infer_instance
def mnI (a b:Int):Int:=if b < a then b else a
theorem mnI_eq (a b:Int):mnI a b=min a b:=by unfold mnI;split<;>omega
def needN (a:Lg) (t:Int):Int:=if a.on then mxI 0 (mnI (t+a.ahead) 200+1) else 0
theorem ret391 {t:Int} (h:a.In 4294967296) (ht:0<=t/\t<=201):Ret CC 91 [a.iv, .int .i64 t] (.int .i64 (needN a t)):=by
 have h2:=h.ahead
 obtain ⟨on,e,b,f⟩:=a
 simp only at h2
 rw [Lg.iv_mk]
 refine Ret.of (fn:=Go.Proofs.Tryz.f91) (by kernel_rfl) rfl rfl ?_
 cases on
 ·refine BB ?_
  exact W.retFin1 rfl ⟨[],rfl⟩
 ·have hm : -9223372036854775808<=mnI (t+f) 200+1/\mnI (t+f) 200+1<=9223372036854775807:=by rw [mnI_eq];omega
  unfold mnI at hm
  refine BB ?_
  exact W.retFin1 rfl ⟨[],rfl⟩
end
end Go.Abs

/- What is known of a program's lags: numbers of names, rows, ways. -/
open Go Go.Abs
namespace Go.Abs
set_option maxRecDepth 100000
set_option maxHeartbeats 4000000
def ty434:TyI:={ d:=TyD.mp 88 213,sz:=1,bytes:=8,zero:=AV.imm IV.nilmap }
instance tyis434:TyIs CC 134 ty434:=⟨by kernel_rfl⟩
def ty436:TyI:={ d:=TyD.st [(0,2),(2,1),(3,1),(4,1)],sz:=5,bytes:=88,zero:=AV.agg [AV.nils,AV.nils,AV.imm IV.nilmap,AV.nils,AV.imm IV.nilmap] }
instance tyis436:TyIs CC 136 ty436:=⟨by kernel_rfl⟩
def ty437:TyI:={ d:=TyD.ptr,sz:=1,bytes:=8,zero:=AV.imm IV.nilp }
instance tyis437:TyIs CC 137 ty437:=⟨by kernel_rfl⟩
def ty513:TyI:={ d:=TyD.fn,sz:=1,bytes:=8,zero:=AV.imm IV.nilfn }
instance tyis513:TyIs CC 213 ty513:=⟨by kernel_rfl⟩
instance fnis436:FnIs CC 136:=⟨rfl,fun _=>rfl⟩
/-! The ways. -/
def wayOps:List Int:=[4,5,6,15,7,8,9,12,10,11,13,14]
def wayKs:List IV:=wayOps.map (.int .i64)
def wayVs:List IV:=wayOps.map fun n => .fn (.func (wayF n)) []
theorem ret436:Ret CC 136 [] (.fmp wayKs wayVs):=Ret.reckon (n:=20) (by kernel_rfl)
theorem wayLook {op:Int} (h:4<=op/\op<=15):lookIs (some ty55) (some ty513) (some (wayKs,wayVs.map .imm)) (.int .i64 op) false (.imm (.fn (.func (wayF op)) [])):=by
 refine ⟨rfl, .inl ?_⟩
 rcases ops15 op with rfl|rfl|rfl|rfl|rfl|rfl|rfl|rfl|rfl|rfl|rfl|rfl|rfl|rfl|rfl|hno
 case inr.inr.inr.inr.inr.inr.inr.inr.inr.inr.inr.inr.inr.inr.inr=>omega
 all_goals first
  |omega
  |exact ⟨0,_,rfl,rfl,rfl⟩
  |exact ⟨1,_,rfl,rfl,rfl⟩
  |exact ⟨2,_,rfl,rfl,rfl⟩
  |exact ⟨3,_,rfl,rfl,rfl⟩
  |exact ⟨4,_,rfl,rfl,rfl⟩
  |exact ⟨5,_,rfl,rfl,rfl⟩
  |exact ⟨6,_,rfl,rfl,rfl⟩
  |exact ⟨7,_,rfl,rfl,rfl⟩
  |exact ⟨8,_,rfl,rfl,rfl⟩
  |exact ⟨9,_,rfl,rfl,rfl⟩
  |exact ⟨10,_,rfl,rfl,rfl⟩
  |exact ⟨11,_,rfl,rfl,rfl⟩
/-! The numbers of names. -/
def numKs (p:Pgm):List IV:=(p.srcs++p.defs.map Dfn.name).map sv
def numVs (p:Pgm):List IV:=(List.range p.srcs.length++List.range p.defs.length).map natIV
theorem numSrc {p:Pgm} {s:Str} (hs:s∈p.srcs):lookIs (some ty9) (some ty3) (some (numKs p,(numVs p).map .imm)) (sv s) false (.imm (natIV (idxN p.srcs s))):=by
 refine ⟨rfl, .inl ⟨idxN p.srcs s,_,?_,?_,rfl⟩⟩
 ·unfold numKs
  rw [keyFind_sv,List.findIdx?_append]
  have:=findIdx_contains s p.srcs
  have hc:p.srcs.contains s=true:=by simpa using hs
  rw [hc] at this
  obtain ⟨j,hj⟩:=Option.isSome_iff_exists.1 this
  unfold idxN
  rw [hj];rfl
 ·have:=idxN_lt hs
  unfold numVs
  rw [List.getElem?_map,List.getElem?_map,List.getElem?_append_left (by simpa using this),List.getElem?_range this]
  rfl
theorem numDef {p:Pgm} {s:Str} (hs:s∈p.defs.map Dfn.name) (hn:s∉p.srcs):lookIs (some ty9) (some ty3) (some (numKs p,(numVs p).map .imm)) (sv s) false (.imm (natIV (idxN (p.defs.map Dfn.name) s))):=by
 refine ⟨rfl, .inl ⟨p.srcs.length+idxN (p.defs.map Dfn.name) s,_,?_,?_,rfl⟩⟩
 ·unfold numKs
  rw [keyFind_sv,List.findIdx?_append]
  have h0:=findIdx_contains s p.srcs
  have hc:p.srcs.contains s=false:=by simpa using hn
  rw [hc] at h0
  have h1:=findIdx_contains s (p.defs.map Dfn.name)
  have hc:(p.defs.map Dfn.name).contains s=true:=List.contains_iff_mem.2 hs
  rw [hc] at h1
  obtain ⟨j,hj⟩:=Option.isSome_iff_exists.1 h1
  unfold idxN
  rw [hj,Option.isSome_eq_false_iff.1 h0 |> fun h=>(Option.isNone_iff_eq_none.1 h)]
  simp [Nat.add_comm]
 ·have:=idxN_lt hs
  rw [List.length_map] at this
  unfold numVs
  rw [List.getElem?_map,List.getElem?_map,List.getElem?_append_right (by simp),List.length_range,Nat.add_sub_cancel_left,List.getElem?_range this]
  rfl
def KnV (p:Pgm) (lo hi:Nat) (G:Nat->Obj) (kv:AV) (D:List (List Lg)):Prop:=
 kv = .imm (.fptr [.lst (p.srcs.map sv), .lst (p.defs.map Dfn.iv), .fmp (numKs p) (numVs p), .lst (D.map lagsIV), .fmp wayKs wayVs] 0) \/
 ∃ kq nq dq,(kq < hi/\nq < hi/\dq < hi)/\kv = .ptr kq 0/\G kq = .box [.imm (.lst (p.srcs.map sv)), .imm (.lst (p.defs.map Dfn.iv)), .map nq, .row dq D.length, .imm (.fmp wayKs wayVs)] false /\
  G nq = .mp (numKs p) ((numVs p).map .imm) false/\RowsL 153 132 dq lo hi G D
theorem KnV.frame {p:Pgm} {lo hi lo' hi':Nat} {G G':Nat->Obj} {kv:AV} {D:List (List Lg)} (h:KnV p lo hi G kv D) (h0:lo'<=lo) (hh:hi<=hi') (hG:∀ o,o < hi->G' o=G o):KnV p lo' hi' G' kv D:=by
 rcases h with h|⟨kq,nq,dq,⟨h1,h2,h3⟩,h4,h5,h6,h7⟩
 ·exact .inl h
 ·exact .inr ⟨kq,nq,dq,⟨by omega,by omega,by omega⟩,h4,by rw [hG kq h1];exact h5,by rw [hG nq h2];exact h6,h7.frame (hG dq h3) h0 hh fun o _ ho _=>hG o ho⟩
theorem cal450 {op n fold:Int} {name:Str} {calcs:List Trm} {kids:List Exp} {eb:Nat} {fr:Bool} {a:Lg} {i:Nat} {G:Nat->Obj} {nx:Nat} (hk:a.Ok) (ha:a.In 4294967295) (hn : -50<=n/\n<=50) (he:G eb = .box ((Exp.mk op name n fold calcs kids).iv.cells.map .imm) fr) (hlt:eb < nx) :
  Cal CC 150 [.imm (natIV i), .imm a.iv, .ptr eb 0] G nx fun v G' nx'=>v = .imm (a.thru false n (-n)).iv/\nx<=nx'/\∀ o,o < nx->G' o=G o:=by
 have h1:=ret451 (bk:=n) (ah := -n) hk ha.wide (by omega) (by omega)
 generalize a.thru=A at *
 obtain ⟨on,e,b,f⟩:=a
 rw [Lg.iv_mk] at *
 refine Cal.of (fn:=Go.Proofs.Tryz.f150) (by kernel_rfl) rfl rfl ?_
 refine BN ?_
 exact W.retFinCA rfl (upd_same ..) rfl rfl ⟨rfl,by omega,fun o ho=>at_upd⟩
theorem cal452 {p:Pgm} {E:List (List Lg)} {kv lv:AV} {L:List Lg} {op n fold:Int} {name:Str} {calcs:List Trm} {kids:List Exp} {kb eb lb ib lo hi hi2 i s:Nat} {fr:Bool} {a:Lg} {G:Nat->Obj} {nx:Nat} (hL:(L.getD s Lg.z).Ok) (hLi:(L.getD s Lg.z).In 4294967295) (hn : -50<=n/\n<=50) (hop:4<=op/\op<=15) (hi1:i<=1) (hs:s < L.length)
  (hk:KnV p lo hi G kv E) (hk1:G kb = .box [kv] false) (he:G eb = .box ((Exp.mk op name n fold calcs kids).iv.cells.map .imm) fr) (hl:RowV 153 0 hi2 G lv L) (hl1:G lb = .box [lv] false) (hib:G ib = .box [.imm (natIV i)] false) (hlt:kb < nx/\eb < nx/\lb < nx/\ib < nx/\hi<=nx/\hi2<=nx) :
  Cal CC 152 [.imm (natIV s), .imm a.iv, .ptr kb 0, .ptr eb 0, .ptr lb 0, .ptr ib 0] G nx fun v G' nx'=>v = .imm (a.both (kidL op n i (L.getD s Lg.z))).iv/\nx<=nx'/\∀ o,o < nx->G' o=G o:=by
 have hway:=retWay (op:=op) (i:=i) hL hLi hn hi1
 have hwl:=wayLook hop
 have h453:=ret453 (a:=a) (b:=kidL op n i (L.getD s Lg.z))
 refine Cal.of (fn:=Go.Proofs.Tryz.f152) (by kernel_rfl) rfl rfl ?_
 rcases hk with rfl|⟨kq,nq,dq,⟨h1,h2,h3⟩,rfl,h5,h6,h7⟩
 all_goals
  refine BN ?_
  refine D.lagAt (hl.frame (Nat.le_refl _) (Nat.le_refl _) fun o _ ho _=>at_upd) hs rfl ⟨rfl,rfl⟩ rfl rfl rfl rfl fun a2 rd1 rd2=>?_
  refine BB ?_
  exact W.retFinCA rfl (upd_same ..) rfl rfl ⟨rfl,by omega,fun o ho=>at_upd⟩
end Go.Abs

/- A list of what becomes of each element of another one. -/
open Go Go.Abs
namespace Go.Abs
set_option maxRecDepth 100000
set_option maxHeartbeats 4000000
theorem mapIdx_take {α β:Type} {g:Nat->α->β} {l:List α} {i:Nat} {x:α} (h:l[i]? = some x):(l.take (i+1)).mapIdx g=(l.take i).mapIdx g++[g i x]:=by
 have hlt:=(List.getElem?_eq_some_iff.1 h).1
 rw [List.take_add_one,h]
 simp only [Option.toList,List.mapIdx_concat,List.length_take,Nat.min_eq_left (Nat.le_of_lt hlt)]
section
variable {f:FuncId} {cap:List AV} {fv v:AV} {l:List Lg} {g:Nat->Lg->IV} {lo hi nx:Nat} {G:Nat->Obj}
theorem cal439 (hfn:fnOf fv=some (.func f,cap)) (hb:CC.byref f=true) (hg:∀ i x,(AV.imm (g i x)).fits 4=true) (hr:RowV 153 lo hi G v l) (hh:hi<=nx) (hl:l.length<=1000)
  (hf:∀ i x,l[i]? = some x->∀ G' nx',nx<=nx'->(∀ o,o < nx->G' o=G o)->Cal CC f ([.imm (natIV i), .imm x.iv]++cap) G' nx' fun v G2 nx2=>v = .imm (g i x)/\nx'<=nx2/\∀ o,o < nx'->G2 o=G' o) :
  Cal CC 139 [v,fv] G nx fun v' G' nx'=>Own 153 4 nx nx' (l.mapIdx g) G' v'/\nx<=nx'/\∀ o,o < nx->G' o=G o:=by
 have hlv:∀ G',(∀ o,o < nx->G' o=G o)->lenA G' (.sl 153) v=some l.length:=fun G' hG'=>by
  rcases hr with rfl|⟨q,fr,_,hq,rfl,hGq⟩
  ·show some _=_;rw [List.length_map,List.length_map]
  ·simp [lenA,elems,hG' q (by omega),hGq]
 refine Cal.of (fn:=Go.Proofs.Tryz.f139) (by kernel_rfl) rfl rfl ?_
 refine BN ?_
 refine R.op0 (O.len rfl (hlv G fun _ _=>rfl)) rfl ?_
 refine BN ?_
 refine W.loop (X:=Nat×AV) (fun s=>[(0,v),(1,fv),(5,s.2),(8,v),(9, .imm (.int .i64 l.length)),(10, .imm (.int .i64 s.1))])
  (fun s nx1 G1=>s.1<=l.length/\nx<=nx1/\Own 153 4 nx nx1 ((l.take s.1).mapIdx g) G1 s.2/\∀ o,o < nx->G1 o=G o) (fun s=>l.length-s.1) (0, .nils) .auto ⟨Nat.zero_le _,by omega, .inl ⟨rfl,rfl⟩,fun _ _=>rfl⟩ ?_
 rintro ⟨i,w⟩ nx1 G1 ⟨hi1,hnx,ho,hG1⟩
 dsimp only at hi1 ho ⊢
 have hr1:=hr.frame (Nat.le_refl _) (Nat.le_refl _) fun o _ ho _=>hG1 o (Nat.lt_of_lt_of_le ho hh)
 refine BN ?_
 refine W.cond rfl (fun h1=>?_) (fun h1=>?_)
 ·have hlt:i < l.length:=by have:=of_decide_eq_true h1;omega
  have hx:=List.getElem?_eq_getElem hlt
  have hgd:l.getD i Lg.z=l[i]:=by rw [List.getD_eq_getElem?_getD,hx];rfl
  have hmu:l.length-(i+1) < l.length-i:=by omega
  have htk:=mapIdx_take (g:=g) hx
  have hc:=hf i _ hx
  have hgf:=hg i l[i]
  have htl:((l.take i).mapIdx g).length<=1000:=by rw [List.length_mapIdx,List.length_take];omega
  refine BN ?_
  refine R.lagAt hr1 hlt rfl ⟨rfl,rfl⟩ rfl rfl rfl rfl fun a=>?_
  rw [hgd]
  refine BN ?_
  refine R.callB rfl hfn hb rfl rfl ((hc _ _ (by omega) fun o ho=>Eq.trans at_upd (hG1 o ho)).mono fun v2 G2 nx2 hv=>?_)
  obtain ⟨rfl,hn2,hG2⟩:=hv
  refine BN ?_
  refine R.op1 (O.buildX (xs:=[.imm (g i l[i])]) rfl inferInstance rfl rfl (by decide) rfl (by show ([AV.imm (g i l[i])].all (AV.fits 4))=true;simp [hgf]) (by decide)) rfl ?_
  refine R.app1 ho at_upd (by simp only [most];omega) (fun v' G' ho' hG'=>?_) (hG:=fun o h1 h2=>Eq.trans (upd_ne _ _ _ _ (by omega)) (Eq.trans (hG2 o (by omega)) at_upd))
  refine BN ?_
  refine W.skipLop (i+1,v') hmu .auto ⟨hlt,by omega,?_,fun o ho=>?_⟩
  ·show Own _ _ _ _ ((l.take (i+1)).mapIdx g) _ _
   rw [htk]
   exact ho'.up (by omega)
  ·rw [hG' o ho]
   exact Eq.trans (upd_ne _ _ _ _ (by omega)) (Eq.trans (hG2 o (by omega)) (Eq.trans at_upd (hG1 o ho)))
 ·have hge:l.length<=i:=by have:=of_decide_eq_false h1;omega
  rw [List.take_of_length_le hge] at ho
  refine BN ?_
  exact W.retFin1 rfl ⟨ho.up (by omega),by omega,hG1⟩
theorem cal443 (hfn:fnOf fv=some (.func f,cap)) (hb:CC.byref f=true) (hg:∀ i x,(AV.imm (g i x)).fits 4=true) (hr:RowV 153 lo hi G v l) (hh:hi<=nx) (hl:l.length<=1000)
  (hf:∀ i x,l[i]? = some x->∀ G' nx',nx<=nx'->(∀ o,o < nx->G' o=G o)->Cal CC f ([.imm (natIV i), .imm x.iv]++cap) G' nx' fun v G2 nx2=>v = .imm (g i x)/\nx'<=nx2/\∀ o,o < nx'->G2 o=G' o) :
  Cal CC 143 [v,fv] G nx fun v' G' nx'=>Own 147 4 nx nx' (l.mapIdx g) G' v'/\nx<=nx'/\∀ o,o < nx->G' o=G o:=by
 have hlv:∀ G',(∀ o,o < nx->G' o=G o)->lenA G' (.sl 153) v=some l.length:=fun G' hG'=>by
  rcases hr with rfl|⟨q,fr,_,hq,rfl,hGq⟩
  ·show some _=_;rw [List.length_map,List.length_map]
  ·simp [lenA,elems,hG' q (by omega),hGq]
 refine Cal.of (fn:=Go.Proofs.Tryz.f143) (by kernel_rfl) rfl rfl ?_
 refine BN ?_
 refine R.op0 (O.len rfl (hlv G fun _ _=>rfl)) rfl ?_
 refine BN ?_
 refine W.loop (X:=Nat×AV) (fun s=>[(0,v),(1,fv),(5,s.2),(8,v),(9, .imm (.int .i64 l.length)),(10, .imm (.int .i64 s.1))])
  (fun s nx1 G1=>s.1<=l.length/\nx<=nx1/\Own 147 4 nx nx1 ((l.take s.1).mapIdx g) G1 s.2/\∀ o,o < nx->G1 o=G o) (fun s=>l.length-s.1) (0, .nils) .auto ⟨Nat.zero_le _,by omega, .inl ⟨rfl,rfl⟩,fun _ _=>rfl⟩ ?_
 rintro ⟨i,w⟩ nx1 G1 ⟨hi1,hnx,ho,hG1⟩
 dsimp only at hi1 ho ⊢
 have hr1:=hr.frame (Nat.le_refl _) (Nat.le_refl _) fun o _ ho _=>hG1 o (Nat.lt_of_lt_of_le ho hh)
 refine BN ?_
 refine W.cond rfl (fun h1=>?_) (fun h1=>?_)
 ·have hlt:i < l.length:=by have:=of_decide_eq_true h1;omega
  have hx:=List.getElem?_eq_getElem hlt
  have hgd:l.getD i Lg.z=l[i]:=by rw [List.getD_eq_getElem?_getD,hx];rfl
  have hmu:l.length-(i+1) < l.length-i:=by omega
  have htk:=mapIdx_take (g:=g) hx
  have hc:=hf i _ hx
  have hgf:=hg i l[i]
  have htl:((l.take i).mapIdx g).length<=1000:=by rw [List.length_mapIdx,List.length_take];omega
  refine BN ?_
  refine R.lagAt hr1 hlt rfl ⟨rfl,rfl⟩ rfl rfl rfl rfl fun a=>?_
  rw [hgd]
  refine BN ?_
  refine R.callB rfl hfn hb rfl rfl ((hc _ _ (by omega) fun o ho=>Eq.trans at_upd (hG1 o ho)).mono fun v2 G2 nx2 hv=>?_)
  obtain ⟨rfl,hn2,hG2⟩:=hv
  refine BN ?_
  refine R.op1 (O.buildX (xs:=[.imm (g i l[i])]) rfl inferInstance rfl rfl (by decide) rfl (by show ([AV.imm (g i l[i])].all (AV.fits 4))=true;simp [hgf]) (by decide)) rfl ?_
  refine R.app1 ho at_upd (by simp only [most];omega) (fun v' G' ho' hG'=>?_) (hG:=fun o h1 h2=>Eq.trans (upd_ne _ _ _ _ (by omega)) (Eq.trans (hG2 o (by omega)) at_upd))
  refine BN ?_
  refine W.skipLop (i+1,v') hmu .auto ⟨hlt,by omega,?_,fun o ho=>?_⟩
  ·show Own _ _ _ _ ((l.take (i+1)).mapIdx g) _ _
   rw [htk]
   exact ho'.up (by omega)
  ·rw [hG' o ho]
   exact Eq.trans (upd_ne _ _ _ _ (by omega)) (Eq.trans (hG2 o (by omega)) (Eq.trans at_upd (hG1 o ho)))
 ·have hge:l.length<=i:=by have:=of_decide_eq_false h1;omega
  rw [List.take_of_length_le hge] at ho
  refine BN ?_
  exact W.retFin1 rfl ⟨ho.up (by omega),by omega,hG1⟩
theorem cal389 (hfn:fnOf fv=some (.func f,cap)) (hb:CC.byref f=true) (hg:∀ i x,(AV.imm (g i x)).fits 1=true) (hr:RowV 153 lo hi G v l) (hh:hi<=nx) (hl:l.length<=1000)
  (hf:∀ i x,l[i]? = some x->∀ G' nx',nx<=nx'->(∀ o,o < nx->G' o=G o)->Cal CC f ([.imm (natIV i), .imm x.iv]++cap) G' nx' fun v G2 nx2=>v = .imm (g i x)/\nx'<=nx2/\∀ o,o < nx'->G2 o=G' o) :
  Cal CC 89 [v,fv] G nx fun v' G' nx'=>Own 4 1 nx nx' (l.mapIdx g) G' v'/\nx<=nx'/\∀ o,o < nx->G' o=G o:=by
 have hlv:∀ G',(∀ o,o < nx->G' o=G o)->lenA G' (.sl 153) v=some l.length:=fun G' hG'=>by
  rcases hr with rfl|⟨q,fr,_,hq,rfl,hGq⟩
  ·show some _=_;rw [List.length_map,List.length_map]
  ·simp [lenA,elems,hG' q (by omega),hGq]
 refine Cal.of (fn:=Go.Proofs.Tryz.f89) (by kernel_rfl) rfl rfl ?_
 refine BN ?_
 refine R.op0 (O.len rfl (hlv G fun _ _=>rfl)) rfl ?_
 refine BN ?_
 refine W.loop (X:=Nat×AV) (fun s=>[(0,v),(1,fv),(5,s.2),(8,v),(9, .imm (.int .i64 l.length)),(10, .imm (.int .i64 s.1))])
  (fun s nx1 G1=>s.1<=l.length/\nx<=nx1/\Own 4 1 nx nx1 ((l.take s.1).mapIdx g) G1 s.2/\∀ o,o < nx->G1 o=G o) (fun s=>l.length-s.1) (0, .nils) .auto ⟨Nat.zero_le _,by omega, .inl ⟨rfl,rfl⟩,fun _ _=>rfl⟩ ?_
 rintro ⟨i,w⟩ nx1 G1 ⟨hi1,hnx,ho,hG1⟩
 dsimp only at hi1 ho ⊢
 have hr1:=hr.frame (Nat.le_refl _) (Nat.le_refl _) fun o _ ho _=>hG1 o (Nat.lt_of_lt_of_le ho hh)
 refine BN ?_
 refine W.cond rfl (fun h1=>?_) (fun h1=>?_)
 ·have hlt:i < l.length:=by have:=of_decide_eq_true h1;omega
  have hx:=List.getElem?_eq_getElem hlt
  have hgd:l.getD i Lg.z=l[i]:=by rw [List.getD_eq_getElem?_getD,hx];rfl
  have hmu:l.length-(i+1) < l.length-i:=by omega
  have htk:=mapIdx_take (g:=g) hx
  have hc:=hf i _ hx
  have hgf:=hg i l[i]
  have htl:((l.take i).mapIdx g).length<=1000:=by rw [List.length_mapIdx,List.length_take];omega
  refine BN ?_
  refine R.lagAt hr1 hlt rfl ⟨rfl,rfl⟩ rfl rfl rfl rfl fun a=>?_
  rw [hgd]
  refine BN ?_
  refine R.callB rfl hfn hb rfl rfl ((hc _ _ (by omega) fun o ho=>Eq.trans at_upd (hG1 o ho)).mono fun v2 G2 nx2 hv=>?_)
  obtain ⟨rfl,hn2,hG2⟩:=hv
  refine BN ?_
  refine R.op1 (O.buildX (xs:=[.imm (g i l[i])]) rfl inferInstance rfl rfl (by decide) rfl (by show ([AV.imm (g i l[i])].all (AV.fits 1))=true;simp [hgf]) (by decide)) rfl ?_
  refine R.app1 ho at_upd (by simp only [most];omega) (fun v' G' ho' hG'=>?_) (hG:=fun o h1 h2=>Eq.trans (upd_ne _ _ _ _ (by omega)) (Eq.trans (hG2 o (by omega)) at_upd))
  refine BN ?_
  refine W.skipLop (i+1,v') hmu .auto ⟨hlt,by omega,?_,fun o ho=>?_⟩
  ·show Own _ _ _ _ ((l.take (i+1)).mapIdx g) _ _
   rw [htk]
   exact ho'.up (by omega)
  ·rw [hG' o ho]
   exact Eq.trans (upd_ne _ _ _ _ (by omega)) (Eq.trans (hG2 o (by omega)) (Eq.trans at_upd (hG1 o ho)))
 ·have hge:l.length<=i:=by have:=of_decide_eq_false h1;omega
  rw [List.take_of_length_le hge] at ho
  refine BN ?_
  exact W.retFin1 rfl ⟨ho.up (by omega),by omega,hG1⟩
theorem cal393 (hfn:fnOf fv=some (.func f,cap)) (hb:CC.byref f=true) (hg:∀ i x,(AV.imm (g i x)).fits 1=true) (hr:RowV 153 lo hi G v l) (hh:hi<=nx) (hl:l.length<=1000)
  (hf:∀ i x,l[i]? = some x->∀ G' nx',nx<=nx'->(∀ o,o < nx->G' o=G o)->Cal CC f ([.imm (natIV i), .imm x.iv]++cap) G' nx' fun v G2 nx2=>v = .imm (g i x)/\nx'<=nx2/\∀ o,o < nx'->G2 o=G' o) :
  Cal CC 93 [v,fv] G nx fun v' G' nx'=>Own 3 1 nx nx' (l.mapIdx g) G' v'/\nx<=nx'/\∀ o,o < nx->G' o=G o:=by
 have hlv:∀ G',(∀ o,o < nx->G' o=G o)->lenA G' (.sl 153) v=some l.length:=fun G' hG'=>by
  rcases hr with rfl|⟨q,fr,_,hq,rfl,hGq⟩
  ·show some _=_;rw [List.length_map,List.length_map]
  ·simp [lenA,elems,hG' q (by omega),hGq]
 refine Cal.of (fn:=Go.Proofs.Tryz.f93) (by kernel_rfl) rfl rfl ?_
 refine BN ?_
 refine R.op0 (O.len rfl (hlv G fun _ _=>rfl)) rfl ?_
 refine BN ?_
 refine W.loop (X:=Nat×AV) (fun s=>[(0,v),(1,fv),(5,s.2),(8,v),(9, .imm (.int .i64 l.length)),(10, .imm (.int .i64 s.1))])
  (fun s nx1 G1=>s.1<=l.length/\nx<=nx1/\Own 3 1 nx nx1 ((l.take s.1).mapIdx g) G1 s.2/\∀ o,o < nx->G1 o=G o) (fun s=>l.length-s.1) (0, .nils) .auto ⟨Nat.zero_le _,by omega, .inl ⟨rfl,rfl⟩,fun _ _=>rfl⟩ ?_
 rintro ⟨i,w⟩ nx1 G1 ⟨hi1,hnx,ho,hG1⟩
 dsimp only at hi1 ho ⊢
 have hr1:=hr.frame (Nat.le_refl _) (Nat.le_refl _) fun o _ ho _=>hG1 o (Nat.lt_of_lt_of_le ho hh)
 refine BN ?_
 refine W.cond rfl (fun h1=>?_) (fun h1=>?_)
 ·have hlt:i < l.length:=by have:=of_decide_eq_true h1;omega
  have hx:=List.getElem?_eq_getElem hlt
  have hgd:l.getD i Lg.z=l[i]:=by rw [List.getD_eq_getElem?_getD,hx];rfl
  have hmu:l.length-(i+1) < l.length-i:=by omega
  have htk:=mapIdx_take (g:=g) hx
  have hc:=hf i _ hx
  have hgf:=hg i l[i]
  have htl:((l.take i).mapIdx g).length<=1000:=by rw [List.length_mapIdx,List.length_take];omega
  refine BN ?_
  refine R.lagAt hr1 hlt rfl ⟨rfl,rfl⟩ rfl rfl rfl rfl fun a=>?_
  rw [hgd]
  refine BN ?_
  refine R.callB rfl hfn hb rfl rfl ((hc _ _ (by omega) fun o ho=>Eq.trans at_upd (hG1 o ho)).mono fun v2 G2 nx2 hv=>?_)
  obtain ⟨rfl,hn2,hG2⟩:=hv
  refine BN ?_
  refine R.op1 (O.buildX (xs:=[.imm (g i l[i])]) rfl inferInstance rfl rfl (by decide) rfl (by show ([AV.imm (g i l[i])].all (AV.fits 1))=true;simp [hgf]) (by decide)) rfl ?_
  refine R.app1 ho at_upd (by simp only [most];omega) (fun v' G' ho' hG'=>?_) (hG:=fun o h1 h2=>Eq.trans (upd_ne _ _ _ _ (by omega)) (Eq.trans (hG2 o (by omega)) at_upd))
  refine BN ?_
  refine W.skipLop (i+1,v') hmu .auto ⟨hlt,by omega,?_,fun o ho=>?_⟩
  ·show Own _ _ _ _ ((l.take (i+1)).mapIdx g) _ _
   rw [htk]
   exact ho'.up (by omega)
  ·rw [hG' o ho]
   exact Eq.trans (upd_ne _ _ _ _ (by omega)) (Eq.trans (hG2 o (by omega)) (Eq.trans at_upd (hG1 o ho)))
 ·have hge:l.length<=i:=by have:=of_decide_eq_false h1;omega
  rw [List.take_of_length_le hge] at ho
  refine BN ?_
  exact W.retFin1 rfl ⟨ho.up (by omega),by omega,hG1⟩
end
end Go.Abs

/- The program: how an expression depends on each source. -/
open Go Go.Abs
namespace Go.Abs
set_option maxRecDepth 100000
set_option maxHeartbeats 4000000
theorem kvMap {G:Nat->Obj} {q:Nat} {ks:List IV} {vs:List AV} {fr:Bool} (h:G q = .mp ks vs fr):mapKV G (.map q)=some (ks,vs):=by simp only [mapKV,h]
theorem getD_map {L:List Lg} {n:Nat} (hl:L.length=n) (f:Lg->Lg):(List.range n).map (fun s=>f (L.getD s Lg.z))=L.map f:=by
 refine List.ext_getElem? fun s=>?_
 simp only [List.getElem?_map]
 by_cases hs:s < n
 ·rw [List.getElem?_range hs,List.getElem?_eq_getElem (by omega)]
  simp [List.getD_eq_getElem?_getD,List.getElem?_eq_getElem (show s < L.length by omega)]
 ·rw [List.getElem?_eq_none (by simp;omega),List.getElem?_eq_none (by omega)];rfl
theorem mapIdx_map {L:List Lg} (f:Lg->Lg):L.mapIdx (fun _ x=>(f x).iv)=(L.map f).map Lg.iv:=by
 refine List.ext_getElem? fun s=>?_
 simp [List.getElem?_mapIdx,Function.comp_def]
theorem cal382 {p:Pgm} (hp:p.Fits) (hpr:progR p=true) {E:List (List Lg)} {K:Int} (hK:0<=K/\K<=4000000000) (hW:Wide p E) (hI:InL K E):∀ (m:Nat) (e:Exp),(allE e).length<=m->m<=1000->(∀ x∈allE e,NodeP p x) ->
  ∀ {G:Nat->Obj} {nx lo hi:Nat} {kv:AV},KnV p lo hi G kv E->hi<=nx ->
  Cal CC 82 [kv, .imm e.iv] G nx fun v G' nx'=>RowL 153 nx nx' G' v (allL p E e)/\nx<=nx'/\∀ q,q < nx->G' q=G q
 |0, .mk op name n fold calcs kids,h,_,_,_,_,_,_,_,_,_=>by rw [allE] at h;simp at h
 |m+1, .mk op name n fold calcs kids,h,hm,hN,G,nx,lo,hi,kv,hR,hh=>by
  have hb:=hN (.mk op name n fold calcs kids) (by rw [allE];exact List.mem_cons_self ..)
  have hn50 : -50<=n/\n<=50:=hb.b.n
  have hsm:=progR_small hpr
  have h6:=hsm.len
  have h4:=hsm.srcs
  have hpt:=progR_parts hpr
  have hsp:1<=p.srcs.length:=hpt.2.1.1
  have hnd:(p.srcs++p.defs.map Dfn.name).Nodup:=hpt.1
  have hDl:=hW.len
  have hm':m<=1000:=by omega
  have ih:=fun e h1 h2 G nx lo hi kv=>@cal382 p hp hpr E K hK hW hI m e h1 hm' h2 G nx lo hi kv
  unfold allL at *
  have hsm2':((List.map sv p.srcs).length:Int)=(p.srcs.length:Int):=by rw [List.length_map]
  rcases Classical.em (op=1) with rfl|h1
  ·have hs:=hb.src rfl
   have hs:name∈p.srcs:=hs
   have hlt:=idxN_lt hs
   have bA:((1:Int)==1)=true:=rfl
   refine Cal.of (fn:=Go.Proofs.Tryz.f82) (by kernel_rfl) rfl rfl ?_
   rcases hR with rfl|⟨kq,nq,dq,⟨k1,k2,k3⟩,rfl,k5,k6,k7⟩
   all_goals
    refine BN ?_
    refine R.op1 (O.makeL (n:=p.srcs.length) (fun _=>Lg.z) rfl inferInstance ⟨rfl,rfl,by decide⟩ rfl rfl hsm2' (by omega)) rfl ?_
    refine BN ?_
    refine D.op0 (O.lookA (kv:=some (numKs p,(numVs p).map .imm)) rfl inferInstance inferInstance rfl rfl (by first|exact rfl|exact kvMap at_upd) (numSrc hs)) rfl rfl ?_
    refine D.op0 (O.addrRX rfl inferInstance rfl rfl at_upd mixL_ivlen (by omega) rfl) rfl rfl ?_
    refine BN ?_
    refine D.opN1 (O.storeRS (by decide) rfl rfl rfl at_upd mixL_ivlen (mixL_ivat0 hlt) rfl rfl) rfl ?_
    refine BB ?_
    refine W.retFin1 rfl ⟨⟨nx+3+6,false,by omega,by omega,by simp,?_⟩,by omega,fun q hq=>at_upd⟩
    have hx:∀ s,expG p.srcs (p.defs.map Dfn.name) (colD E s) s (.mk 1 name n fold calcs kids)=if idxN p.srcs name=s then ⟨true,false,0,0⟩ else Lg.z:=fun s=>by rw [expG,if_pos rfl]
    simp only [hx]
    rw [upd_same,Int.toNat_natCast]
    exact congrArg (fun x=>Obj.row 153 4 x false) (mixL_one (f:=fun _=>Lg.z) (a:=⟨true,false,0,0⟩) hlt)
  ·have bA:(op==1)=false:=by simpa using h1
   rcases Classical.em (op=2\/op=3) with h23|h23
   ·have hs:=(hb.ref h23).2
    have hs:name∈p.defs.map Dfn.name:=hs
    have hns:name∉p.srcs:=fun hc=>(List.nodup_append.1 hnd).2.2 name hc name hs rfl
    have hnum:=fun (_:True)=>numDef hs hns
    have hlt:=idxN_lt hs
    rw [List.length_map] at hlt
    have hx:∀ s,expG p.srcs (p.defs.map Dfn.name) (colD E s) s (.mk op name n fold calcs kids)=(colD E s (idxN (p.defs.map Dfn.name) name)).thru false n (-n):=fun s=>by rw [expG,if_neg h1,if_pos h23]
    simp only [hx]
    generalize idxN (p.defs.map Dfn.name) name=j at *
    obtain ⟨L,hL⟩:∃ L,E[j]? = some L:=at_lt (by omega)
    have hcol:∀ s,colD E s j=L.getD s Lg.z:=fun s=>(colD_at hL s).symm
    simp only [hcol]
    have hLl:L.length=p.srcs.length:=hW.row L (List.mem_of_getElem? hL)
    rw [getD_map hLl fun a=>a.thru false n (-n)]
    have hLm:=List.mem_of_getElem? hL
    have hLk:∀ a∈L,a.Ok:=fun a ha=>hW.ok L hLm a ha
    have hLi:∀ a∈L,a.In 4294967295:=fun a ha=>(hI L hLm a ha).mono (by omega)
    have hne:L.map (fun a=>a.thru false n (-n))≠[]:=fun hc=>by rw [List.map_eq_nil_iff.1 hc,List.length_nil] at hLl;omega
    have b23:(op==2)=true\/((op==2)=false/\(op==3)=true):=by rcases h23 with rfl|rfl<;>simp
    refine Cal.of (fn:=Go.Proofs.Tryz.f82) (by kernel_rfl) rfl rfl ?_
    rcases hR with rfl|⟨kq,nq,dq,⟨k1,k2,k3⟩,rfl,k5,k6,k7⟩<;>rcases b23 with b2|⟨b2,b3⟩
    all_goals
     refine BN ?_
     refine R.op1 (O.makeL (n:=p.srcs.length) (fun _=>Lg.z) rfl inferInstance ⟨rfl,rfl,by decide⟩ rfl rfl hsm2' (by omega)) rfl ?_
     refine BN ?_
     refine D.op0 (O.lookA (kv:=some (numKs p,(numVs p).map .imm)) rfl inferInstance inferInstance rfl rfl (by first|exact rfl|exact kvMap at_upd) (hnum trivial)) rfl rfl ?_
     refine D.rowAt (E:=E) (lo:=lo) (hi:=hi) (et:=153) (by first|exact .inl rfl|exact .inr ⟨dq,k3,rfl,k7.frame at_upd (Nat.le_refl _) (Nat.le_refl _) fun o _ ho _=>at_upd⟩) hL rfl ⟨rfl,rfl⟩ rfl rfl rfl rfl fun a w rd1 rd2 hw=>?_
     refine BN ?_
     refine D.callB rfl rfl rfl rfl rfl (by kernel_rfl) ((cal439 (g:=fun _ x=>(x.thru false n (-n)).iv) rfl rfl (fun _ _=>rfl) hw (by omega) (by omega) fun i x hx G' nx' h5 h6=>cal450 (hLk x (List.mem_of_getElem? hx)) (hLi x (List.mem_of_getElem? hx)) hn50 ((h6 _ (by omega)).trans at_upd) (by omega)).mono fun v G2 nx2 hv=>?_)
     obtain ⟨ho,hn2,hG2⟩:=hv
     rw [mapIdx_map fun a=>a.thru false n (-n)] at ho
     refine BN ?_
     exact W.retFin1 rfl ⟨(ho.rowL hne).frame (by omega) (by omega) fun _ _ _ _=>rfl,by omega,fun q hq=>(hG2 q (by omega)).trans at_upd⟩
   ·have b2:(op==2)=false:=by simpa using fun h=>h23 (.inl h)
    have b3:(op==3)=false:=by simpa using fun h=>h23 (.inr h)
    have hx:∀ s,expG p.srcs (p.defs.map Dfn.name) (colD E s) s (.mk op name n fold calcs kids)=kidsG p.srcs (p.defs.map Dfn.name) (colD E s) s op n kids 0 Lg.z:=fun s=>by rw [expG,if_neg h1,if_neg h23]
    simp only [hx]
    have hkl:kids.length<=2:=hb.b.kids
    have hop:=hb.b.op
    have hop:1<=op/\op<=15:=hop
    have hop4:4<=op/\op<=15:=by omega
    have hkm:(Exp.ivs kids).length=kids.length:=ivs_len kids
    have hle:(allEs kids).length<=m:=by rw [allE,List.length_cons] at h;omega
    have hNk:∀ x∈allEs kids,NodeP p x:=fun x hx=>hN x (by rw [allE];exact List.mem_cons_of_mem _ hx)
    generalize p.defs.map Dfn.name=names at *
    refine Cal.of (fn:=Go.Proofs.Tryz.f82) (by kernel_rfl) rfl rfl ?_
    have hR0:=hR
    rcases hR with rfl|⟨kq,nq,dq,⟨k1,k2,k3⟩,rfl,k5,k6,k7⟩
    all_goals
     refine BN ?_
     refine R.op1 (O.makeL (n:=p.srcs.length) (fun _=>Lg.z) rfl inferInstance ⟨rfl,rfl,by decide⟩ rfl rfl hsm2' (by omega)) rfl ?_
     refine BN ?_
     refine W.loop (X:=Nat×AV) (fun s=>[(2, .ptr (nx+0) 0),(3, .ptr (nx+1) 0),(5,s.2),(50, .imm (.lst (Exp.ivs kids))),(51, .imm (.int .i64 (Exp.ivs kids).length)),(52, .imm (.int .i64 s.1))])
      (fun s nx1 G1=>nx+10<=nx1/\s.1<=kids.length/\G1 (nx+0) = .box [_] false/\G1 (nx+1) = .box ((Exp.mk op name n fold calcs kids).iv.cells.map .imm) false /\
       RowL 153 nx nx1 G1 s.2 ((List.range p.srcs.length).map fun c=>kidsG p.srcs names (colD E c) c op n (kids.take s.1) 0 Lg.z)/\∀ o,o < nx->G1 o=G o)
      (fun s=>kids.length-s.1) (0, .row (nx+3+6) p.srcs.length) .auto ⟨by omega,Nat.zero_le _,at_upd,at_upd,⟨nx+3+6,false,by omega,by omega,by simp,?_⟩,fun o ho=>at_upd⟩ ?_
     ·refine (upd_same ..).trans ?_
      rw [mixL_zero]
      simp only [List.take_zero,kidsG]
     rintro ⟨i,u⟩ nx1 G1 ⟨hnx,hi1,g0,g1,hu,hG1⟩
     dsimp only at hi1 hu ⊢
     refine BN ?_
     refine W.cond rfl (fun h2=>?_) (fun h2=>?_)
     ·have hlt:i < kids.length:=by have:=of_decide_eq_true h2;omega
      obtain ⟨x,hx⟩:=at_lt hlt
      have hxi:=ivs_at hx
      have hmu:kids.length-(i+1) < kids.length-i:=by omega
      have hxm:=List.mem_of_getElem? hx
      have hxl:=allE_kid hxm
      have hih:=fun (G2:Nat->Obj) nx2 (h:nx<=nx2) (h':∀ o,o < nx->G2 o=G o)=>ih x (by omega) (fun y hy=>hNk y (allEs_mem hxm hy)) G2 nx2 lo nx _ (hR0.frame (Nat.le_refl _) hh fun o ho=>h' o (by omega)) (by omega)
      have htk:=fun s=>kidsG_take (srcs:=p.srcs) (names:=names) (v:=colD E s) (s:=s) (op:=op) (n:=n) hx
      have hxin:∀ s,(expG p.srcs names (colD E s) s x).In 4294967295:=fun s=>(expG_in p.srcs names hK.1 (hI.col hK.1 s) s x fun y hy=>(hNk y (allEs_mem hxm hy)).b).mono (by omega)
      have hxok:∀ s,(expG p.srcs names (colD E s) s x).Ok:=fun s=>expG_ok p.srcs names (hW.col s) s x
      generalize hX:(fun s=>expG p.srcs names (colD E s) s x)=X at *
      have hX':∀ s,expG p.srcs names (colD E s) s x=X s:=fun s=>congrFun hX s
      simp only [hX'] at htk hxin hxok
      have hXs:∀ s,s < p.srcs.length->((List.range p.srcs.length).map X).getD s Lg.z=X s:=fun s hs=>by simp [List.getD_eq_getElem?_getD,hs]
      obtain ⟨o',s',n',f',c',k'⟩:=x
      refine BN ?_
      refine R.callB rfl rfl rfl rfl rfl ((hih _ _ (by omega) fun o ho=>Eq.trans at_upd (hG1 o ho)).mono fun v G2 nx2 hv=>?_)
      obtain ⟨hv,hnx2,hG2⟩:=hv
      refine BN ?_
      have c1:∀ o,o < nx1->G2 o=G1 o:=fun o ho=>(hG2 o (by omega)).trans at_upd
      have c6:G2 (nx1+1+3) = .box [.imm (natIV i)] false:=(hG2 _ (by omega)).trans at_upd
      obtain ⟨ov,frv,hv1,hv2,rfl,hv3⟩:=hv
      refine BN ?_
      refine R.callB rfl rfl rfl rfl rfl ((cal439 (l:=(List.range p.srcs.length).map fun c=>kidsG p.srcs names (colD E c) c op n (kids.take i) 0 Lg.z) (lo:=nx) (hi:=nx1) (g:=fun s a=>(a.both (kidL op n i (X s))).iv) rfl rfl (fun _ _=>rfl)
       (.inr (hu.frame (Nat.le_refl _) (Nat.le_refl _) fun o _ ho _=>(upd_ne _ _ _ _ (by omega)).trans ((upd_ne _ _ _ _ (by omega)).trans (c1 o ho)))) (by omega) (by simp;omega) fun s a hx G' nx' h5 h6=>?_).mono fun v4 G4 nx4 hv=>?_)
      ·have hs:s < p.srcs.length:=by have:=(List.getElem?_eq_some_iff.1 hx).1;simpa using this
       have hc:=cal452 (p:=p) (E:=E) (op:=op) (n:=n) (fold:=fold) (name:=name) (calcs:=calcs) (kids:=kids) (kb:=nx+0) (eb:=nx+1) (lb:=nx1+1+7+3) (ib:=nx1+1+3) (lo:=lo) (hi:=hi) (lv := .row ov ((List.range p.srcs.length).map X).length) (hi2:=nx2) (i:=i) (s:=s) (L:=(List.range p.srcs.length).map X) (a:=a) (fr:=false) (G:=G') (nx:=nx')
        (by rw [hXs s hs];exact hxok s) (by rw [hXs s hs];exact hxin s) hn50 hop4 (by omega) (by simpa using hs)
        (hR0.frame (Nat.le_refl _) (Nat.le_refl _) fun o ho=>(h6 o (by omega)).trans ((upd_ne _ _ _ _ (by omega)).trans ((upd_ne _ _ _ _ (by omega)).trans ((c1 o (by omega)).trans (hG1 o (by omega))))))
        ((h6 _ (by omega)).trans ((upd_ne _ _ _ _ (by omega)).trans ((upd_ne _ _ _ _ (by omega)).trans ((c1 _ (by omega)).trans g0))))
        ((h6 _ (by omega)).trans ((upd_ne _ _ _ _ (by omega)).trans ((upd_ne _ _ _ _ (by omega)).trans ((c1 _ (by omega)).trans g1))))
        (.inr ⟨ov,frv,Nat.zero_le _,hv2,rfl,(h6 _ (by omega)).trans ((upd_ne _ _ _ _ (by omega)).trans ((upd_ne _ _ _ _ (by omega)).trans hv3))⟩)
        ((h6 _ (by omega)).trans (upd_same ..)) ((h6 _ (by omega)).trans ((upd_ne _ _ _ _ (by omega)).trans ((upd_ne _ _ _ _ (by omega)).trans c6))) (by omega)
       rw [hXs s hs] at hc
       exact hc
      ·obtain ⟨ho,hn4,hG4⟩:=hv
       have hlst:((List.range p.srcs.length).map fun c=>kidsG p.srcs names (colD E c) c op n (kids.take i) 0 Lg.z).mapIdx (fun s a=>(a.both (kidL op n i (X s))).iv)=((List.range p.srcs.length).map fun c=>kidsG p.srcs names (colD E c) c op n (kids.take (i+1)) 0 Lg.z).map Lg.iv:=by
        refine List.ext_getElem? fun s=>?_
        simp only [List.getElem?_mapIdx,List.getElem?_map,Option.map_map]
        by_cases hs:s < p.srcs.length
        ·rw [List.getElem?_range hs]
         simp only [Option.map_some,Function.comp,htk]
        ·rw [List.getElem?_eq_none (by simpa using hs)];rfl
       rw [hlst] at ho
       have hne:((List.range p.srcs.length).map fun c=>kidsG p.srcs names (colD E c) c op n (kids.take (i+1)) 0 Lg.z)≠[]:=fun hc=>by have:=congrArg List.length hc;rw [List.length_map,List.length_range,List.length_nil] at this;omega
       refine BN ?_
       refine W.skipLop (i+1,v4) hmu .auto ⟨by omega,hlt,?_,?_,(ho.rowL hne).frame (by omega) (by omega) fun _ _ _ _=>rfl,fun o ho=>?_⟩
       ·exact (hG4 _ (by omega)).trans ((upd_ne _ _ _ _ (by omega)).trans ((upd_ne _ _ _ _ (by omega)).trans ((c1 _ (by omega)).trans g0)))
       ·exact (hG4 _ (by omega)).trans ((upd_ne _ _ _ _ (by omega)).trans ((upd_ne _ _ _ _ (by omega)).trans ((c1 _ (by omega)).trans g1)))
       ·exact (hG4 _ (by omega)).trans ((upd_ne _ _ _ _ (by omega)).trans ((upd_ne _ _ _ _ (by omega)).trans ((c1 _ (by omega)).trans (hG1 o ho))))
     ·have hge:kids.length<=i:=by have:=of_decide_eq_false h2;omega
      rw [List.take_of_length_le hge] at hu
      obtain ⟨ou,fru,hu1,hu2,rfl,hu3⟩:=hu
      refine BN ?_
      exact W.retFin1 rfl ⟨⟨ou,fru,by omega,by omega,rfl,hu3⟩,by omega,hG1⟩
end Go.Abs

/- The rings of a program: each definition that reaches itself is in one, once. -/
open Go Go.Abs
namespace Go.Abs
set_option maxRecDepth 100000
theorem ringTo_mem {tos:List (List Nat)} {i s:Nat} (hi:i < tos.length) (hr:Reach tos i i):s∈ringTo (reachR tos) i tos.length↔s < tos.length/\Reach tos i s/\Reach tos s i:=by
 rw [<-ring_eq hi hr,List.mem_filter,List.mem_filter,List.mem_range,reachB_iff,reachB_iff,and_assoc]
theorem ringTo_nodup (m:List (List Bool)) (i n:Nat):(ringTo m i n).Nodup:=by
 unfold ringTo
 exact List.nodup_range.sublist List.filter_sublist
theorem count_one {l:List Nat} {s:Nat} (h:l.Nodup) (hs:s∈l):l.count s=1:=by
 have h1:=List.nodup_iff_count.1 h s
 have h2:=List.count_pos_iff.2 hs
 omega
theorem count_nodup {l:List Nat} {s:Nat} (h:l.Nodup):(s∈l->l.count s=1)/\(s∉l->l.count s=0):=
 ⟨fun h'=>count_one h h',fun h'=>List.count_eq_zero.2 h'⟩
theorem count_rings {tos:List (List Nat)} {s:Nat} (hs:s < tos.length):∀ i,i<=tos.length->(InRing tos i s->(ringsTo (reachR tos) i).flatten.count s=1)/\(¬ InRing tos i s->(ringsTo (reachR tos) i).flatten.count s=0):=by
 intro i
 induction i with
 |zero=>
  intro _
  exact ⟨fun ⟨_,h,_⟩=>by omega,fun _=>rfl⟩
 |succ i ih=>
  intro hi
  obtain ⟨ih1,ih0⟩:=ih (by omega)
  rw [ringsTo_succ]
  by_cases hr:ringIs (reachR tos) i=true
  ·rw [if_pos hr,reachR_len]
   obtain ⟨h1,h2⟩:=(ringIs_iff (by omega)).1 hr
   rw [List.flatten_append,List.count_append,show [ringTo (reachR tos) i tos.length].flatten=ringTo (reachR tos) i tos.length by simp]
   obtain ⟨c1,c0⟩:=count_nodup (s:=s) (ringTo_nodup (reachR tos) i tos.length)
   rw [ringTo_mem (by omega) h1] at c1 c0
   rw [InRing.step h1]
   by_cases hA:InRing tos i s
   ·have hB:¬ (s < tos.length/\Reach tos i s/\Reach tos s i):=by
     rintro ⟨_,h3,h4⟩
     obtain ⟨i',g1,g2,g3,g4⟩:=hA
     exact h2 ⟨i',g1,g2,g3.trans h4,h3.trans g4⟩
    rw [ih1 hA,c0 hB]
    exact ⟨fun _=>rfl,fun h=>absurd (.inl hA) h⟩
   ·rw [ih0 hA]
    by_cases hB:s < tos.length/\Reach tos i s/\Reach tos s i
    ·rw [c1 hB]
     exact ⟨fun _=>rfl,fun h=>absurd (.inr hB.2) h⟩
    ·rw [c0 hB]
     refine ⟨fun h=>?_,fun _=>rfl⟩
     rcases h with h|h
     ·exact absurd h hA
     ·exact absurd ⟨hs,h⟩ hB
  ·rw [if_neg hr,List.append_nil]
   have hsk:¬ Reach tos i i\/InRing tos i i:=by
    rw [ringIs_iff (by omega)] at hr
    by_cases h:Reach tos i i
    ·exact .inr (Classical.byContradiction fun h'=>hr ⟨h,h'⟩)
    ·exact .inl h
   rw [InRing.skip hsk]
   exact ⟨ih1,ih0⟩
theorem rings_count {tos:List (List Nat)} {s:Nat} (hs:s < tos.length):(ringsTo (reachR tos) tos.length).flatten.count s=if reachB tos s s then 1 else 0:=by
 obtain ⟨h1,h0⟩:=count_rings hs tos.length (Nat.le_refl _)
 by_cases h:reachB tos s s=true
 ·rw [if_pos h]
  exact h1 ⟨s,hs,reachB_iff.1 h,reachB_iff.1 h,reachB_iff.1 h⟩
 ·rw [if_neg h]
  refine h0 ?_
  rintro ⟨i',_,_,h3,h4⟩
  exact h (reachB_iff.2 (h4.trans h3))
end Go.Abs
