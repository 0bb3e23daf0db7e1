/- The reference: terms. -/
import Derived.Test.YtbdoijpclmhbaaaGreatRn7
open Go Go.Abs
namespace Go.Abs
set_option maxRecDepth 100000
set_option maxHeartbeats 4000000
instance fnis106:FnIs CC 170:=⟨rfl,fun _=>rfl⟩
instance fnis107:FnIs CC 171:=⟨rfl,fun _=>rfl⟩
def ty27:TyI:={ d:=TyD.sl 95,sz:=1,bytes:=24,zero:=AV.nils }
instance tyis27:TyIs CC 23 ty27:=⟨by kernel_rfl⟩
def ty29:TyI:={ d:=TyD.st [(0,1),(1,1)],sz:=2,bytes:=48,zero:=AV.agg [AV.nils,AV.nils] }
instance tyis29:TyIs CC 25 ty29:=⟨by kernel_rfl⟩
def ty30:TyI:={ d:=TyD.sl 3,sz:=1,bytes:=24,zero:=AV.nils }
instance tyis30:TyIs CC 44 ty30:=⟨by kernel_rfl⟩
def ty31:TyI:={ d:=TyD.int IntKind.i64,sz:=1,bytes:=8,zero:=AV.imm (IV.int IntKind.i64 (0)) }
instance tyis31:TyIs CC 27 ty31:=⟨by kernel_rfl⟩
def ty50:TyI:={ d:=TyD.sl 93,sz:=1,bytes:=24,zero:=AV.nils }
instance tyis50:TyIs CC 91 ty50:=⟨by kernel_rfl⟩
def ty55:TyI:={ d:=TyD.int IntKind.i64,sz:=1,bytes:=8,zero:=AV.imm (IV.int IntKind.i64 (0)) }
instance tyis55:TyIs CC 88 ty55:=⟨by kernel_rfl⟩
def ty56:TyI:={ d:=TyD.int IntKind.i64,sz:=1,bytes:=8,zero:=AV.imm (IV.int IntKind.i64 (0)) }
instance tyis56:TyIs CC 89 ty56:=⟨by kernel_rfl⟩
def ty57:TyI:={ d:=TyD.sl 172,sz:=1,bytes:=24,zero:=AV.nils }
instance tyis57:TyIs CC 90 ty57:=⟨by kernel_rfl⟩
def ty59:TyI:={ d:=TyD.st [(0,1),(1,1),(2,1),(3,1),(4,1),(5,1)],sz:=6,bytes:=88,zero:=AV.agg [AV.imm (IV.int IntKind.i64 (0)),AV.imm (IV.str { data:={ toList:=[] } }),AV.imm (IV.int IntKind.i64 (0)),AV.imm (IV.int IntKind.i64 (0)),AV.nils,AV.nils] }
instance tyis59:TyIs CC 93 ty59:=⟨by kernel_rfl⟩
def ty70:TyI:={ d:=TyD.st [(0,1),(1,6)],sz:=7,bytes:=104,zero:=AV.agg [AV.imm (IV.str { data:={ toList:=[] } }),AV.imm (IV.int IntKind.i64 (0)),AV.imm (IV.str { data:={ toList:=[] } }),AV.imm (IV.int IntKind.i64 (0)),AV.imm (IV.int IntKind.i64 (0)),AV.nils,AV.nils] }
instance tyis70:TyIs CC 95 ty70:=⟨by kernel_rfl⟩
def ty121:TyI:={ d:=TyD.int IntKind.i64,sz:=1,bytes:=8,zero:=AV.imm (IV.int IntKind.i64 (0)) }
instance tyis121:TyIs CC 170 ty121:=⟨by kernel_rfl⟩
def ty123:TyI:={ d:=TyD.st [(0,1),(1,1),(2,1)],sz:=3,bytes:=40,zero:=AV.agg [AV.imm (IV.int IntKind.i64 (0)),AV.imm (IV.int IntKind.i64 (0)),AV.nils] }
instance tyis123:TyIs CC 172 ty123:=⟨by kernel_rfl⟩
def inR (n low high:Int):Bool:=decide (n>=low)&&decide (n<=high)
theorem ret106 (n low high:Int):Ret CC 170 [.int .i64 n, .int .i64 low, .int .i64 high] (.bool (inR n low high)):=by
 refine Ret.of (fn:=Go.Proofs.Tryz.f170) (by kernel_rfl) rfl rfl ?_
 refine SO ?_
 refine R.guardC1 rfl rfl rfl (fun h1=>?_) (fun h1=>?_)
 ·refine SO ?_
  exact W.retFin1 rfl ⟨[],by unfold inR;rw [h1];rfl⟩
 ·refine SO ?_
  exact W.retFin1 rfl ⟨[],by unfold inR;rw [h1];rfl⟩
def kidsOf (op n:Int) (other:Bool):Option Nat:=
 if op=1 then (if inR n (-1000000000) 1000000000 then some 0 else none)
 else if op=2\/op=3\/op=4 then some 0
 else if op=5 then (if other then some 0 else none)
 else if op=6\/op=7\/op=8\/op=9\/op=10 then some 2
 else none
mutual
def calcR:Trm->Bool->Int->Int->Int
 | .mk op n kids,other,depth,left=>
  if depth > 10\/left < 1 then -1 else
  match kidsOf op n other with
  |none => -1
  |some k=>if kids.length≠k\/(op≠1/\n≠0) then -1 else calcRs kids other depth left 1
def calcRs:List Trm->Bool->Int->Int->Int->Int
 |[],_,_,_,n=>n
 |k::r,other,depth,left,n=>if calcR k other (depth+1) (left-n) < 0 then -1 else calcRs r other depth left (n+calcR k other (depth+1) (left-n))
end
theorem calcR_mk {op n:Int} {kids:List Trm} {other:Bool} {depth left:Int} (h:¬ (depth > 10\/left < 1)):calcR (.mk op n kids) other depth left=match kidsOf op n other with
  |none => -1
  |some k=>if kids.length≠k\/(op≠1/\n≠0) then -1 else calcRs kids other depth left 1:=by
 rw [calcR,if_neg h]
mutual
theorem calcR_le:∀ (c:Trm) (other:Bool) (depth left:Int),0<=calcR c other depth left->1<=calcR c other depth left/\calcR c other depth left<=left
 | .mk op n kids,other,depth,left,h=>by
  rw [calcR] at h ⊢
  split at h
  ·omega
  ·rename_i h0
   rw [if_neg h0]
   split at h
   ·omega
   ·split at h
    ·omega
    ·rename_i h1
     simp only [if_neg h1]
     have:=calcRs_le kids other depth left 1 (by omega) h
     omega
theorem calcRs_le:∀ (l:List Trm) (other:Bool) (depth left n:Int),1<=n/\n<=left->0<=calcRs l other depth left n->n<=calcRs l other depth left n/\calcRs l other depth left n<=left
 |[],_,_,_,n,hn,_=>by rw [calcRs];omega
 |k::r,other,depth,left,n,hn,h=>by
  rw [calcRs] at h ⊢
  split at h
  ·omega
  ·rename_i h0
   rw [if_neg h0]
   have h1:=calcR_le k other (depth+1) (left-n) (by omega)
   have:=calcRs_le r other depth left (n+calcR k other (depth+1) (left-n)) (by omega) h
   omega
end
theorem calcRs_drop {kids:List Trm} {k:Trm} {i:Nat} (h:kids[i]? = some k) (other:Bool) (depth left n:Int) :
  calcRs (kids.drop i) other depth left n=if calcR k other (depth+1) (left-n) < 0 then -1 else calcRs (kids.drop (i+1)) other depth left (n+calcR k other (depth+1) (left-n)):=by
 have:kids.drop i=k::kids.drop (i+1):=by
  rw [List.getElem?_eq_some_iff] at h
  obtain ⟨hi,rfl⟩:=h
  exact List.drop_eq_getElem_cons hi
 rw [this,calcRs]
theorem ret107 {c:Trm} (hf:c.Fits):∀ (other:Bool) (depth left:Int),(-1000<=depth/\depth<=1000)->(-1000<=left/\left<=1000)->Ret CC 171 [c.iv, .bool other, .int .i64 depth, .int .i64 left] (.int .i64 (calcR c other depth left)):=by
 induction hf with
 |mk op n kids hlen hkf ih=>
 intro other depth left hd hl
 have hlen':kids.length<=9223372036854775807:=hlen
 refine Ret.of (fn:=Go.Proofs.Tryz.f171) (by kernel_rfl) rfl rfl ?_
 refine W.seq (W.region ?_)
 refine R.op1 (O.boxS (cs:=[.imm (.int .i64 op), .imm (.int .i64 n), .imm (.lst (Trm.ivs kids))]) rfl rfl rfl) rfl ?_
 refine SO ?_
 have early:(depth > 10\/left < 1)->calcR (.mk op n kids) other depth left = -1:=fun h=>by rw [calcR,if_pos h]
 refine R.guardC0 rfl rfl rfl (fun h1=>?_) (fun h1=>?_)
 rotate_left
 ·refine SO ?_
  exact W.retFin1 rfl ⟨[],by rw [early (.inl (of_decide_eq_true h1))];rfl⟩
 refine SO ?_
 refine W.cond rfl (fun h2=>?_) (fun h2=>?_)
 ·refine SO ?_
  exact W.retFin1 rfl ⟨[],by rw [early (.inr (of_decide_eq_true h2))];rfl⟩
 have h1':=of_decide_eq_false h1
 have h2':=of_decide_eq_false h2
 have hmk:=calcR_mk (op:=op) (n:=n) (kids:=kids) (other:=other) (depth:=depth) (left:=left) (by omega)
 have hnone:kidsOf op n other=none->calcR (.mk op n kids) other depth left = -1:=fun h=>by rw [hmk,h]
 clear early
 refine W.skipAft ?_
 refine W.seq (W.region ?_)
 refine SOR ?_
 refine W.cut (X:=Nat) (fun k=>[(4, .ptr (0+0) 0),(1, .imm (.bool other)),(2, .imm (.int .i64 depth)),(3, .imm (.int .i64 left)),(9, .imm (.int .i64 1)),(10, .imm (.int .i64 k))])
  (fun k _ G'=>G'=upd (fun _ => .gone) (0+0) (.box [.imm (.int .i64 op), .imm (.int .i64 n), .imm (.lst (Trm.ivs kids))] false)/\kidsOf op n other=some k) ?_ ?_
 ·have hops:op=1\/op=2\/op=3\/op=4\/op=5\/op=6\/op=7\/op=8\/op=9\/op=10\/(op≠1/\op≠2/\op≠3/\op≠4/\op≠5/\op≠6/\op≠7/\op≠8/\op≠9/\op≠10):=by omega
  rcases hops with rfl|rfl|rfl|rfl|rfl|rfl|rfl|rfl|rfl|rfl|⟨n1,n2,n3,n4,n5,n6,n7,n8,n9,n10⟩
  ·refine SO ?_
   refine R.op0 (O.call rfl rfl (ret106 n _ _)) rfl ?_
   refine SO ?_
   refine W.cond rfl (fun h=>?_) (fun h=>?_)
   ·have ho:inR n (-1000000000) 1000000000=false:=by simpa using h
    refine SO ?_
    exact W.retFin1 rfl ⟨[],by rw [hnone (by unfold kidsOf;simp [ho])];rfl⟩
   ·have ho:inR n (-1000000000) 1000000000=true:=by simpa using h
    refine SO ?_
    refine W.skipCut 0 ?_ ⟨rfl,by unfold kidsOf;simp [ho]⟩
    exact .cons rfl (.cons rfl (.cons rfl (.cons rfl (.cons rfl (.cons rfl (.nil _))))))
  ·refine SO ?_
   refine W.skipCut 0 ?_ ⟨rfl,rfl⟩
   exact .cons rfl (.cons rfl (.cons rfl (.cons rfl (.cons rfl (.cons rfl (.nil _))))))
  ·refine SO ?_
   refine W.skipCut 0 ?_ ⟨rfl,rfl⟩
   exact .cons rfl (.cons rfl (.cons rfl (.cons rfl (.cons rfl (.cons rfl (.nil _))))))
  ·refine SO ?_
   refine W.skipCut 0 ?_ ⟨rfl,rfl⟩
   exact .cons rfl (.cons rfl (.cons rfl (.cons rfl (.cons rfl (.cons rfl (.nil _))))))
  ·refine SO ?_
   refine W.cond rfl (fun h=>?_) (fun h=>?_)
   ·have ho:other=false:=by simpa using h
    subst ho
    refine SO ?_
    exact W.retFin1 rfl ⟨[],by rw [hnone rfl];rfl⟩
   ·have ho:other=true:=by simpa using h
    subst ho
    refine SO ?_
    refine W.skipCut 0 ?_ ⟨rfl,rfl⟩
    exact .cons rfl (.cons rfl (.cons rfl (.cons rfl (.cons rfl (.cons rfl (.nil _))))))
  ·refine SO ?_
   refine W.skipCut 2 ?_ ⟨rfl,rfl⟩
   exact .cons rfl (.cons rfl (.cons rfl (.cons rfl (.cons rfl (.cons rfl (.nil _))))))
  ·refine SO ?_
   refine W.skipCut 2 ?_ ⟨rfl,rfl⟩
   exact .cons rfl (.cons rfl (.cons rfl (.cons rfl (.cons rfl (.cons rfl (.nil _))))))
  ·refine SO ?_
   refine W.skipCut 2 ?_ ⟨rfl,rfl⟩
   exact .cons rfl (.cons rfl (.cons rfl (.cons rfl (.cons rfl (.cons rfl (.nil _))))))
  ·refine SO ?_
   refine W.skipCut 2 ?_ ⟨rfl,rfl⟩
   exact .cons rfl (.cons rfl (.cons rfl (.cons rfl (.cons rfl (.cons rfl (.nil _))))))
  ·refine SO ?_
   refine W.skipCut 2 ?_ ⟨rfl,rfl⟩
   exact .cons rfl (.cons rfl (.cons rfl (.cons rfl (.cons rfl (.cons rfl (.nil _))))))
  ·have e1:(op==1)=false:=by simpa using n1
   have e2:(op==2)=false:=by simpa using n2
   have e3:(op==3)=false:=by simpa using n3
   have e4:(op==4)=false:=by simpa using n4
   have e5:(op==5)=false:=by simpa using n5
   have e6:(op==6)=false:=by simpa using n6
   have e7:(op==7)=false:=by simpa using n7
   have e8:(op==8)=false:=by simpa using n8
   have e9:(op==9)=false:=by simpa using n9
   have e10:(op==10)=false:=by simpa using n10
   refine SO ?_
   exact W.retFin1 rfl ⟨[],by rw [hnone (by unfold kidsOf;simp [n1,n2,n3,n4,n5,n6,n7,n8,n9,n10])];rfl⟩
 ·rintro k nx G ⟨rfl,hk⟩
  rw [hk] at hmk
  simp only at hmk
  have hlv:(Trm.ivs kids).length=kids.length:=by rw [Trm.ivs_map,List.length_map]
  refine W.cut (X:=Unit) (fun _=>[(4, .ptr (0+0) 0),(1, .imm (.bool other)),(2, .imm (.int .i64 depth)),(3, .imm (.int .i64 left)),(9, .imm (.int .i64 1)),(10, .imm (.int .i64 k))])
   (fun _ _ G'=>G'=upd (fun _ => .gone) (0+0) (.box [.imm (.int .i64 op), .imm (.int .i64 n), .imm (.lst (Trm.ivs kids))] false)/\kids.length=k/\(op=1\/n=0)) ?_ ?_
  ·have bad:(kids.length≠k\/(op≠1/\n≠0))->calcR (.mk op n kids) other depth left = -1:=fun h=>by rw [hmk,if_pos h]
   rcases Bool.eq_false_or_eq_true (((Trm.ivs kids).length:Int) != (k:Int)) with hA|hA
   ·refine SO ?_
    exact W.retFin1 rfl ⟨[],by rw [bad (.inl (by rw [hlv] at hA;simp at hA;omega))];rfl⟩
   ·have hA':kids.length=k:=by
     rw [hlv] at hA
     simp at hA
     omega
    rcases Bool.eq_false_or_eq_true (op != 1) with hB|hB
    ·rcases Bool.eq_false_or_eq_true (n != 0) with hN|hN
     ·refine SO ?_
      exact W.retFin1 rfl ⟨[],by rw [bad (.inr ⟨by simpa using hB,by simpa using hN⟩)];rfl⟩
     ·refine SO ?_
      refine W.skipCut () ?_ ⟨rfl,hA', .inr (by simpa using hN)⟩
      exact .cons rfl (.cons rfl (.cons rfl (.cons rfl (.cons rfl (.cons rfl (.nil _))))))
    ·refine SO ?_
     refine W.skipCut () ?_ ⟨rfl,hA', .inl (by simpa using hB)⟩
     exact .cons rfl (.cons rfl (.cons rfl (.cons rfl (.cons rfl (.cons rfl (.nil _))))))
  ·rintro _ nx G ⟨rfl,hA,hB⟩
   rw [if_neg (by omega)] at hmk
   refine SO ?_
   refine W.loop (X:=Nat×Int) (fun x=>[(4, .ptr (0+0) 0),(1, .imm (.bool other)),(2, .imm (.int .i64 depth)),(3, .imm (.int .i64 left)),(10, .imm (.int .i64 k)),(11, .imm (.int .i64 x.1)),(9, .imm (.int .i64 x.2))])
    (fun x _ G'=>G'=upd (fun _ => .gone) (0+0) (.box [.imm (.int .i64 op), .imm (.int .i64 n), .imm (.lst (Trm.ivs kids))] false)/\x.1<=kids.length/\1<=x.2/\x.2<=left/\calcR (.mk op n kids) other depth left=calcRs (kids.drop x.1) other depth left x.2) (fun x=>kids.length-x.1) (0,1)
    (.cons rfl (.cons rfl (.cons rfl (.cons rfl (.cons rfl (.cons rfl (.cons rfl (.nil _)))))))) ⟨rfl,Nat.zero_le _,by decide,by show (1:Int)<=left;omega,by rw [hmk];rfl⟩ ?_
   rintro ⟨i,m⟩ nx G ⟨rfl,hi,hm1,hm2,he⟩
   dsimp only at hi hm1 hm2 he ⊢
   refine SO ?_
   refine W.cond rfl (fun hc=>?_) (fun hc=>?_)
   ·have hlt:i < kids.length:=by have:=of_decide_eq_true hc;omega
    obtain ⟨kid,hx⟩:∃ c,kids[i]? = some c:=⟨kids[i],by simp [hlt]⟩
    have hr:=ih kid (List.mem_of_getElem? hx) other (depth+1) (left-m) (by omega) (by omega)
    have hle:=calcR_le kid other (depth+1) (left-m)
    rw [calcRs_drop hx] at he
    have hxi:(Trm.ivs kids)[i]? = some kid.iv:=by rw [Trm.ivs_map,List.getElem?_map,hx];rfl
    obtain ⟨o',n',ks'⟩:=kid
    refine SO ?_
    refine R.op0 (O.addrL (u:=(Trm.mk o' n' ks').iv) rfl rfl rfl (by omega) (by rw [Int.toNat_natCast];exact hxi) rfl) rfl ?_
    refine R.op0 (O.loadEA (e:=(Trm.mk o' n' ks').iv) rfl rfl (by rw [Int.toNat_natCast];exact hxi) rfl) rfl ?_
    refine SO ?_
    refine R.op0 (O.call rfl rfl hr) rfl ?_
    refine SO ?_
    refine W.cond rfl (fun h5=>?_) (fun h5=>?_)
    ·rw [if_pos (of_decide_eq_true h5)] at he
     refine SO ?_
     exact W.retFin1 rfl ⟨[],by rw [he];rfl⟩
    ·have h5':=of_decide_eq_false h5
     rw [if_neg h5'] at he
     have hle':=hle (by omega)
     refine SO ?_
     refine W.skipLop (i+1,m+calcR (.mk o' n' ks') other (depth+1) (left-m)) ?_ ?_ ⟨rfl,hlt,?_,?_,he⟩
     ·show kids.length-(i+1) < kids.length-i;omega
     ·exact .cons rfl (.cons rfl (.cons rfl (.cons rfl (.cons rfl (.cons rfl (.cons rfl (.nil _)))))))
     ·show 1<=m+_;omega
     ·show m+_<=left;omega
   ·have hge:¬ i < kids.length:=by have:=of_decide_eq_false hc;omega
    have:kids.drop i=[]:=List.drop_eq_nil_of_le (by omega)
    refine SO ?_
    exact W.retFin1 rfl ⟨[],by rw [he,this,calcRs];rfl⟩
end Go.Abs

/- The reference: names of definitions; the nodes of an expression; whether it looks ahead. -/
open Go Go.Abs
namespace Go.Abs
set_option maxRecDepth 100000
set_option maxHeartbeats 4000000
instance fnis96:FnIs CC 114:=⟨rfl,fun _=>rfl⟩
instance fnis58:FnIs CC 84:=⟨rfl,fun _=>rfl⟩
instance fnis68:FnIs CC 67:=⟨rfl,fun _=>rfl⟩
def defNames (p:Pgm):List Str:=(p.defs.take 7).map Dfn.name
theorem at_map {α:Type} (f:α->IV) {l:List α} {i:Nat} {x:α} (h:l[i]? = some x):(l.map f)[(i:Int).toNat]? = some (f x):=by
 rw [Int.toNat_natCast,List.getElem?_map,h];rfl
theorem at_lt {α:Type} {l:List α} {i:Nat} (h:i < l.length):∃ x,l[i]? = some x:=⟨l[i],by simp [h]⟩
theorem Exp.cells_len (e:Exp):e.iv.cells.length=6:=by cases e;rfl
theorem Dfn.cells_len (d:Dfn):d.iv.cells.length=7:=by
 obtain ⟨n,⟨op,name,m,fold,calcs,kids⟩⟩:=d;rfl
theorem ret96 (p:Pgm) (hp:p.defs.length<=9223372036854775807):Ret CC 114 [p.iv] (.lst ((defNames p).map sv)):=by
 obtain ⟨srcs,defs⟩:=p
 simp only at hp
 refine Ret.of (fn:=Go.Proofs.Tryz.f114) (by kernel_rfl) rfl rfl ?_
 refine W.seq (W.region ?_)
 refine R.op1 (O.boxS (cs:=[.imm (.lst (srcs.map sv)), .imm (.lst (defs.map Dfn.iv))]) rfl rfl rfl) rfl ?_
 refine SS ?_
 refine W.loop (X:=Nat×AV) (fun x=>[(1, .ptr (0+0) 0),(4, .imm (.int .i64 x.1)),(3,x.2)])
  (fun x nx G=>G (0+0) = .box [.imm (.lst (srcs.map sv)), .imm (.lst (defs.map Dfn.iv))] false/\x.1<=defs.length/\x.1<=7/\1<=nx/\Own 9 1 1 nx (((defs.take x.1).map Dfn.name).map sv) G x.2) (fun x=>7-x.1) (0, .nils)
  .auto ⟨rfl,Nat.zero_le _,by simp,by simp, .inl ⟨rfl,rfl⟩⟩ ?_
 rintro ⟨i,v⟩ nx G ⟨hB,hi,hi7,hnx,ho⟩
 dsimp only at hi hi7 ho ⊢
 refine SS ?_
 refine R.guardC1 rfl rfl rfl (fun h1=>?_) (fun h1=>?_)
 ·have h1':i < defs.length:=by have:=of_decide_eq_true h1;rw [List.length_map] at this;omega
  refine SS ?_
  refine W.cond rfl (fun h2=>?_) (fun h2=>?_)
  ·have h2':i < 7:=by have:=of_decide_eq_true h2;omega
   obtain ⟨d,hx⟩:=at_lt h1'
   have hxi:=at_map Dfn.iv hx
   have hdc:=d.cells_len
   have htake:(defs.take (i+1)).map Dfn.name=(defs.take i).map Dfn.name++[d.name]:=by
    rw [List.take_add_one,hx];simp
   refine SS ?_
   refine R.op1 (O.buildS (n:=1) (ke:=ty9) (xs:=[.imm (sv d.name)]) rfl rfl rfl (by decide) rfl rfl (by decide)) rfl ?_
   refine R.appOwn (lo:=1) (xs:=((defs.take i).map Dfn.name).map sv) (ys:=[sv d.name]) rfl rfl rfl (ho.upd (by omega) (by omega)) rfl (by simp [elems,upd]) (by decide) (by decide) rfl (by simp [sv];rfl) (by simp [most];omega) ⟨by omega,by simp only [List.length_cons,List.length_nil];omega⟩ rfl fun v' G' ho' hG'=>?_
   have hB':G' (0+0) = .box [.imm (.lst (srcs.map sv)), .imm (.lst (defs.map Dfn.iv))] false:=by rw [hG' (0+0) (by omega),upd_ne _ _ _ _ (by omega)];exact hB
   refine SS ?_
   refine W.skipLop (i+1,v') ?_ .auto ⟨hB',h1',h2',by omega,?_⟩
   ·show 7-(i+1) < 7-i;omega
   ·show Own 9 1 1 _ (((defs.take (i+1)).map Dfn.name).map sv) G' v'
    rw [htake,List.map_append]
    exact ho'.up (by omega)
  ·have h2':i=7:=by have:=of_decide_eq_false h2;omega
   refine SS ?_
   refine W.retFin1 rfl ?_
   have:=ho.peek (k:=99)
   subst h2'
   exact this
 ·have h1':defs.length<=i:=by have:=of_decide_eq_false h1;rw [List.length_map] at this;omega
  refine SS ?_
  refine W.retFin1 rfl ?_
  have:=ho.peek (k:=99)
  have e:defNames ⟨srcs,defs⟩=(defs.take i).map Dfn.name:=by
   unfold defNames
   rw [List.take_of_length_le (show defs.length<=7 by omega),List.take_of_length_le (show defs.length<=i by omega)]
  rw [e]
  exact this
end Go.Abs

/- The reference: the nodes of an expression; whether it looks ahead. -/
open Go Go.Abs
namespace Go.Abs
set_option maxRecDepth 100000
set_option maxHeartbeats 4000000
mutual
/-- The nodes of an expression, in order. -/
def allE:Exp->List Exp
 | .mk op name n fold calcs kids => .mk op name n fold calcs kids::allEs kids
def allEs:List Exp->List Exp
 |[]=>[]
 |k::r=>allE k++allEs r
end
theorem allEs_take {kids:List Exp} {k:Exp} {i:Nat} (h:kids[i]? = some k):allEs (kids.take (i+1))=allEs (kids.take i)++allE k:=by
 induction kids generalizing i with
 |nil=>simp at h
 |cons a r ih=>
  cases i with
  |zero=>simp at h;subst h;simp [allEs]
  |succ i=>simp only [List.getElem?_cons_succ] at h;simp only [List.take_succ_cons,allEs,ih h,List.append_assoc]
theorem allEs_len {kids:List Exp}:∀ i,(allEs (kids.take i)).length<=(allEs kids).length:=by
 induction kids with
 |nil=>intro i;simp [allEs]
 |cons a r ih=>
  intro i
  cases i with
  |zero=>simp [allEs]
  |succ i=>simp only [List.take_succ_cons,allEs,List.length_append];have:=ih i;omega
theorem ivs_at {kids:List Exp} {k:Exp} {i:Nat} (h:kids[i]? = some k):(Exp.ivs kids)[(i:Int).toNat]? = some k.iv:=by
 rw [Exp.ivs_map];exact at_map _ h
theorem ivs_len (kids:List Exp):(Exp.ivs kids).length=kids.length:=by rw [Exp.ivs_map,List.length_map]
theorem Exp.ivs_fits (l:List Exp):∀ y∈Exp.ivs l,(AV.imm y).fits 6=true:=by
 intro y hy
 rw [Exp.ivs_map] at hy
 obtain ⟨e,_,rfl⟩:=List.mem_map.1 hy
 cases e;rfl
theorem ret58 {e:Exp} (hf:e.Fits):(allE e).length<=4294967296->Ret CC 84 [e.iv] (.lst (Exp.ivs (allE e))):=by
 induction hf with
 |mk op name n fold calcs kids hn hw hc hk hcs hks ih=>
 intro hs
 have hk':kids.length<=9223372036854775807:=hk
 have hlv:=ivs_len kids
 rw [allE] at hs
 simp only [List.length_cons] at hs
 refine Ret.of (fn:=Go.Proofs.Tryz.f84) (by kernel_rfl) rfl rfl ?_
 refine W.seq (W.region ?_)
 refine R.op1 (O.boxS (cs:=[.imm (.int .i64 op), .imm (sv name), .imm (.int .i64 n), .imm (.int .i64 fold), .imm (.lst (Trm.ivs calcs)), .imm (.lst (Exp.ivs kids))]) rfl rfl rfl) rfl ?_
 refine SS ?_
 refine R.op1 (O.buildS (xs:=[.imm (Exp.mk op name n fold calcs kids).iv]) rfl rfl rfl (by decide) rfl rfl (by decide)) rfl ?_
 refine SS ?_
 refine W.loop (X:=Nat×AV) (fun x=>[(1, .ptr (0+0) 0),(4, .imm (.int .i64 x.1)),(3,x.2)])
  (fun x nx G=>G (0+0) = .box [.imm (.int .i64 op), .imm (sv name), .imm (.int .i64 n), .imm (.int .i64 fold), .imm (.lst (Trm.ivs calcs)), .imm (.lst (Exp.ivs kids))] false/\x.1<=kids.length/\1<=nx/\Own 93 6 1 nx (Exp.ivs (Exp.mk op name n fold calcs kids::allEs (kids.take x.1))) G x.2) (fun x=>kids.length-x.1) (0,_)
  .auto ⟨rfl,Nat.zero_le _,by simp, .inr ⟨_,?_,?_,rfl,rfl⟩⟩ ?_
 ·decide
 ·decide
 rintro ⟨i,v⟩ nx G ⟨hB,hi,hnx,ho⟩
 dsimp only at hi ho ⊢
 refine SS ?_
 refine W.cond rfl (fun h1=>?_) (fun h1=>?_)
 ·have h1':i < kids.length:=by have:=of_decide_eq_true h1;omega
  obtain ⟨k,hx⟩:=at_lt h1'
  have hxi:=ivs_at hx
  have hkl:=allEs_take hx
  have hle:=allEs_len (kids:=kids) (i+1)
  have hll:=congrArg List.length hkl
  rw [List.length_append] at hll
  have hr:=ih k (List.mem_of_getElem? hx) (by omega)
  obtain ⟨o',s',n',f',c',k'⟩:=k
  refine SS ?_
  refine R.appOwn (lo:=1) (ys:=Exp.ivs (allE (.mk o' s' n' f' c' k'))) rfl rfl rfl (ho.up (by omega)) rfl rfl (by decide) (by decide) rfl (Exp.ivs_fits _) ?_ ⟨by omega,by simp only [List.length_cons,List.length_nil];omega⟩ rfl fun v' G' ho' hG'=>?_
  ·rw [ivs_len,ivs_len,List.length_cons];show _<=4294967296;omega
  have hB':=hG' (0+0) (by omega)
  rw [hB] at hB'
  refine SS ?_
  refine W.skipLop (i+1,v') ?_ .auto ⟨hB',h1',by omega,?_⟩
  ·show kids.length-(i+1) < kids.length-i;omega
  ·show Own 93 6 1 _ (Exp.ivs (_::allEs (kids.take (i+1)))) G' v'
   rw [hkl,Exp.ivs_map]
   rw [Exp.ivs_map,Exp.ivs_map,<-List.map_append] at ho'
   exact ho'.up (by omega)
 ·have h1':kids.length<=i:=by have:=of_decide_eq_false h1;omega
  refine SS ?_
  refine W.retFin1 rfl ?_
  have:=ho.peek (k:=99)
  rw [List.take_of_length_le h1',<-allE] at this
  exact this
end Go.Abs

/- The reference: whether an expression looks ahead. -/
open Go Go.Abs
namespace Go.Abs
set_option maxRecDepth 100000
set_option maxHeartbeats 4000000
def Exp.fore (x:Exp):Bool:=(x.op==14)||((x.op==7)&&decide (x.n < 0))
def aheadE (e:Exp):Bool:=(allE e).any Exp.fore
theorem any_take {α:Type} {p:α->Bool} {l:List α} {i:Nat} {x:α} (h:l[i]? = some x) (hi:(l.take i).any p=false) (hx:p x=false):(l.take (i+1)).any p=false:=by
 rw [List.take_add_one,h,List.any_append,hi];simp [hx]
theorem any_of_take {α:Type} {p:α->Bool} {l:List α} {i:Nat} (h:l.length<=i) (hi:(l.take i).any p=false):l.any p=false:=by
 rw [List.take_of_length_le h] at hi;exact hi
theorem any_at {α:Type} {p:α->Bool} {l:List α} {i:Nat} {x:α} (h:l[i]? = some x) (hx:p x=true):l.any p=true:=
 List.any_eq_true.2 ⟨x,List.mem_of_getElem? h,hx⟩
theorem ret68 {e:Exp} (hf:e.Fits) (hs:(allE e).length<=4294967296):Ret CC 67 [e.iv] (.bool (aheadE e)):=by
 have hr58:=ret58 hf hs
 generalize hl:allE e=nodes at hr58 hs
 have hgoal:aheadE e=nodes.any Exp.fore:=by unfold aheadE;rw [hl]
 rw [hgoal]
 clear hgoal hl hf
 obtain ⟨op,name,n,fold,calcs,kids⟩:=e
 have hlv:=ivs_len nodes
 refine Ret.of (fn:=Go.Proofs.Tryz.f67) (by kernel_rfl) rfl rfl ?_
 refine W.seq (W.region ?_)
 refine R.op1 (O.boxS (cs:=[.imm (.int .i64 op), .imm (sv name), .imm (.int .i64 n), .imm (.int .i64 fold), .imm (.lst (Trm.ivs calcs)), .imm (.lst (Exp.ivs kids))]) rfl rfl rfl) rfl ?_
 refine SS ?_
 refine W.loop (X:=Nat) (fun i=>[(4, .imm (.int .i64 i)),(3, .imm (.lst (Exp.ivs nodes)))])
  (fun i nx G=>i<=nodes.length/\(nodes.take i).any Exp.fore=false) (fun i=>nodes.length-i) 0
  .auto ⟨Nat.zero_le _,rfl⟩ ?_
 rintro i nx G ⟨hi,ha⟩
 refine SS ?_
 refine W.cond rfl (fun h1=>?_) (fun h1=>?_)
 ·have h1':i < nodes.length:=by have:=of_decide_eq_true h1;omega
  obtain ⟨x,hx⟩:=at_lt h1'
  have hxi:=ivs_at hx
  have next:=fun h=>any_take hx ha h
  have found:=fun h=>any_at (p:=Exp.fore) hx h
  obtain ⟨o',s',n',f',c',k'⟩:=x
  rcases Bool.eq_false_or_eq_true (o'==14) with hA|hA
  ·refine SS ?_
   exact W.retFin1 rfl ⟨[],by rw [found (by show ((o'==14)||_)=true;rw [hA];rfl)];rfl⟩
  ·rcases Bool.eq_false_or_eq_true (o'==7) with hB|hB
   ·rcases Bool.eq_false_or_eq_true (decide (n' < 0)) with hC|hC
    ·refine SS ?_
     exact W.retFin1 rfl ⟨[],by rw [found (by show ((o'==14)||((o'==7)&&decide (n' < 0)))=true;rw [hA,hB,hC];rfl)];rfl⟩
    ·refine SS ?_
     refine W.skipLop (i+1) ?_ .auto ⟨h1',next (by show ((o'==14)||((o'==7)&&decide (n' < 0)))=false;rw [hA,hB,hC];rfl)⟩
     show nodes.length-(i+1) < nodes.length-i;omega
   ·refine SS ?_
    refine W.skipLop (i+1) ?_ .auto ⟨h1',next (by show ((o'==14)||((o'==7)&&decide (n' < 0)))=false;rw [hA,hB];rfl)⟩
    show nodes.length-(i+1) < nodes.length-i;omega
 ·have h1':nodes.length<=i:=by have:=of_decide_eq_false h1;omega
  refine SS ?_
  exact W.retFin1 rfl ⟨[],by rw [any_of_take h1' ha];rfl⟩
end Go.Abs

/- The reference: what expressions of a kind have; names of definitions; names that differ. -/
open Go Go.Abs
namespace Go.Abs
set_option maxRecDepth 100000
set_option maxHeartbeats 4000000
instance fnis105:FnIs CC 169:=⟨rfl,fun _=>rfl⟩
def ty142:TyI:={ d:=TyD.st [(0,1),(1,1),(2,1),(3,1),(4,1),(5,1)],sz:=6,bytes:=40,zero:=AV.imm (IV.agg [IV.int IntKind.i64 (0),IV.int IntKind.i64 (0),IV.bool false,IV.bool false,IV.int IntKind.i64 (0),IV.int IntKind.i64 (0)]) }
instance tyis142:TyIs CC 233 ty142:=⟨by kernel_rfl⟩
structure Shp where
 calcs:Nat
 kids:Nat
 name:Bool
 fold:Bool
 low:Int
 high:Int
def shpIV (s:Shp):IV := .agg [.int .i64 s.calcs, .int .i64 s.kids, .bool s.name, .bool s.fold, .int .i64 s.low, .int .i64 s.high]
def shapeR (op:Int):Option Shp:=
 if op=1\/op=2 then some ⟨0,0,true,false,0,0⟩
 else if op=3 then some ⟨0,0,true,false,1,50⟩
 else if op=4 then some ⟨0,2,false,false,0,0⟩
 else if op=5 then some ⟨1,1,false,false,0,0⟩
 else if op=6 then some ⟨2,1,false,false,0,0⟩
 else if op=7 then some ⟨0,1,false,false, -50,50⟩
 else if op=8\/op=11 then some ⟨0,1,false,true,1,50⟩
 else if op=9 then some ⟨0,1,false,true,0,50⟩
 else if op=10 then some ⟨0,1,false,true,0,0⟩
 else if op=12 then some ⟨1,2,false,false,0,50⟩
 else if op=13 then some ⟨1,2,false,false,0,0⟩
 else if op=14 then some ⟨0,2,false,false,0,50⟩
 else if op=15 then some ⟨0,1,false,false,0,0⟩
 else none
def shpRes:Option Shp->IV
 |some s => .tup [shpIV s, .bool true]
 |none => .tup [shpIV ⟨0,0,false,false,0,0⟩, .bool false]
theorem ops15 (op:Int):op=1\/op=2\/op=3\/op=4\/op=5\/op=6\/op=7\/op=8\/op=9\/op=10\/op=11\/op=12\/op=13\/op=14\/op=15 \/
  (op≠1/\op≠2/\op≠3/\op≠4/\op≠5/\op≠6/\op≠7/\op≠8/\op≠9/\op≠10/\op≠11/\op≠12/\op≠13/\op≠14/\op≠15):=by omega
theorem ret105 (op:Int):Ret CC 169 [.int .i64 op] (shpRes (shapeR op)):=by
 rcases ops15 op with rfl|rfl|rfl|rfl|rfl|rfl|rfl|rfl|rfl|rfl|rfl|rfl|rfl|rfl|rfl|⟨n1,n2,n3,n4,n5,n6,n7,n8,n9,n10,n11,n12,n13,n14,n15⟩
 iterate 15 exact Ret.reckon (n:=20) (by kernel_rfl)
 have hs:shapeR op=none:=by unfold shapeR;simp [n1,n2,n3,n4,n5,n6,n7,n8,n9,n10,n11,n12,n13,n14,n15]
 rw [hs]
 have e1:(op==1)=false:=by simpa using n1
 have e2:(op==2)=false:=by simpa using n2
 have e3:(op==3)=false:=by simpa using n3
 have e4:(op==4)=false:=by simpa using n4
 have e5:(op==5)=false:=by simpa using n5
 have e6:(op==6)=false:=by simpa using n6
 have e7:(op==7)=false:=by simpa using n7
 have e8:(op==8)=false:=by simpa using n8
 have e9:(op==9)=false:=by simpa using n9
 have e10:(op==10)=false:=by simpa using n10
 have e11:(op==11)=false:=by simpa using n11
 have e12:(op==12)=false:=by simpa using n12
 have e13:(op==13)=false:=by simpa using n13
 have e14:(op==14)=false:=by simpa using n14
 have e15:(op==15)=false:=by simpa using n15
 refine Ret.of (fn:=Go.Proofs.Tryz.f169) (by kernel_rfl) rfl rfl ?_
 refine W.seq (W.region ?_)
 refine R.op1 (O.alloc (cs:=[.imm (.int .i64 0), .imm (.int .i64 0), .imm (.bool false), .imm (.bool false), .imm (.int .i64 0), .imm (.int .i64 0)]) rfl rfl) rfl ?_
 refine SO ?_
 refine R.op0 (O.build rfl rfl rfl rfl) rfl ?_
 refine R.opN1 (O.storeP rfl rfl rfl rfl rfl rfl) ?_
 refine SO ?_
 exact W.retFinCT rfl rfl rfl rfl rfl ⟨[],rfl⟩
instance fnis97:FnIs CC 126:=⟨rfl,fun _=>rfl⟩
def diff (l:List Str):Bool:=(List.range l.length).all fun i=>nameOk (l.getD i []) && !(l.take i).contains (l.getD i [])
theorem ret97 (l:List Str) (hl:l.length<=9223372036854775807) (hs:∀ s∈l,s.length<=9223372036854775807):Ret CC 126 [.lst (l.map sv)] (.bool (diff l)):=by
 refine Ret.of (fn:=Go.Proofs.Tryz.f126) (by kernel_rfl) rfl rfl ?_
 refine SO ?_
 refine W.loop (X:=Nat) (fun i=>[(0, .imm (.lst (l.map sv))),(3, .imm (.int .i64 i))]) (fun i _ _=>i<=l.length/\∀ j,j < i->(nameOk (l.getD j []) && !(l.take j).contains (l.getD j []))=true) (fun i=>l.length-i) 0 (.cons rfl (.cons rfl (.nil _))) ⟨Nat.zero_le _,fun j hj=>by omega⟩ ?_
 intro i nx G ⟨hi,he⟩
 refine SO ?_
 refine W.cond rfl (fun hc=>?_) (fun hc=>?_)
 ·have hlt:i < l.length:=by have:=of_decide_eq_true hc;rw [List.length_map] at this;omega
  obtain ⟨x,hx⟩:∃ x,l[i]? = some x:=⟨l[i],by simp [hlt]⟩
  have hxd:l.getD i []=x:=by rw [List.getD_eq_getElem?_getD,hx];rfl
  have hxs:=hs x (List.mem_of_getElem? hx)
  have bad:(nameOk x && !(l.take i).contains x)=false->diff l=false:=fun h=>by
   unfold diff
   rw [List.all_eq_false]
   exact ⟨i,by simpa using hlt,by rw [hxd,h];simp⟩
  have e:((l.map sv).take i).drop 0=(l.take i).map sv:=by simp
  have hxm:(l.map sv)[(i:Int).toNat]? = some (sv x):=by simp [hx]
  have hr11:=ret11 x hxs
  have hr39:Ret CC 168 [.lst (((l.map sv).take i).drop 0),sv x] (.bool ((l.take i).contains x)):=by rw [e];exact ret39 _ _ (by simp;omega)
  have hall:(l.map sv).all (fun y=>y.cells.length==ty9.sz)=true:=by
   rw [List.all_eq_true]
   intro y hy
   obtain ⟨z,_,rfl⟩:=List.mem_map.1 hy
   rfl
  have hb:boundE [(18, .imm (.int .i64 (i:Int)))] (l.map sv).length (l.map sv).length (some (.tmp 18))=some i:=by
   show (if (0:Int)<=i/\(i:Int)<=((l.map sv).length:Nat) then some (i:Int).toNat else none)=some i
   rw [if_pos ⟨by omega,by rw [List.length_map];omega⟩,Int.toNat_natCast]
  cases hN:nameOk x with
  |false=>
   rw [hN] at hr11
   refine SO ?_
   refine SOD ?_
   refine D.op0 (O.addrL (u:=sv x) rfl rfl rfl (by omega) hxm rfl) rfl rfl ?_
   refine D.op0 (O.load1 (u:=sv x) rfl hxm rfl rfl rfl) rfl rfl ?_
   refine D.op0 (O.call rfl rfl hr11) rfl rfl ?_
   refine SOD ?_
   refine D.done (by kernel_rfl) ?_
   refine SO ?_
   exact W.retFin1 rfl ⟨[],by rw [bad (by rw [hN];rfl)];rfl⟩
  |true=>
   rw [hN] at hr11
   cases hC:(l.take i).contains x with
   |true=>
    rw [hC] at hr39
    refine SO ?_
    refine SOD ?_
    refine D.op0 (O.addrL (u:=sv x) rfl rfl rfl (by omega) hxm rfl) rfl rfl ?_
    refine D.op0 (O.load1 (u:=sv x) rfl hxm rfl rfl rfl) rfl rfl ?_
    refine D.op0 (O.call rfl rfl hr11) rfl rfl ?_
    refine SOD ?_
    refine D.op0 (O.sliceL (a:=0) rfl rfl hb rfl hall) rfl rfl ?_
    refine SOD ?_
    refine D.op0 (O.addrL (u:=sv x) rfl rfl rfl (by omega) hxm rfl) rfl rfl ?_
    refine SOD ?_
    refine D.op0 (O.load1 (u:=sv x) rfl hxm rfl rfl rfl) rfl rfl ?_
    refine SOD ?_
    refine D.op0 (O.call rfl rfl hr39) rfl rfl ?_
    refine SOD ?_
    refine D.done (by kernel_rfl) ?_
    refine SO ?_
    exact W.retFin1 rfl ⟨[],by rw [bad (by rw [hC];simp)];rfl⟩
   |false=>
    rw [hC] at hr39
    refine SO ?_
    refine SOD ?_
    refine D.op0 (O.addrL (u:=sv x) rfl rfl rfl (by omega) hxm rfl) rfl rfl ?_
    refine D.op0 (O.load1 (u:=sv x) rfl hxm rfl rfl rfl) rfl rfl ?_
    refine D.op0 (O.call rfl rfl hr11) rfl rfl ?_
    refine SOD ?_
    refine D.op0 (O.sliceL (a:=0) rfl rfl hb rfl hall) rfl rfl ?_
    refine SOD ?_
    refine D.op0 (O.addrL (u:=sv x) rfl rfl rfl (by omega) hxm rfl) rfl rfl ?_
    refine SOD ?_
    refine D.op0 (O.load1 (u:=sv x) rfl hxm rfl rfl rfl) rfl rfl ?_
    refine SOD ?_
    refine D.op0 (O.call rfl rfl hr39) rfl rfl ?_
    refine SOD ?_
    refine D.done (by kernel_rfl) ?_
    refine SO ?_
    refine W.skipLop (i+1) ?_ ?_ ⟨hlt,fun j hj=>?_⟩
    ·show l.length-(i+1) < l.length-i;omega
    ·exact .cons rfl (.cons rfl (.nil _))
    ·rcases Nat.lt_or_ge j i with h|h
     ·exact he j h
     ·obtain rfl:j=i:=by omega
      rw [hxd,hN,hC];rfl
 ·have hge:i=l.length:=by have:=of_decide_eq_false hc;rw [List.length_map] at this;omega
  refine SO ?_
  refine W.retFin1 rfl ⟨[],?_⟩
  have:diff l=true:=by
   unfold diff
   rw [List.all_eq_true]
   intro j hj
   exact he j (by simp at hj;omega)
  rw [this];rfl
end Go.Abs

/- The reference: how many nodes an expression has, if it is formed. -/
open Go Go.Abs
namespace Go.Abs
set_option maxRecDepth 100000
set_option maxHeartbeats 4000000
instance fnis98:FnIs CC 127:=⟨rfl,fun _=>rfl⟩
def ty129:TyI:={ d:=TyD.st [(0,1),(1,1),(2,1)],sz:=3,bytes:=56,zero:=AV.agg [AV.nils,AV.nils,AV.imm (IV.int IntKind.i64 (0))] }
instance tyis129:TyIs CC 195 ty129:=⟨by kernel_rfl⟩
mutual
theorem calcR_ge:∀ (c:Trm) (other:Bool) (depth left:Int), -1<=calcR c other depth left
 | .mk op n kids,other,depth,left=>by
  rw [calcR]
  split
  ·omega
  ·split
   ·omega
   ·split
    ·omega
    ·exact calcRs_ge kids other depth left 1 (by omega)
theorem calcRs_ge:∀ (l:List Trm) (other:Bool) (depth left n:Int),0<=n -> -1<=calcRs l other depth left n
 |[],_,_,_,n,h=>by rw [calcRs];omega
 |k::r,other,depth,left,n,h=>by
  rw [calcRs]
  split
  ·omega
  ·exact calcRs_ge r other depth left _ (by omega)
end
def nameIs (srcs defs:List Str) (ahead:Nat) (op:Int) (name:Str):Bool:=
 if op=1 then srcs.contains name else if op=2 then (defs.take ahead).contains name else if op=3 then defs.contains name else true
def foldIs (s:Shp) (fold:Int):Bool:=if s.fold then inR fold 1 4 else fold==0
def other (op:Int):Bool:=op==12||op==13
def headIs (srcs defs:List Str) (ahead:Nat) (s:Shp) (op:Int) (name:Str) (n fold:Int) (nc nk:Nat):Bool:=
 nc==s.calcs&&nk==s.kids&&(s.name == !(name==[]))&&inR n s.low s.high&&foldIs s fold&&nameIs srcs defs ahead op name
mutual
/-- How many nodes an expression has; below 0: it is not formed. -/
def expR (srcs defs:List Str) (ahead:Nat):Exp->Int->Int->Int
 | .mk op name n fold calcs kids,depth,left=>
  match shapeR op with
  |none => -1
  |some s=>
   if depth > 10\/left < 1 then -1 else
   if headIs srcs defs ahead s op name n fold calcs.length kids.length then
    (if calcRs calcs (other op) 0 left 1 < 0 then -1 else expRs srcs defs ahead kids depth left (calcRs calcs (other op) 0 left 1))
   else -1
def expRs (srcs defs:List Str) (ahead:Nat):List Exp->Int->Int->Int->Int
 |[],_,_,n=>n
 |k::r,depth,left,n=>if expR srcs defs ahead k (depth+1) (left-n) < 0 then -1 else expRs srcs defs ahead r depth left (n+expR srcs defs ahead k (depth+1) (left-n))
end
mutual
theorem expR_le (srcs defs:List Str) (ahead:Nat):∀ (e:Exp) (depth left:Int), -1<=expR srcs defs ahead e depth left/\(0<=expR srcs defs ahead e depth left->1<=expR srcs defs ahead e depth left/\expR srcs defs ahead e depth left<=left)
 | .mk op name n fold calcs kids,depth,left=>by
  rw [expR]
  split
  ·omega
  ·split
   ·omega
   ·split
    ·split
     ·omega
     ·rename_i h1 _ h2
      have:=calcRs_le calcs (Go.Abs.other op) 0 left 1 (by omega) (by omega)
      exact expRs_le srcs defs ahead kids depth left _ (by omega)
    ·omega
theorem expRs_le (srcs defs:List Str) (ahead:Nat):∀ (l:List Exp) (depth left n:Int),1<=n/\n<=left -> -1<=expRs srcs defs ahead l depth left n/\(0<=expRs srcs defs ahead l depth left n->1<=expRs srcs defs ahead l depth left n/\expRs srcs defs ahead l depth left n<=left)
 |[],_,_,n,hn=>by rw [expRs];omega
 |k::r,depth,left,n,hn=>by
  rw [expRs]
  split
  ·omega
  ·have h1:=expR_le srcs defs ahead k (depth+1) (left-n)
   exact expRs_le srcs defs ahead r depth left _ (by omega)
end
theorem expRs_drop (srcs defs:List Str) (ahead:Nat) {kids:List Exp} {k:Exp} {i:Nat} (h:kids[i]? = some k) (depth left n:Int) :
  expRs srcs defs ahead (kids.drop i) depth left n=if expR srcs defs ahead k (depth+1) (left-n) < 0 then -1 else expRs srcs defs ahead (kids.drop (i+1)) depth left (n+expR srcs defs ahead k (depth+1) (left-n)):=by
 have:kids.drop i=k::kids.drop (i+1):=by
  rw [List.getElem?_eq_some_iff] at h
  obtain ⟨hi,rfl⟩:=h
  exact List.drop_eq_getElem_cons hi
 rw [this,expRs]
theorem tivs_at {kids:List Trm} {k:Trm} {i:Nat} (h:kids[i]? = some k):(Trm.ivs kids)[(i:Int).toNat]? = some k.iv:=by
 rw [Trm.ivs_map];exact at_map _ h
theorem tivs_len (kids:List Trm):(Trm.ivs kids).length=kids.length:=by rw [Trm.ivs_map,List.length_map]
theorem Trm.cells_len (e:Trm):e.iv.cells.length=3:=by cases e;rfl
theorem ret98 (srcs defs:List Str) (ahead:Nat) (hsl:srcs.length<=9223372036854775807) (hdl:defs.length<=9223372036854775807) (hah:ahead<=defs.length) {e:Exp} (hf:e.Fits):∀ (depth left:Int),(0<=depth/\depth<=1000)->(-1000<=left/\left<=1000) ->
  Ret CC 127 [.agg [.lst (srcs.map sv), .lst (defs.map sv), .int .i64 ahead],e.iv, .int .i64 depth, .int .i64 left] (.int .i64 (expR srcs defs ahead e depth left)):=by
 induction hf with
 |mk op name n fold calcs kids hnm hw hc hk hcs hks ih=>
 intro depth left hd hl
 have hc':calcs.length<=9223372036854775807:=hc
 have hk':kids.length<=9223372036854775807:=hk
 have hlk:=ivs_len kids
 have hlc:=tivs_len calcs
 have hr105:=ret105 op
 have bad:expR srcs defs ahead (.mk op name n fold calcs kids) depth left = -1->Ret CC 127 [.agg [.lst (srcs.map sv), .lst (defs.map sv), .int .i64 ahead],(Exp.mk op name n fold calcs kids).iv, .int .i64 depth, .int .i64 left] (.int .i64 (-1))->Ret CC 127 [.agg [.lst (srcs.map sv), .lst (defs.map sv), .int .i64 ahead],(Exp.mk op name n fold calcs kids).iv, .int .i64 depth, .int .i64 left] (.int .i64 (expR srcs defs ahead (.mk op name n fold calcs kids) depth left)):=fun h hr=>by rw [h];exact hr
 refine Ret.of (fn:=Go.Proofs.Tryz.f127) (by kernel_rfl) rfl rfl ?_
 refine W.seq (W.region ?_)
 refine R.op1 (O.boxS (cs:=[.imm (.lst (srcs.map sv)), .imm (.lst (defs.map sv)), .imm (.int .i64 ahead)]) rfl rfl rfl) rfl ?_
 refine R.op1 (O.boxS (cs:=[.imm (.int .i64 op), .imm (sv name), .imm (.int .i64 n), .imm (.int .i64 fold), .imm (.lst (Trm.ivs calcs)), .imm (.lst (Exp.ivs kids))]) rfl rfl rfl) rfl ?_
 cases hs:shapeR op with
 |none=>
  have hv:expR srcs defs ahead (.mk op name n fold calcs kids) depth left = -1:=by rw [expR,hs]
  rw [hs] at hr105
  rw [hv]
  refine SS ?_
  refine R.op1 (O.alloc (cs:=[.imm (.int .i64 0), .imm (.int .i64 0), .imm (.bool false), .imm (.bool false), .imm (.int .i64 0), .imm (.int .i64 0)]) rfl rfl) rfl ?_
  refine R.opN1 (O.storeP (cs':=(shpIV ⟨0,0,false,false,0,0⟩).cells.map .imm) rfl rfl rfl rfl rfl rfl) ?_
  refine SS ?_
  exact W.retFin1 rfl ⟨[],rfl⟩
 |some s=>
  rw [hs] at hr105
  refine SB ?_
  refine R.op1 (O.alloc (cs:=[.imm (.int .i64 0), .imm (.int .i64 0), .imm (.bool false), .imm (.bool false), .imm (.int .i64 0), .imm (.int .i64 0)]) rfl rfl) rfl ?_
  refine R.opN1 (O.storeP (cs':=(shpIV s).cells.map .imm) rfl rfl rfl rfl rfl rfl) ?_
  have early:(depth > 10\/left < 1)->expR srcs defs ahead (.mk op name n fold calcs kids) depth left = -1:=fun h=>by rw [expR,hs];simp only [if_pos h]
  have hbad:headIs srcs defs ahead s op name n fold calcs.length kids.length=false->expR srcs defs ahead (.mk op name n fold calcs kids) depth left = -1:=fun h=>by
   rw [expR,hs];simp only [h];split<;>rfl
  have hr106:=ret106 n s.low s.high
  have hr106f:=ret106 fold 1 4
  refine SB ?_
  refine W.seq ?_
  refine SB ?_
  rcases Bool.eq_false_or_eq_true (decide (depth > 10)) with hA|hA
  ·refine SS ?_
   exact W.retFin1 rfl ⟨[],by rw [early (.inl (of_decide_eq_true hA))];rfl⟩
  rcases Bool.eq_false_or_eq_true (decide (left < 1)) with hB|hB
  ·refine SS ?_
   exact W.retFin1 rfl ⟨[],by rw [early (.inr (of_decide_eq_true hB))];rfl⟩
  rcases Bool.eq_false_or_eq_true (((Trm.ivs calcs).length:Int) != (s.calcs:Int)) with hC|hC
  ·refine SS ?_
   exact W.retFin1 rfl ⟨[],by rw [hbad (by rw [hlc] at hC;simp at hC;unfold headIs;simp;omega)];rfl⟩
  rcases Bool.eq_false_or_eq_true (((Exp.ivs kids).length:Int) != (s.kids:Int)) with hD|hD
  ·refine SS ?_
   exact W.retFin1 rfl ⟨[],by rw [hbad (by rw [hlk] at hD;simp at hD;unfold headIs;simp;omega)];rfl⟩
  rcases Bool.eq_false_or_eq_true (!(s.name == !(name==[]))) with hE|hE
  ·refine SS ?_
   exact W.retFin1 rfl ⟨[],by rw [hbad (by simp at hE;unfold headIs;simp [hE])];rfl⟩
  rcases Bool.eq_false_or_eq_true (!inR n s.low s.high) with hF|hF
  ·refine SS ?_
   exact W.retFin1 rfl ⟨[],by rw [hbad (by simp at hF;unfold headIs;simp [hF])];rfl⟩
  refine SB ?_
  have hF':inR n s.low s.high=true:=by simpa using hF
  have hE':(s.name == !(name==[]))=true:=by simpa using hE
  have hC':calcs.length=s.calcs:=by rw [hlc] at hC;simp at hC;omega
  have hD':kids.length=s.kids:=by rw [hlk] at hD;simp at hD;omega
  have hfold:foldIs s fold=false->headIs srcs defs ahead s op name n fold calcs.length kids.length=false:=fun h=>by unfold headIs;simp [h]
  have hname:foldIs s fold=true->headIs srcs defs ahead s op name n fold calcs.length kids.length=nameIs srcs defs ahead op name:=fun h=>by
   unfold headIs;rw [hC',hD',hE',hF',h];simp
  clear hE hF hE' hF'
  refine W.cut (X:=Unit) (fun _=>[(4, .ptr 0 0),(5, .ptr 1 0),(9, .ptr 9 0),(2, .imm (.int .i64 depth)),(3, .imm (.int .i64 left)),(10, .imm (.bool true))])
   (fun _ nx G=>G 0 = .box [.imm (.lst (srcs.map sv)), .imm (.lst (defs.map sv)), .imm (.int .i64 ahead)] false/\G 1 = .box [.imm (.int .i64 op), .imm (sv name), .imm (.int .i64 n), .imm (.int .i64 fold), .imm (.lst (Trm.ivs calcs)), .imm (.lst (Exp.ivs kids))] false /\
    G 9 = .box ((shpIV s).cells.map .imm) false/\foldIs s fold=true) ?_ ?_
  ·cases hFo:s.fold with
   |true=>
    have hFn:(!s.fold)=false:=by rw [hFo];rfl
    have hfi:foldIs s fold=inR fold 1 4:=by unfold foldIs;rw [hFo];rfl
    rcases Bool.eq_false_or_eq_true (!inR fold 1 4) with hI|hI
    ·refine SS ?_
     exact W.retFin1 rfl ⟨[],by rw [hbad (hfold (by rw [hfi];simpa using hI))];rfl⟩
    ·refine SS ?_
     exact W.skipCut () .auto ⟨rfl,rfl,rfl,by rw [hfi];simpa using hI⟩
   |false=>
    have hFn:(!s.fold)=true:=by rw [hFo];rfl
    have hfi:foldIs s fold=(fold==0):=by unfold foldIs;rw [hFo];rfl
    rcases Bool.eq_false_or_eq_true (fold != 0) with hI|hI
    ·refine SS ?_
     exact W.retFin1 rfl ⟨[],by rw [hbad (hfold (by rw [hfi];simpa using hI))];rfl⟩
    ·refine SS ?_
     exact W.skipCut () .auto ⟨rfl,rfl,rfl,by rw [hfi];simpa using hI⟩
  rintro _ nx G ⟨hG0,hG1,hG9,hfo⟩
  have hname:=hname hfo
  clear hfold hr105 hr106 hr106f
  refine SB ?_
  refine W.cut (X:=Unit) (fun _=>[(4, .ptr 0 0),(5, .ptr 1 0),(9, .ptr 9 0),(2, .imm (.int .i64 depth)),(3, .imm (.int .i64 left)),(10, .imm (.bool (nameIs srcs defs ahead op name)))])
   (fun _ _ G'=>G' 0 = .box [.imm (.lst (srcs.map sv)), .imm (.lst (defs.map sv)), .imm (.int .i64 ahead)] false/\G' 1 = .box [.imm (.int .i64 op), .imm (sv name), .imm (.int .i64 n), .imm (.int .i64 fold), .imm (.lst (Trm.ivs calcs)), .imm (.lst (Exp.ivs kids))] false /\
    G' 9 = .box ((shpIV s).cells.map .imm) false) ?_ ?_
  ·have h1:=ret39 srcs name hsl
   have h2:=ret39 (defs.take ahead) name (by simp;omega)
   have h3:=ret39 defs name hdl
   by_cases e1:op=1
   ·subst e1
    refine SS ?_
    exact W.skipCut () .auto ⟨hG0,hG1,hG9⟩
   by_cases e2:op=2
   ·subst e2
    have e:((defs.map sv).take ahead).drop 0=(defs.take ahead).map sv:=by simp
    have h2':Ret CC 168 [.lst (((defs.map sv).take ahead).drop 0),sv name] (.bool ((defs.take ahead).contains name)):=by rw [e];exact h2
    have hall:(defs.map sv).all (fun y=>y.cells.length==ty9.sz)=true:=by
     rw [List.all_eq_true]
     intro y hy
     obtain ⟨z,_,rfl⟩:=List.mem_map.1 hy
     rfl
    have hb:boundE [(98, .imm (.int .i64 (ahead:Int)))] (defs.map sv).length (defs.map sv).length (some (.tmp 98))=some ahead:=by
     show (if (0:Int)<=ahead/\(ahead:Int)<=((defs.map sv).length:Nat) then some (ahead:Int).toNat else none)=some ahead
     rw [if_pos ⟨by omega,by rw [List.length_map];omega⟩,Int.toNat_natCast]
    refine SS ?_
    refine D.op0 (O.sliceL (a:=0) rfl rfl hb rfl hall) rfl rfl ?_
    refine SS ?_
    exact W.skipCut () .auto ⟨hG0,hG1,hG9⟩
   by_cases e3:op=3
   ·subst e3
    refine SS ?_
    exact W.skipCut () .auto ⟨hG0,hG1,hG9⟩
   have hn:nameIs srcs defs ahead op name=true:=by unfold nameIs;simp [e1,e2,e3]
   rw [hn]
   have e1':(op==1)=false:=by simpa using e1
   have e2':(op==2)=false:=by simpa using e2
   have e3':(op==3)=false:=by simpa using e3
   refine SS ?_
   exact W.skipCut () .auto ⟨hG0,hG1,hG9⟩
  rintro _ nx G ⟨hG0,hG1,hG9⟩
  have hA':=of_decide_eq_false hA
  have hB':=of_decide_eq_false hB
  have hmk:expR srcs defs ahead (.mk op name n fold calcs kids) depth left=if nameIs srcs defs ahead op name then (if calcRs calcs (other op) 0 left 1 < 0 then -1 else expRs srcs defs ahead kids depth left (calcRs calcs (other op) 0 left 1)) else -1:=by
   rw [expR,hs];simp only [if_neg (show ¬ (depth > 10\/left < 1) by omega),hname]
  generalize hRes:expR srcs defs ahead (.mk op name n fold calcs kids) depth left=res
  rw [hRes] at hmk
  clear early hbad hname hRes bad
  generalize nameIs srcs defs ahead op name=is at hmk
  refine SB ?_
  refine W.cut (X:=Int×Bool) (fun x=>[(4, .ptr 0 0),(5, .ptr 1 0),(9, .ptr 9 0),(2, .imm (.int .i64 depth)),(3, .imm (.int .i64 left)),(11, .imm (.int .i64 x.1)),(10, .imm (.bool x.2))])
   (fun x _ G'=>G' 0 = .box [.imm (.lst (srcs.map sv)), .imm (.lst (defs.map sv)), .imm (.int .i64 ahead)] false/\G' 1 = .box [.imm (.int .i64 op), .imm (sv name), .imm (.int .i64 n), .imm (.int .i64 fold), .imm (.lst (Trm.ivs calcs)), .imm (.lst (Exp.ivs kids))] false /\
    G' 9 = .box ((shpIV s).cells.map .imm) false/\(x.2=true->1<=x.1/\x.1<=left/\res=expRs srcs defs ahead kids depth left x.1)/\(x.2=false->res = -1) /\ -1<=x.1/\x.1<=1000) ?_ ?_
  ·refine SS ?_
   refine W.loop (X:=Nat×Int×Bool) (fun x=>[(4, .ptr 0 0),(5, .ptr 1 0),(9, .ptr 9 0),(2, .imm (.int .i64 depth)),(3, .imm (.int .i64 left)),(12, .imm (.int .i64 x.1)),(11, .imm (.int .i64 x.2.1)),(10, .imm (.bool x.2.2))])
    (fun x _ G'=>G' 0 = .box [.imm (.lst (srcs.map sv)), .imm (.lst (defs.map sv)), .imm (.int .i64 ahead)] false/\G' 1 = .box [.imm (.int .i64 op), .imm (sv name), .imm (.int .i64 n), .imm (.int .i64 fold), .imm (.lst (Trm.ivs calcs)), .imm (.lst (Exp.ivs kids))] false /\
    G' 9 = .box ((shpIV s).cells.map .imm) false/\(x.2.2=true->1<=x.2.1/\x.2.1<=left/\res=if calcRs (calcs.drop x.1) (other op) 0 left x.2.1 < 0 then -1 else expRs srcs defs ahead kids depth left (calcRs (calcs.drop x.1) (other op) 0 left x.2.1))/\(x.2.2=false->res = -1)/\(-1<=x.2.1/\x.2.1<=1000)/\x.1<=calcs.length)
    (fun x=>calcs.length-x.1) (0,1,is) .auto ⟨hG0,hG1,hG9,?_,?_,(by show (-1:Int)<=1/\(1:Int)<=1000;decide),Nat.zero_le _⟩ ?_
   ·intro h
    refine ⟨(by show (1:Int)<=1;decide),(by show (1:Int)<=left;omega),?_⟩
    rw [hmk,if_pos h];rfl
   ·intro h
    dsimp only at h
    rw [hmk,h];rfl
   rintro ⟨i,m,b⟩ nx G ⟨hG0,hG1,hG9,ht,hf,hm,hi⟩
   dsimp only at ht hf hm hi ⊢
   cases b with
   |false=>
    have hf:=hf rfl
    rcases Bool.eq_false_or_eq_true (decide ((i:Int) < (s.calcs:Int))) with hc|hc
    ·refine SS ?_
     exact W.skipCut (m,false) .auto ⟨hG0,hG1,hG9,(fun h=>by cases h),fun _=>hf,hm⟩
    ·refine SS ?_
     exact W.skipCut (m,false) .auto ⟨hG0,hG1,hG9,(fun h=>by cases h),fun _=>hf,hm⟩
   |true=>
    obtain ⟨hm1,hm2,ht⟩:=ht rfl
    rcases Bool.eq_false_or_eq_true (decide ((i:Int) < (s.calcs:Int))) with hc|hc
    ·have hlt:i < calcs.length:=by have:=of_decide_eq_true hc;omega
     obtain ⟨c,hx⟩:=at_lt hlt
     have hxi:=tivs_at hx
     have hr:=ret107 (hcs c (List.mem_of_getElem? hx)) (other op) 1 (left-m) (by omega) (by omega)
     have hge:=calcR_ge c (other op) 1 (left-m)
     have hle:=calcR_le c (other op) 1 (left-m)
     rw [calcRs_drop hx,show (0:Int)+1=1 from rfl] at ht
     have next:(decide (calcR c (other op) 1 (left-m)>=0)=true->1<=m+calcR c (other op) 1 (left-m)/\m+calcR c (other op) 1 (left-m)<=left/\res=if calcRs (calcs.drop (i+1)) (other op) 0 left (m+calcR c (other op) 1 (left-m)) < 0 then -1 else expRs srcs defs ahead kids depth left (calcRs (calcs.drop (i+1)) (other op) 0 left (m+calcR c (other op) 1 (left-m)))) /\
       (decide (calcR c (other op) 1 (left-m)>=0)=false->res = -1)/\(-1<=m+calcR c (other op) 1 (left-m)/\m+calcR c (other op) 1 (left-m)<=1000):=by
      refine ⟨fun h=>?_,fun h=>?_,?_⟩
      ·have h:=of_decide_eq_true h
       have:=hle (by omega)
       rw [if_neg (show ¬ (calcR c (other op) 1 (left-m) < 0) by omega)] at ht
       exact ⟨by omega,by omega,ht⟩
      ·have h:=of_decide_eq_false h
       rw [if_pos (show calcR c (other op) 1 (left-m) < 0 by omega)] at ht
       simpa using ht
      ·rcases Int.lt_or_le (calcR c (other op) 1 (left-m)) 0 with h|h
       ·omega
       ·have:=hle h;omega
     obtain ⟨o',n',k'⟩:=c
     have hmu:calcs.length-(i+1) < calcs.length-i:=by omega
     generalize hoth:other op=oth at hr next hge hle
     generalize hk:calcR (.mk o' n' k') oth 1 (left-m)=r at hr next hge hle
     have hrb:r<=1000:=by rcases Int.lt_or_le r 0 with h|h<;>omega
     rcases Bool.eq_false_or_eq_true (op==12) with h12|h12
     ·have:oth=true:=by rw [<-hoth];unfold other;rw [h12];rfl
      subst this
      refine SS ?_
      refine W.skipLop (i+1,m+r,decide (r>=0)) hmu .auto ⟨hG0,hG1,hG9,next.1,next.2.1,next.2.2,hlt⟩
     ·have:oth=(op==13):=by rw [<-hoth];unfold other;rw [h12];rfl
      subst this
      refine SS ?_
      refine W.skipLop (i+1,m+r,decide (r>=0)) hmu .auto ⟨hG0,hG1,hG9,next.1,next.2.1,next.2.2,hlt⟩
    ·have hge:calcs.length<=i:=by have:=of_decide_eq_false hc;omega
     rw [List.drop_eq_nil_of_le hge,calcRs,if_neg (by omega)] at ht
     refine SS ?_
     exact W.skipCut (m,true) .auto ⟨hG0,hG1,hG9,fun _=>⟨hm1,hm2,ht⟩,(fun h=>by cases h),hm⟩
  rintro ⟨m,is⟩ nx G ⟨hG0,hG1,hG9,ht,hf,hm⟩
  dsimp only at ht hf hm ⊢
  clear hmk
  refine SB ?_
  refine W.cut (X:=Int×Bool) (fun x=>[(11, .imm (.int .i64 x.1)),(10, .imm (.bool x.2))])
   (fun x _ _=>(x.2=true->res=x.1)/\(x.2=false->res = -1)) ?_ ?_
  ·refine SS ?_
   refine W.loop (X:=Nat×Int×Bool) (fun x=>[(4, .ptr 0 0),(5, .ptr 1 0),(9, .ptr 9 0),(2, .imm (.int .i64 depth)),(3, .imm (.int .i64 left)),(14, .imm (.int .i64 x.1)),(11, .imm (.int .i64 x.2.1)),(10, .imm (.bool x.2.2))])
    (fun x _ G'=>G' 0 = .box [.imm (.lst (srcs.map sv)), .imm (.lst (defs.map sv)), .imm (.int .i64 ahead)] false/\G' 1 = .box [.imm (.int .i64 op), .imm (sv name), .imm (.int .i64 n), .imm (.int .i64 fold), .imm (.lst (Trm.ivs calcs)), .imm (.lst (Exp.ivs kids))] false /\
    G' 9 = .box ((shpIV s).cells.map .imm) false/\(x.2.2=true->1<=x.2.1/\x.2.1<=left/\res=expRs srcs defs ahead (kids.drop x.1) depth left x.2.1)/\(x.2.2=false->res = -1)/\(-1<=x.2.1/\x.2.1<=1000)/\x.1<=kids.length)
    (fun x=>kids.length-x.1) (0,m,is) .auto ⟨hG0,hG1,hG9,ht,hf,hm,Nat.zero_le _⟩ ?_
   rintro ⟨i,m,b⟩ nx G ⟨hG0,hG1,hG9,ht,hf,hm,hi⟩
   dsimp only at ht hf hm hi ⊢
   cases b with
   |false=>
    have hf:=hf rfl
    rcases Bool.eq_false_or_eq_true (decide ((i:Int) < (s.kids:Int))) with hc|hc
    ·refine SS ?_
     exact W.skipCut (m,false) .auto ⟨(fun h=>by cases h),fun _=>hf⟩
    ·refine SS ?_
     exact W.skipCut (m,false) .auto ⟨(fun h=>by cases h),fun _=>hf⟩
   |true=>
    obtain ⟨hm1,hm2,ht⟩:=ht rfl
    rcases Bool.eq_false_or_eq_true (decide ((i:Int) < (s.kids:Int))) with hc|hc
    ·have hlt:i < kids.length:=by have:=of_decide_eq_true hc;omega
     obtain ⟨k,hx⟩:=at_lt hlt
     have hxi:=ivs_at hx
     have hr:=ih k (List.mem_of_getElem? hx) (depth+1) (left-m) (by omega) (by omega)
     have hle:=expR_le srcs defs ahead k (depth+1) (left-m)
     rw [expRs_drop srcs defs ahead hx] at ht
     have hmu:kids.length-(i+1) < kids.length-i:=by omega
     generalize hk:expR srcs defs ahead k (depth+1) (left-m)=r at hr hle ht
     have hrb:r<=1000:=by rcases Int.lt_or_le r 0 with h|h<;>omega
     have next:(decide (r>=0)=true->1<=m+r/\m+r<=left/\res=expRs srcs defs ahead (kids.drop (i+1)) depth left (m+r))/\(decide (r>=0)=false->res = -1)/\(-1<=m+r/\m+r<=1000):=by
      refine ⟨fun h=>?_,fun h=>?_,?_⟩
      ·have h:=of_decide_eq_true h
       rw [if_neg (show ¬ (r < 0) by omega)] at ht
       exact ⟨by omega,by omega,ht⟩
      ·have h:=of_decide_eq_false h
       rw [if_pos (show r < 0 by omega)] at ht
       exact ht
      ·rcases Int.lt_or_le r 0 with h|h<;>omega
     obtain ⟨o',s',n',f',c',k'⟩:=k
     refine SS ?_
     refine W.skipLop (i+1,m+r,decide (r>=0)) hmu .auto ⟨hG0,hG1,hG9,next.1,next.2.1,next.2.2,hlt⟩
    ·have hge:kids.length<=i:=by have:=of_decide_eq_false hc;omega
     rw [List.drop_eq_nil_of_le hge,expRs] at ht
     refine SS ?_
     exact W.skipCut (m,true) .auto ⟨fun _=>ht,(fun h=>by cases h)⟩
  rintro ⟨m,is⟩ nx G ⟨ht,hf⟩
  dsimp only at ht hf ⊢
  cases is with
  |false=>
   refine SS ?_
   exact W.retFin1 rfl ⟨[],by rw [hf rfl];rfl⟩
  |true=>
   refine SS ?_
   exact W.retFin1 rfl ⟨[],by rw [ht rfl];rfl⟩
end Go.Abs

/- The reference: how many nodes a program has, if its parts are formed. -/
open Go Go.Abs
namespace Go.Abs
set_option maxRecDepth 100000
set_option maxHeartbeats 4000000
instance fnis65:FnIs CC 65:=⟨rfl,fun _=>rfl⟩
def countL (srcs names:List Str):List Dfn->Nat->Int->Int
 |[],_,n=>n
 |d::r,i,n=>if expR srcs names i d.exp 1 (60-n) < 0 then -1 else countL srcs names r (i+1) (n+expR srcs names i d.exp 1 (60-n))
def countR (p:Pgm):Int:=
 if p.srcs.length < 1\/4 < p.srcs.length\/6 < p.defs.length then -1 else
 if diff (p.srcs++defNames p) then countL p.srcs (defNames p) p.defs 0 0 else -1
theorem countL_drop (srcs names:List Str) {ds:List Dfn} {d:Dfn} {i:Nat} (h:ds[i]? = some d) (n:Int) :
  countL srcs names (ds.drop i) i n=if expR srcs names i d.exp 1 (60-n) < 0 then -1 else countL srcs names (ds.drop (i+1)) (i+1) (n+expR srcs names i d.exp 1 (60-n)):=by
 have:ds.drop i=d::ds.drop (i+1):=by
  rw [List.getElem?_eq_some_iff] at h
  obtain ⟨hi,rfl⟩:=h
  exact List.drop_eq_getElem_cons hi
 rw [this,countL]
theorem peeks_row {G:Nat->Obj} {o n e sz:Nat} {xs:List IV} (h:G o = .row e sz (xs.map .imm) false) (hn:xs.length=n):∃ ids,peeks G [.row o n]=some ([.lst xs],ids):=by
 have ho:Own e sz o (o+1) xs G (.row o n) := .inr ⟨o,Nat.le_refl _,by omega,by rw [hn],h⟩
 obtain ⟨ids,hp⟩:=ho.peek (k:=99)
 have hp':peek G pkDepth (.row o n)=some (.lst xs,ids):=hp
 exact ⟨ids++[],by simp only [peeks,peekL,hp']⟩
theorem O.callRow {C:Cfg} {id:Nat} {l:Env} {G:Nat->Obj} {nx:Nat} {df:List (AV×List AV)} {pk:Pk} {f:FuncId} {ar:List Operand} {ats:Array TypeId} {o n e sz:Nat} {xs:List IV} {ys:List AV} {x:IV} [hf:FnIs C f] (ha:looks l ar=some [.row o n]) (hG:G o = .row e sz ys false) (hn:ys.length=n) (hy:ys=xs.map .imm) (hr:Ret C f [.lst xs] x) (hx:x.scalar=true) :
  OpV C id l G nx df pk (.call { callee := .value (.func f),args:=⟨ar⟩,argTypes:=ats }) (.imm x) []:=by
 subst hy
 obtain ⟨ids,hp⟩:=peeks_row hG (by simpa using hn)
 exact O.callG ha hp hr hx
theorem sv_fits (l:List Str):((l.map sv).map AV.imm).all (AV.fits 1)=true:=by
 rw [List.all_eq_true]
 intro x hx
 simp only [List.mem_map] at hx
 obtain ⟨y,⟨z,_,rfl⟩,rfl⟩:=hx
 rfl
theorem ret65 (p:Pgm) (hp:p.Fits):Ret CC 65 [p.iv] (.int .i64 (countR p)):=by
 have hr96:=ret96 p hp.defs
 obtain ⟨srcs,defs⟩:=p
 have hs:=hp.srcs
 have hd:=hp.defs
 have hnl:(defNames ⟨srcs,defs⟩).length<=7:=by simp [defNames];omega
 have hnl2:defs.length<=6->(defNames ⟨srcs,defs⟩).length=defs.length:=fun h=>by simp [defNames];omega
 have hns:∀ s∈defNames ⟨srcs,defs⟩,s.length<=9223372036854775807:=by
  intro s hs
  simp only [defNames,List.mem_map] at hs
  obtain ⟨d,hd,rfl⟩:=hs
  exact hp.name d (List.mem_of_mem_take hd)
 simp only at hs hd
 unfold maxI at hs hd
 refine Ret.of (fn:=Go.Proofs.Tryz.f65) (by kernel_rfl) rfl rfl ?_
 refine W.seq (W.region ?_)
 refine R.op1 (O.boxS (cs:=[.imm (.lst (srcs.map sv)), .imm (.lst (defs.map Dfn.iv))]) rfl rfl rfl) rfl ?_
 have early:(srcs.length < 1\/4 < srcs.length\/6 < defs.length)->countR ⟨srcs,defs⟩ = -1:=fun h=>by unfold countR;rw [if_pos h]
 refine SB ?_
 refine W.seq ?_
 refine SB ?_
 rcases Bool.eq_false_or_eq_true (decide (((srcs.map sv).length:Int) < 1)) with hA|hA
 ·refine SS ?_
  exact W.retFin1 rfl ⟨[],by rw [early (.inl (by have:=of_decide_eq_true hA;rw [List.length_map] at this;omega))];rfl⟩
 rcases Bool.eq_false_or_eq_true (decide (((srcs.map sv).length:Int) > 4)) with hB|hB
 ·refine SS ?_
  exact W.retFin1 rfl ⟨[],by rw [early (.inr (.inl (by have:=of_decide_eq_true hB;rw [List.length_map] at this;omega)))];rfl⟩
 rcases Bool.eq_false_or_eq_true (decide (((defs.map Dfn.iv).length:Int) > 6)) with hC|hC
 ·refine SS ?_
  exact W.retFin1 rfl ⟨[],by rw [early (.inr (.inr (by have:=of_decide_eq_true hC;rw [List.length_map] at this;omega)))];rfl⟩
 have hsm:(srcs.map sv).length=srcs.length:=List.length_map ..
 have hdm:(defs.map Dfn.iv).length=defs.length:=List.length_map ..
 have hA':=of_decide_eq_false hA
 have hB':=of_decide_eq_false hB
 have hC':=of_decide_eq_false hC
 have hmk:countR ⟨srcs,defs⟩=if diff (srcs++defNames ⟨srcs,defs⟩) then countL srcs (defNames ⟨srcs,defs⟩) defs 0 0 else -1:=by
  unfold countR;rw [if_neg (by simp only;omega)]
 have hnl2:=hnl2 (by omega)
 have hr97:=ret97 (srcs++defNames ⟨srcs,defs⟩) (by rw [List.length_append];omega) (fun s h=>by
  rcases List.mem_append.1 h with h|h
  ·exact hp.src s h
  ·exact hns s h)
 generalize hN:defNames ⟨srcs,defs⟩=names at hr96 hmk hnl hns hnl2 hr97
 rw [hmk]
 refine SB ?_
 refine D.op1 (O.alloc (cs:=[.nils, .nils, .imm (.int .i64 0)]) rfl rfl) rfl rfl ?_
 refine D.opN1 (O.storeP (cs':=[.imm (.lst (srcs.map sv)), .imm (.lst (names.map sv)), .imm (.int .i64 0)]) rfl rfl rfl rfl rfl rfl) rfl ?_
 refine SB ?_
 refine W.seq ?_
 refine SB ?_
 refine D.op1 (O.appNil (ke:=ty9) (ys:=(srcs.map sv).map .imm) rfl rfl rfl rfl rfl (by decide) (by decide) rfl (sv_fits srcs) (by simp [most];omega)) rfl rfl ?_
 refine SD ?_
 refine D.op1 (O.appRow (ke:=ty9) (xs:=(srcs.map sv).map .imm) (ys:=(names.map sv).map .imm) rfl rfl rfl rfl rfl rfl rfl (by decide) (by decide) rfl (sv_fits names) (by simp [most];omega)) rfl rfl ?_
 refine D.op0 (O.callRow (xs:=(srcs++names).map sv) rfl rfl rfl (by simp) hr97 rfl) rfl rfl ?_
 generalize hdf:diff (srcs++names)=df
 cases df with
 |false=>
  refine SS ?_
  exact W.retFin1 rfl ⟨[],rfl⟩
 |true=>
 refine SB ?_
 refine W.seq ?_
 refine SS ?_
 refine W.loop (X:=Nat×Int×Int) (fun x=>[(1, .ptr 0 0),(3, .ptr 23 0),(5, .imm (.int .i64 x.1)),(4, .imm (.int .i64 x.2.1))])
  (fun x _ G=>G 0 = .box [.imm (.lst (srcs.map sv)), .imm (.lst (defs.map Dfn.iv))] false/\G 23 = .box [.imm (.lst (srcs.map sv)), .imm (.lst (names.map sv)), .imm (.int .i64 x.2.2)] false /\
   x.1<=defs.length/\(0<=x.2.1/\x.2.1<=60)/\countL srcs names defs 0 0=countL srcs names (defs.drop x.1) x.1 x.2.1)
  (fun x=>defs.length-x.1) (0,0,0) .auto ⟨rfl,rfl,Nat.zero_le _,(by show (0:Int)<=0/\(0:Int)<=60;decide),rfl⟩ ?_
 rintro ⟨i,n,a⟩ nx G ⟨hG0,hG23,hi,hn,he⟩
 dsimp only at hi hn he hG23 ⊢
 rw [he]
 clear he
 refine SS ?_
 refine W.cond rfl (fun hc=>?_) (fun hc=>?_)
 ·have hlt:i < defs.length:=by have:=of_decide_eq_true hc;omega
  obtain ⟨d,hx⟩:=at_lt hlt
  have hxi:=at_map Dfn.iv hx
  have hdc:=d.cells_len
  have hr:=ret98 srcs names i hs (by omega) (by omega) (hp.exp d (List.mem_of_getElem? hx)) 1 (60-n) (by decide) (by omega)
  have hle:=expR_le srcs names i d.exp 1 (60-n)
  rw [countL_drop srcs names hx]
  have hmu:defs.length-(i+1) < defs.length-i:=by omega
  generalize hk:expR srcs names i d.exp 1 (60-n)=r at hr hle ⊢
  obtain ⟨nm,⟨o',s',n',f',c',k'⟩⟩:=d
  refine SS ?_
  refine R.opN1 (O.storeP (cs':=[.imm (.lst (srcs.map sv)), .imm (.lst (names.map sv)), .imm (.int .i64 i)]) rfl rfl rfl hG23 rfl rfl) ?_
  refine R.gen (P:=fun G _ _=>G 0 = .box [.imm (.lst (srcs.map sv)), .imm (.lst (defs.map Dfn.iv))] false/\G 23 = .box [.imm (.lst (srcs.map sv)), .imm (.lst (names.map sv)), .imm (.int .i64 i)] false) ⟨by rw [upd_ne _ _ _ _ (by omega)];exact hG0,upd_same ..⟩ ?_
  clear hG0 hG23
  rintro G nx base ⟨hG0,hG23⟩
  refine SS ?_
  rcases Bool.eq_false_or_eq_true (decide (r < 0)) with hr0|hr0
  ·rw [if_pos (of_decide_eq_true hr0)]
   refine SS ?_
   exact W.retFin1 rfl ⟨[],rfl⟩
  ·have hr0':=of_decide_eq_false hr0
   rw [if_neg hr0']
   refine SS ?_
   exact W.skipLop (i+1,n+r,(i:Int)) hmu .auto ⟨hG0,hG23,hlt,(by show 0<=n+r/\n+r<=60;omega),rfl⟩
 ·have hge:defs.length<=i:=by have:=of_decide_eq_false hc;omega
  rw [List.drop_eq_nil_of_le hge,countL]
  refine SS ?_
  exact W.retFin1 rfl ⟨[],rfl⟩
end Go.Abs

/- The reference: the definitions that each definition names. -/
open Go Go.Abs
namespace Go.Abs
set_option maxRecDepth 100000
set_option maxHeartbeats 4000000
instance fnis84:FnIs CC 172:=⟨rfl,fun _=>rfl⟩
def ty34:TyI:={ d:=TyD.sl 44,sz:=1,bytes:=24,zero:=AV.nils }
instance tyis34:TyIs CC 35 ty34:=⟨by kernel_rfl⟩
def ty87:TyI:={ d:=TyD.sl 4,sz:=1,bytes:=24,zero:=AV.nils }
instance tyis87:TyIs CC 151 ty87:=⟨by kernel_rfl⟩
def ty88:TyI:={ d:=TyD.sl 151,sz:=1,bytes:=24,zero:=AV.nils }
instance tyis88:TyIs CC 198 ty88:=⟨by kernel_rfl⟩
theorem Own.fits1 {e sz lo hi:Nat} {xs:List IV} {G:Nat->Obj} {v:AV} (h:Own e sz lo hi xs G v):AV.fits 1 v=true:=by
 rcases h with ⟨_,rfl⟩|⟨o,_,_,rfl,_⟩<;>rfl
def namesDef (x:Exp):Bool:=x.op==2||x.op==3
def stepsL (names:List Str) (l:List Exp):List Int:=(l.filter namesDef).map fun x=>idxFrom names x.name 0
def intIV (n:Int):IV := .int .i64 n
def intsIV (l:List Int):IV := .lst (l.map intIV)
def stepsR (p:Pgm):List (List Int):=p.defs.map fun d=>stepsL (defNames p) (allE d.exp)
theorem stepsL_take {names:List Str} {l:List Exp} {x:Exp} {i:Nat} (h:l[i]? = some x):stepsL names (l.take (i+1))=stepsL names (l.take i)++(if namesDef x then [idxFrom names x.name 0] else []):=by
 unfold stepsL
 rw [List.take_add_one,h,List.filter_append,List.map_append]
 congr 1
 simp only [Option.toList,List.filter_cons,List.filter_nil]
 split<;>rfl
theorem stepsL_len (names:List Str) (l:List Exp):(stepsL names l).length<=l.length:=by
 unfold stepsL;rw [List.length_map];exact List.length_filter_le ..
theorem ret84 (p:Pgm) (hp:p.Fits) (hd6:p.defs.length<=6) (hsz:∀ d∈p.defs,(allE d.exp).length<=1000):Ret CC 172 [p.iv] (.lst ((stepsR p).map intsIV)):=by
 have hr96:=ret96 p hp.defs
 have hnl:(defNames p).length<=7:=by simp [defNames];omega
 unfold stepsR
 generalize defNames p=names at hr96 hnl ⊢
 obtain ⟨srcs,defs⟩:=p
 simp only at hd6 hsz ⊢
 have hdm:(defs.map Dfn.iv).length=defs.length:=List.length_map ..
 refine Ret.of (fn:=Go.Proofs.Tryz.f172) (by kernel_rfl) rfl rfl ?_
 refine W.seq (W.region ?_)
 refine R.op1 (O.boxS (cs:=[.imm (.lst (srcs.map sv)), .imm (.lst (defs.map Dfn.iv))]) rfl rfl rfl) rfl ?_
 refine SS ?_
 refine W.loop (X:=Nat×AV) (fun x=>[(1, .ptr 0 0),(4, .imm (.lst (names.map sv))),(5, .imm (.int .i64 x.1)),(3,x.2)])
  (fun x nx G=>G 0 = .box [.imm (.lst (srcs.map sv)), .imm (.lst (defs.map Dfn.iv))] false/\x.1<=defs.length/\1<=nx/\OwnV 1 44 1 1 nx (((defs.take x.1).map fun d=>stepsL names (allE d.exp)).map intsIV) G x.2) (fun x=>defs.length-x.1) (0, .nils)
  .auto ⟨rfl,Nat.zero_le _,by simp, .inl ⟨rfl,rfl⟩⟩ ?_
 rintro ⟨i,v⟩ hi0 G ⟨hB,hi,hnx,ho⟩
 dsimp only at hi ho ⊢
 refine SS ?_
 refine W.cond rfl (fun h1=>?_) (fun h1=>?_)
 ·have h1':i < defs.length:=by have:=of_decide_eq_true h1;omega
  obtain ⟨d,hx⟩:=at_lt h1'
  have hxi:=at_map Dfn.iv hx
  have hdc:=d.cells_len
  have hdm:=List.mem_of_getElem? hx
  have hr58:=ret58 (hp.exp d hdm) (by have:=hsz d hdm;omega)
  have hle:=hsz d hdm
  have htake:((defs.take (i+1)).map fun d=>stepsL names (allE d.exp))=((defs.take i).map fun d=>stepsL names (allE d.exp))++[stepsL names (allE d.exp)]:=by
   rw [List.take_add_one,hx];simp
  generalize allE d.exp=nodes at hr58 hle htake
  have hnm:(Exp.ivs nodes).length=nodes.length:=ivs_len nodes
  obtain ⟨nm,⟨o',s',n',f',c',k'⟩⟩:=d
  have hmu:defs.length-(i+1) < defs.length-i:=by omega
  refine SS ?_
  refine W.loop (X:=Nat×AV) (fun x=>[(1, .ptr 0 0),(4, .imm (.lst (names.map sv))),(5, .imm (.int .i64 i)),(3,v),(7, .imm (.lst (Exp.ivs nodes))),(8, .imm (.int .i64 x.1)),(6,x.2)])
   (fun x nx G=>G 0 = .box [.imm (.lst (srcs.map sv)), .imm (.lst (defs.map Dfn.iv))] false/\OwnV 1 44 1 1 hi0 (((defs.take i).map fun d=>stepsL names (allE d.exp)).map intsIV) G v/\x.1<=nodes.length/\hi0<=nx/\Own 3 1 hi0 nx ((stepsL names (nodes.take x.1)).map intIV) G x.2) (fun x=>nodes.length-x.1) (0, .nils)
   .auto ⟨hB,ho,Nat.zero_le _,by omega, .inl ⟨rfl,rfl⟩⟩ ?_
  clear hB ho
  rintro ⟨k,t⟩ nx G ⟨hB,ho,hk,hnx2,ht⟩
  dsimp only at hk ht ⊢
  refine SS ?_
  refine W.cond rfl (fun h2=>?_) (fun h2=>?_)
  ·have h2':k < nodes.length:=by have:=of_decide_eq_true h2;omega
   obtain ⟨x,hx2⟩:=at_lt h2'
   have hxi2:=ivs_at hx2
   have hr69:=ret69 names x.name (by omega)
   have hst:=stepsL_take (names:=names) hx2
   have hmu2:nodes.length-(k+1) < nodes.length-k:=by omega
   have hlen:=stepsL_len names (nodes.take k)
   rw [List.length_take] at hlen
   obtain ⟨op,s',n',f',c',k'⟩:=x
   have hcase:((op==2)=true\/((op==2)=false/\(op==3)=true))\/((op==2)=false/\(op==3)=false):=by
    cases op==2<;>cases op==3<;>simp
   rcases hcase with hyes|⟨hA,hB3⟩
   ·have hy:namesDef (.mk op s' n' f' c' k')=true:=by show (op==2||op==3)=true;rcases hyes with h|⟨h,h'⟩<;>rw [h]<;>first|rfl|(rw [h'];rfl)
    rw [hy,if_pos rfl] at hst
    rcases hyes with hA|⟨hA,hB3⟩
    iterate 2
     ·refine SS ?_
      refine R.op1 (O.buildS (n:=1) (ke:=ty3) (xs:=[.imm (.int .i64 (idxFrom names s' 0))]) rfl rfl rfl (by decide) rfl rfl (by decide)) rfl ?_
      refine R.appOwn (lo:=hi0) (ys:=[intIV (idxFrom names s' 0)]) rfl rfl rfl (ht.upd (by omega) (by omega)) rfl (by simp [elems,upd];rfl) (by decide) (by decide) rfl (by simp [intIV];rfl) (by simp only [List.length_map,List.length_cons,List.length_nil,most];omega) ⟨by omega,by simp only [List.length_cons,List.length_nil];omega⟩ rfl fun v' G' ho' hG'=>?_
      have hfr:∀ o,o < hi0->G' o=G o:=fun o h=>by rw [hG' o h,upd_ne _ _ _ _ (by omega)]
      refine SS ?_
      refine W.skipLop (k+1,v') hmu2 .auto ⟨by rw [hfr 0 (by omega)];exact hB,ho.frame (Nat.le_refl _) fun o _ h=>hfr o h,h2',by omega,?_⟩
      show Own 3 1 hi0 _ ((stepsL names (nodes.take (k+1))).map intIV) G' v'
      rw [hst,List.map_append]
      exact ho'.up (by omega)
   ·have hy:namesDef (.mk op s' n' f' c' k')=false:=by show (op==2||op==3)=false;rw [hA,hB3];rfl
    rw [hy,if_neg (by decide),List.append_nil] at hst
    refine SS ?_
    refine W.skipLop (k+1,t) hmu2 .auto ⟨hB,ho,h2',by omega,?_⟩
    show Own 3 1 hi0 _ ((stepsL names (nodes.take (k+1))).map intIV) _ t
    rw [hst]
    exact ht.up (by omega)
  ·have h2':nodes.length<=k:=by have:=of_decide_eq_false h2;omega
   rw [List.take_of_length_le h2'] at ht
   have hfit:=ht.fits1
   refine SS ?_
   refine R.op1 (O.buildS (n:=1) (ke:=ty30) (xs:=[t]) rfl rfl rfl (by decide) rfl (by show ([t].all (AV.fits 1))=true;simp [hfit]) (by decide)) rfl ?_
   refine R.appOwnV (d':=1) (lo:=1) (hi:=hi0) (ws:=[t]) (ys:=[intsIV (stepsL names nodes)]) rfl rfl rfl (ho.frame (Nat.le_refl _) fun o _ h=>upd_ne _ _ _ _ (by omega)) rfl (by simp [elems,upd]) (by decide) (by decide) rfl (by show ([t].all (AV.fits 1))=true;simp [hfit]) (by simp only [List.length_map,List.length_take,List.length_cons,List.length_nil,most];omega) ⟨by omega,by omega⟩ (fun G' h1 h2=>⟨?_,trivial⟩) rfl fun v' G' ho' hG1 hG2=>?_
   ·exact ht.rdx.frame (fun o ho=>by rw [h2 o ho.1 (by omega),upd_ne _ _ _ _ (by omega)]) fun o ho=>⟨ho.1,by omega⟩
   ·have hB':G' 0 = .box [.imm (.lst (srcs.map sv)), .imm (.lst (defs.map Dfn.iv))] false:=by rw [hG1 0 (by omega),upd_ne _ _ _ _ (by omega)];exact hB
    refine SS ?_
    refine W.skipLop (i+1,v') hmu .auto ⟨hB',h1',by omega,?_⟩
    show OwnV 1 44 1 1 _ (((defs.take (i+1)).map fun d=>stepsL names (allE d.exp)).map intsIV) G' v'
    rw [htake,List.map_append]
    exact ho'.frame (by simp only [List.length_cons,List.length_nil];omega) fun _ _ _=>rfl
 ·have h1':defs.length<=i:=by have:=of_decide_eq_false h1;omega
  refine SS ?_
  refine W.retFin1 rfl ?_
  rw [List.take_of_length_le h1'] at ho
  exact ho.rdx.peek (by decide)
end Go.Abs

/- What a graph's nodes reach; how it is found. (No program in sight.) -/
namespace Go.Abs
inductive Reach (tos:List (List Nat)) (i:Nat):Nat->Prop where
 |one {j:Nat} (h:j∈tos.getD i []):Reach tos i j
 |more {k j:Nat} (h:Reach tos i k) (hj:j∈tos.getD k []):Reach tos i j
open Classical in
noncomputable def reachB (tos:List (List Nat)) (i j:Nat):Bool:=decide (Reach tos i j)
theorem reachB_iff {tos:List (List Nat)} {i j:Nat}:reachB tos i j=true↔Reach tos i j:=by unfold reachB;simp
noncomputable def reachRow (tos:List (List Nat)) (n i:Nat):List Bool:=(List.range n).map (reachB tos i)
structure Bfs (tos:List (List Nat)) (n i k:Nat) (b:List Bool) (T:List Nat):Prop where
 len:b.length=n
 bnd:∀ x∈T,x < n
 sndT:∀ x∈T,Reach tos i x
 sndB:∀ j,b[j]? = some true->Reach tos i j
 start:∀ j∈tos.getD i [],j∈T
 clos:∀ j,b[j]? = some true->∀ m∈tos.getD j [],m∈T
 seen:∀ m x,m < k->T[m]? = some x->b[x]? = some true
 kle:k<=T.length
 size:T.length+1000*b.count false<=1000*(n+1)
theorem Bfs.init {tos:List (List Nat)} {n i:Nat} (hl:(tos.getD i []).length<=1000) (hb:∀ x∈tos.getD i [],x < n):Bfs tos n i 0 (List.replicate n false) (tos.getD i []) where
 len:=by simp
 bnd:=hb
 sndT x h := .one h
 sndB j h:=by simp [List.getElem?_replicate] at h
 start j h:=h
 clos j h:=by simp [List.getElem?_replicate] at h
 seen m x h:=by omega
 kle:=Nat.zero_le _
 size:=by rw [List.count_replicate];simp only [beq_self_eq_true,if_true];omega
theorem Bfs.skip {tos:List (List Nat)} {n i k x:Nat} {b:List Bool} {T:List Nat} (h:Bfs tos n i k b T) (hx:T[k]? = some x) (hb:b[x]? = some true):Bfs tos n i (k+1) b T:=
 { h with
  kle:=by
   have:=(List.getElem?_eq_some_iff.1 hx).1
   omega
  seen:=fun m y hm hy=>by
   rcases Nat.lt_or_ge m k with hlt|hge
   ·exact h.seen m y hlt hy
   ·obtain rfl:m=k:=by omega
    rw [hx] at hy;cases hy;exact hb }
theorem Bfs.step {tos:List (List Nat)} {n i k x:Nat} {b:List Bool} {T:List Nat} (h:Bfs tos n i k b T) (hx:T[k]? = some x) (hb:b[x]? = some false) (hl:(tos.getD x []).length<=1000) (hbd:∀ y∈tos.getD x [],y < n) :
  Bfs tos n i (k+1) (b.set x true) (T++tos.getD x []):=by
 have hxT:=List.mem_of_getElem? hx
 have hxb:x < b.length:=(List.getElem?_eq_some_iff.1 hb).1
 have hkT:=(List.getElem?_eq_some_iff.1 hx).1
 have hset:∀ j,(b.set x true)[j]? = some true->j=x\/b[j]? = some true:=by
  intro j hj
  rw [List.getElem?_set] at hj
  split at hj
  ·rename_i e;exact .inl e.symm
  ·exact .inr hj
 have hcnt:(b.set x true).count false+1=b.count false:=by
  rw [List.count_set hxb]
  have e:b[x]=false:=by
   rw [List.getElem?_eq_getElem hxb] at hb
   exact Option.some.inj hb
  have hpos:0 < b.count false:=List.count_pos_iff.2 (e▸List.getElem_mem hxb)
  rw [e]
  simp
  omega
 exact {
  len:=by simp [h.len]
  bnd:=fun y hy=>(List.mem_append.1 hy).elim (h.bnd y) (hbd y)
  sndT:=fun y hy=>(List.mem_append.1 hy).elim (h.sndT y) fun hy => .more (h.sndT x hxT) hy
  sndB:=fun j hj=>(hset j hj).elim (fun e=>e▸h.sndT x hxT) (h.sndB j)
  start:=fun j hj=>List.mem_append.2 (.inl (h.start j hj))
  clos:=fun j hj m hm=>by
   rcases hset j hj with rfl|hj
   ·exact List.mem_append.2 (.inr hm)
   ·exact List.mem_append.2 (.inl (h.clos j hj m hm))
  seen:=fun m y hm hy=>by
   rw [List.getElem?_set]
   have hmT:m < T.length:=by omega
   rw [List.getElem?_append_left hmT] at hy
   rcases Nat.lt_or_ge m k with hlt|hge
   ·have:=h.seen m y hlt hy
    split
    ·simp
    ·exact this
   ·obtain rfl:m=k:=by omega
    rw [hx] at hy;cases hy
    simp [hxb]
  kle:=by simp;omega
  size:=by
   have:=h.size
   simp only [List.length_append]
   omega }
theorem Bfs.mu {tos:List (List Nat)} {x:Nat} {b:List Bool} {T:List Nat} {k:Nat} (hx:T[k]? = some x) (hb:b[x]? = some false) (hl:(tos.getD x []).length<=1000) :
  1000*(b.set x true).count false+(T++tos.getD x []).length-(k+1) < 1000*b.count false+T.length-k:=by
 have hxb:x < b.length:=(List.getElem?_eq_some_iff.1 hb).1
 have hkT:=(List.getElem?_eq_some_iff.1 hx).1
 have hcnt:(b.set x true).count false+1=b.count false:=by
  rw [List.count_set hxb]
  have e:b[x]=false:=by
   rw [List.getElem?_eq_getElem hxb] at hb
   exact Option.some.inj hb
  have hpos:0 < b.count false:=List.count_pos_iff.2 (e▸List.getElem_mem hxb)
  rw [e]
  simp
  omega
 simp only [List.length_append]
 omega
theorem Bfs.fin {tos:List (List Nat)} {n i k:Nat} {b:List Bool} {T:List Nat} (h:Bfs tos n i k b T) (hk:T.length<=k):b=reachRow tos n i:=by
 have hall:∀ x∈T,b[x]? = some true:=fun x hx=>by
  obtain ⟨m,hm,rfl⟩:=List.mem_iff_getElem.1 hx
  exact h.seen m _ (by omega) (List.getElem?_eq_getElem hm)
 have hr:∀ j,Reach tos i j->j∈T:=by
  intro j hj
  induction hj with
  |one hj=>exact h.start _ hj
  |more hk hj ih=>exact h.clos _ (hall _ ih) _ hj
 apply List.ext_getElem?
 intro j
 unfold reachRow
 rw [List.getElem?_map]
 rcases Nat.lt_or_ge j n with hj|hj
 ·rw [List.getElem?_range hj]
  have hjb:j < b.length:=by rw [h.len];exact hj
  rw [List.getElem?_eq_getElem hjb]
  simp only [Option.map_some,Option.some.injEq]
  cases hv:b[j] with
  |true=>exact (reachB_iff.2 (h.sndB j (by rw [List.getElem?_eq_getElem hjb,hv]))).symm
  |false=>
   cases hq:reachB tos i j with
   |false=>rfl
   |true=>
    have:=hall j (hr j (reachB_iff.1 hq))
    rw [List.getElem?_eq_getElem hjb,hv] at this
    cases this
 ·rw [List.getElem?_eq_none (by rw [h.len];exact hj),List.getElem?_eq_none (by simpa using hj)]
  rfl
end Go.Abs

/- The reference: which definitions each one reaches. -/
open Go Go.Abs
namespace Go.Abs
set_option maxRecDepth 100000
set_option maxHeartbeats 4000000
instance fnis53:FnIs CC 128:=⟨rfl,fun _=>rfl⟩
def natIV (n:Nat):IV := .int .i64 n
def natsIV (l:List Nat):IV := .lst (l.map natIV)
def boolsIV (l:List Bool):IV := .lst (l.map .bool)
noncomputable def reachR (tos:List (List Nat)):List (List Bool):=(List.range tos.length).map (reachRow tos tos.length)
theorem R.gen' {C:Cfg} {nt:Nat} {ol r:List Oper} {base i:Nat} {l:Env} {G:Nat->Obj} {nx:Nat} {df:List (AV×List AV)} {pk:Pk} {Φ:Out->Prop} (P:(Nat->Obj)->Prop) (h0:P G) (h:∀ G,P G->R C nt ol base i r l G nx df pk Φ):R C nt ol base i r l G nx df pk Φ:=h _ h0
theorem W.gen' {C:Cfg} {fid nt:Nat} {b:Code} {l:Env} {G:Nat->Obj} {nx:Nat} {df:List (AV×List AV)} {pk:Pk} {Φ:Out->Prop} (P:(Nat->Obj)->Prop) (h0:P G) (h:∀ G,P G->W C fid nt b l G nx df pk Φ):W C fid nt b l G nx df pk Φ:=h _ h0
theorem mid_at {α:Type} {d:List α} {x:α} {r:List α} {i:Nat} (h:d.length=i):(d++x::r)[i]? = some x:=by
 subst h;simp
theorem mid_set {α:Type} {d:List α} {x y:α} {r:List α} {i:Nat} (h:d.length=i):(d++x::r).set i y=d++y::r:=by
 subst h;simp
theorem ret53 (p:Pgm) (hp:p.Fits) (hd6:p.defs.length<=6) (hsz:∀ d∈p.defs,(allE d.exp).length<=1000) (tos:List (List Nat)) (hto:stepsR p=tos.map fun t=>t.map Int.ofNat) (hlen:∀ t∈tos,t.length<=1000) (hbd:∀ t∈tos,∀ x∈t,x < tos.length) :
  Ret CC 128 [p.iv] (.lst ((reachR tos).map boolsIV)):=by
 have hr84:=ret84 p hp hd6 hsz
 have hn:p.defs.length=tos.length:=by
  have:=congrArg List.length hto
  simpa [stepsR] using this
 rw [hto] at hr84
 have hiv:(tos.map fun t=>t.map Int.ofNat).map intsIV=tos.map natsIV:=by
  rw [List.map_map]
  apply List.map_congr_left
  intro t _
  simp only [Function.comp,intsIV,natsIV,List.map_map]
  rfl
 rw [hiv] at hr84
 clear hto hiv hsz
 have hgetl:∀ i,(tos.getD i []).length<=1000:=fun i=>by
  rw [List.getD_eq_getElem?_getD]
  cases h:tos[i]? with
  |none=>simp
  |some t=>exact hlen t (List.mem_of_getElem? h)
 have hgetb:∀ i,∀ x∈tos.getD i [],x < tos.length:=fun i=>by
  rw [List.getD_eq_getElem?_getD]
  cases h:tos[i]? with
  |none=>simp
  |some t=>exact hbd t (List.mem_of_getElem? h)
 obtain ⟨srcs,defs⟩:=p
 simp only at hn hd6
 have hdm:(defs.map Dfn.iv).length=tos.length:=by rw [List.length_map,hn]
 unfold reachR
 generalize htn:tos.length=n at *
 refine Ret.of (fn:=Go.Proofs.Tryz.f128) (by kernel_rfl) rfl rfl ?_
 refine W.seq (W.region ?_)
 refine R.op1 (O.boxS (cs:=[.imm (.lst (srcs.map sv)), .imm (.lst (defs.map Dfn.iv))]) rfl rfl rfl) rfl ?_
 refine SS ?_
 rw [hdm]
 refine R.op1 (O.makeSlice (ke:=ty87) rfl inferInstance rfl rfl ⟨by omega,Int.le_refl _,by unfold most;omega⟩ (by decide) rfl (by decide)) rfl ?_
 refine SS ?_
 refine W.loop (X:=Nat) (fun i=>[(3, .imm (.int .i64 n)),(4, .imm (.lst (tos.map natsIV))),(5, .row 10 n),(6, .imm (.int .i64 i))])
  (fun i nx G=>11<=nx/\i<=n/\∃ done,G 10 = .row 151 1 (done++List.replicate (n-i) .nils) false/\All2 (Rdx 1 G (fun o=>11<=o/\o < nx)) done (((List.range i).map (reachRow tos n)).map boolsIV)) (fun i=>n-i) 0
  .auto ⟨by decide,Nat.zero_le _,[],?_,trivial⟩ ?_
 ·rfl
 rintro i nx G ⟨hnx,hi,done,hG,hdone⟩
 have hdl:done.length=i:=by rw [hdone.length];simp
 refine SS ?_
 refine W.cond rfl (fun h1=>?_) (fun h1=>?_)
 ·have h1':i < n:=by have:=of_decide_eq_true h1;omega
  have hrep:List.replicate (n-i) AV.nils = .nils::List.replicate (n-(i+1)) .nils:=by
   rw [show n-i=n-(i+1)+1 by omega,List.replicate_succ]
  rw [hrep] at hG
  refine SS ?_
  refine R.op1 (O.makeSlice (ke:=ty4) rfl inferInstance rfl rfl ⟨by omega,Int.le_refl _,by unfold most;omega⟩ (by decide) rfl (by decide)) rfl ?_
  refine R.gen' (fun G'=>G' (nx+6) = .row 4 1 ((List.replicate n false).map fun b => .imm (.bool b)) false/\G' 10 = .row 151 1 (done ++ .nils::List.replicate (n-(i+1)) .nils) false/\∀ o,o < nx->G' o=G o) ⟨?_,?_,?_⟩ ?_
  ·show upd G (nx+6) _ (nx+6)=_
   rw [upd_same,List.map_replicate];rfl
  ·show upd G (nx+6) _ 10=_
   rw [upd_ne _ _ _ _ (by omega)];exact hG
  ·intro o ho
   show upd G (nx+6) _ o=_
   rw [upd_ne _ _ _ _ (by omega)]
  rintro G' ⟨hGi,hG10,hfr⟩
  have hml:(done++AV.nils::List.replicate (n-(i+1)) .nils).length=n:=by simp;omega
  refine SS ?_
  refine R.opN1 (O.storeR (v := .row (nx+6) n) rfl rfl rfl rfl hG10 hml (mid_at hdl) rfl rfl) ?_
  refine R.gen' (fun G'=>G' (nx+6) = .row 4 1 ((List.replicate n false).map fun b => .imm (.bool b)) false/\G' 10 = .row 151 1 (done ++ .row (nx+6) n::List.replicate (n-(i+1)) .nils) false/\∀ o,o < nx->o≠10->G' o=G o) ⟨?_,?_,?_⟩ ?_
  ·rw [upd_ne _ _ _ _ (by omega)];exact hGi
  ·rw [upd_same,Int.toNat_natCast,mid_set hdl]
  ·intro o ho h10
   rw [upd_ne _ _ _ _ h10];exact hfr o ho
  clear hGi hG10 hfr hG G'
  rintro G' ⟨hGi,hG10,hfr⟩
  have hdone':All2 (Rdx 1 G' (fun o=>11<=o/\o < nx)) done (((List.range i).map (reachRow tos n)).map boolsIV):=hdone.imp fun _ _ h=>h.frame (fun o ho=>hfr o ho.2 (by omega)) fun _ h=>h
  clear hdone hfr
  obtain ⟨t,hx⟩:∃ t,tos[i]? = some t:=at_lt (by omega)
  have hxi:=at_map natsIV hx
  have hti:tos.getD i []=t:=by rw [List.getD_eq_getElem?_getD,hx];rfl
  have htl:=hgetl i
  have hinit:=Bfs.init (n:=n) (hgetl i) (hgetb i)
  rw [hti] at hinit htl
  have hmu:n-(i+1) < n-i:=by omega
  refine SS ?_
  refine R.appOwn (lo:=nx+7) (xs:=[]) (ys:=t.map natIV) rfl rfl rfl (.inl ⟨rfl,rfl⟩) rfl rfl (by decide) (by decide) rfl ?_ (by simp only [List.length_map,List.length_nil,most];omega) ⟨?_,?_⟩ rfl fun v' G'' ho' hfr'=>?_
  ·intro y hy
   obtain ⟨z,_,rfl⟩:=List.mem_map.1 hy
   rfl
  ·simp only [List.length_cons,List.length_nil];omega
  ·simp only [List.length_cons,List.length_nil];omega
  rw [List.nil_append] at ho'
  have hdone'':All2 (Rdx 1 G'' (fun o=>11<=o/\o < nx)) done (((List.range i).map (reachRow tos n)).map boolsIV):=hdone'.imp fun _ _ h=>h.frame (fun o ho=>hfr' o (by omega)) fun _ h=>h
  have hGi'':=hfr' (nx+6) (by omega)
  rw [hGi] at hGi''
  have hG10'':=hfr' 10 (by omega)
  rw [hG10] at hG10''
  clear hdone' hGi hG10 hfr' G'
  refine SS ?_
  have hdl:done.length=i:=hdl
  refine W.loop (X:=Nat×AV×List Bool×List Nat) (fun x=>[(3, .imm (.int .i64 n)),(4, .imm (.lst (tos.map natsIV))),(5, .row 10 n),(6, .imm (.int .i64 i)),(7,x.2.1),(8, .imm (.int .i64 x.1))])
   (fun x nx2 G=>nx+7<=nx2/\G 10 = .row 151 1 (done ++ .row (nx+6) n::List.replicate (n-(i+1)) .nils) false/\All2 (Rdx 1 G (fun o=>11<=o/\o < nx)) done (((List.range i).map (reachRow tos n)).map boolsIV) /\
    G (nx+6) = .row 4 1 (x.2.2.1.map fun b => .imm (.bool b)) false/\Own 3 1 (nx+7) nx2 (x.2.2.2.map natIV) G x.2.1/\Bfs tos n i x.1 x.2.2.1 x.2.2.2) (fun x=>1000*x.2.2.1.count false+x.2.2.2.length-x.1) (0,v',List.replicate n false,t)
   .auto ⟨?_,hG10'',hdone'',hGi'',ho'.up ?_,hinit⟩ ?_
  ·simp only [List.length_cons,List.length_nil];omega
  ·simp only [List.length_cons,List.length_nil];omega
  clear ho' hG10'' hdone'' hGi'' hinit hxi
  rintro ⟨k,tv,b,T⟩ nx2 G ⟨hnx2,hG10,hdone,hGi,hT,hb⟩
  dsimp only at hGi hT hb ⊢
  have hTl:(T.map natIV).length=T.length:=List.length_map ..
  refine SS ?_
  refine W.cond rfl (fun h2=>?_) (fun h2=>?_)
  ·have h2':k < T.length:=by have:=of_decide_eq_true h2;omega
   obtain ⟨x,hxk⟩:=at_lt h2'
   have hxn:=hb.bnd x (List.mem_of_getElem? hxk)
   obtain ⟨bx,hbx⟩:∃ bx,b[x]? = some bx:=at_lt (by rw [hb.len];exact hxn)
   rcases hT with ⟨hTn,_⟩|⟨ot,ho1,ho2,rfl,hGt⟩
   ·rw [hTn] at hTl;simp at hTl;omega
   have f1:(done++AV.row (nx+6) n::List.replicate (n-(i+1)) .nils)[(i:Int).toNat]? = some (.row (nx+6) n):=by rw [Int.toNat_natCast];exact mid_at hdl
   have f2:(done++AV.row (nx+6) n::List.replicate (n-(i+1)) .nils).length=n:=by simp;omega
   have f3:((T.map natIV).map AV.imm)[(k:Int).toNat]? = some (.imm (natIV x)):=by rw [Int.toNat_natCast,List.getElem?_map,List.getElem?_map,hxk];rfl
   have f4:((T.map natIV).map AV.imm).length=(T.map natIV).length:=List.length_map ..
   have f5:(b.map fun b=>AV.imm (.bool b))[(x:Int).toNat]? = some (.imm (.bool bx)):=by rw [Int.toNat_natCast,List.getElem?_map,hbx];rfl
   have f6:(b.map fun b=>AV.imm (.bool b)).length=n:=by rw [List.length_map];exact hb.len
   have hTb:T.length<=7000:=by have:=hb.size;omega
   cases bx with
   |true=>
    refine SS ?_
    refine W.skipLop (k+1, .row ot (T.map natIV).length,b,T) ?_ .auto ⟨by omega,hG10,hdone,hGi, .inr ⟨ot,ho1,by omega,rfl,hGt⟩,hb.skip hxk hbx⟩
    show 1000*b.count false+T.length-(k+1) < 1000*b.count false+T.length-k
    omega
   |false=>
    obtain ⟨t2,hx2⟩:∃ t2,tos[x]? = some t2:=at_lt (by omega)
    have hti2:tos.getD x []=t2:=by rw [List.getD_eq_getElem?_getD,hx2];rfl
    have f7:=at_map natsIV hx2
    have hstep:=hb.step hxk hbx (hgetl x) (hgetb x)
    have hmu2:=Bfs.mu hxk hbx (hgetl x)
    have hl2:=hgetl x
    rw [hti2] at hstep hmu2 hl2
    have hsz:=hb.size
    refine SS ?_
    refine D.opN1 (O.storeR (v := .imm (.bool true)) rfl rfl rfl rfl hGi f6 f5 rfl rfl) rfl ?_
    refine D.done (by kernel_rfl) ?_
    refine W.gen' (fun G'=>G' (nx+6) = .row 4 1 ((b.set x true).map fun b => .imm (.bool b)) false/\∀ o,o≠nx+6->G' o=G o) ⟨?_,?_⟩ ?_
    ·rw [upd_same,Int.toNat_natCast,List.map_set]
    ·intro o ho
     rw [upd_ne _ _ _ _ ho]
    rintro G' ⟨hGi',hfr⟩
    have hG10':=hfr 10 (by omega)
    rw [hG10] at hG10'
    have hGt':=hfr ot (by omega)
    rw [hGt] at hGt'
    have hdone':All2 (Rdx 1 G' (fun o=>11<=o/\o < nx)) done (((List.range i).map (reachRow tos n)).map boolsIV):=hdone.imp fun _ _ h=>h.frame (fun o ho=>hfr o (by omega)) fun _ h=>h
    clear hGi hG10 hGt hdone hfr
    refine SS ?_
    refine R.appOwn (lo:=nx+7) (xs:=T.map natIV) (ys:=t2.map natIV) rfl rfl rfl (.inr ⟨ot,ho1,by omega,rfl,hGt'⟩) rfl rfl (by decide) (by decide) rfl ?_ (by simp only [List.length_map,most];omega) ⟨?_,?_⟩ rfl fun v' G'' ho' hfr'=>?_
    ·intro y hy
     obtain ⟨z,_,rfl⟩:=List.mem_map.1 hy
     rfl
    ·simp only [List.length_cons,List.length_nil];omega
    ·simp only [List.length_cons,List.length_nil];omega
    have g1:=hfr' (nx+6) (by omega)
    rw [hGi'] at g1
    have g2:=hfr' 10 (by omega)
    rw [hG10'] at g2
    have g3:All2 (Rdx 1 G'' (fun o=>11<=o/\o < nx)) done (((List.range i).map (reachRow tos n)).map boolsIV):=hdone'.imp fun _ _ h=>h.frame (fun o ho=>hfr' o (by omega)) fun _ h=>h
    refine SS ?_
    refine W.skipLop (k+1,v',b.set x true,T++t2) hmu2 .auto ⟨?_,g2,g3,g1,?_,hstep⟩
    ·simp only [List.length_cons,List.length_nil];omega
    ·show Own 3 1 (nx+7) _ ((T++t2).map natIV) _ v'
     rw [List.map_append]
     exact ho'.up (by omega)
  ·have h2':T.length<=k:=by have:=of_decide_eq_false h2;omega
   have hfin:=hb.fin h2'
   refine SS ?_
   refine W.skipLop (i+1) hmu .auto ⟨by omega,h1',done++[.row (nx+6) n],?_,?_⟩
   ·rw [List.append_assoc];exact hG10
   ·rw [List.range_succ,List.map_append,List.map_append]
    refine (hdone.imp fun _ _ h=>h.frame (fun _ _=>rfl) fun o ho=>⟨ho.1,by omega⟩).append ⟨?_,trivial⟩
    rw [hfin] at hGi
    refine .row hGi (by simp [reachRow]) ?_ ⟨by omega,by omega⟩
    have:=All2.imms 0 G (fun _=>False) ((reachRow tos n i).map .bool)
    rw [List.map_map] at this
    exact this.imp fun _ _ h=>h.frame (fun _ _=>rfl) fun o ho=>ho.elim
 ·have h1':n<=i:=by have:=of_decide_eq_false h1;omega
  obtain rfl:i=n:=by omega
  rw [Nat.sub_self,List.replicate_zero,List.append_nil] at hG
  refine SS ?_
  refine W.retFin1 rfl ?_
  exact (Rdx.row (P:=fun _=>True) hG hdl (hdone.imp fun _ _ h=>h.frame (fun _ _=>rfl) fun _ _=>trivial) trivial).peek (by decide)
end Go.Abs

/- The reference: the rings of a program. -/
open Go Go.Abs
namespace Go.Abs
set_option maxRecDepth 100000
set_option maxHeartbeats 4000000
instance fnis55:FnIs CC 66:=⟨rfl,fun _=>rfl⟩
def at2 (m:List (List Bool)) (i j:Nat):Bool:=(m.getD i []).getD j false
def inRing (m:List (List Bool)) (i k:Nat):Bool:=k==i||(at2 m i k&&at2 m k i)
def ringTo (m:List (List Bool)) (i k:Nat):List Nat:=(List.range k).filter (inRing m i)
def ringIs (m:List (List Bool)) (i:Nat):Bool:=at2 m i i&&(ringTo m i m.length).head? == some i
def ringsTo (m:List (List Bool)) (i:Nat):List (List Nat):=((List.range i).filter (ringIs m)).map fun i=>ringTo m i m.length
def ringsR (m:List (List Bool)):List (List Nat):=ringsTo m m.length
theorem ringTo_succ (m:List (List Bool)) (i k:Nat):ringTo m i (k+1)=ringTo m i k++(if inRing m i k then [k] else []):=by
 unfold ringTo
 rw [List.range_succ,List.filter_append]
 congr 1
 simp only [List.filter_cons,List.filter_nil]
theorem ringsTo_succ (m:List (List Bool)) (i:Nat):ringsTo m (i+1)=ringsTo m i++(if ringIs m i then [ringTo m i m.length] else []):=by
 unfold ringsTo
 rw [List.range_succ,List.filter_append,List.map_append]
 congr 1
 simp only [List.filter_cons,List.filter_nil]
 split<;>rfl
theorem beq_cast (k i:Nat):((k:Int)==(i:Int))=(k==i):=by
 rw [Bool.eq_iff_iff];simp only [beq_iff_eq];omega
theorem ringTo_len (m:List (List Bool)) (i k:Nat):(ringTo m i k).length<=k:=by
 unfold ringTo
 have:=List.length_filter_le (inRing m i) (List.range k)
 simpa using this
theorem ringsTo_len (m:List (List Bool)) (i:Nat):(ringsTo m i).length<=i:=by
 unfold ringsTo
 have:=List.length_filter_le (ringIs m) (List.range i)
 simpa using this
theorem ringTo_ne (m:List (List Bool)) (i k:Nat) (h:i < k):ringTo m i k≠[]:=by
 intro he
 have:i∈ringTo m i k:=by unfold ringTo;rw [List.mem_filter];exact ⟨List.mem_range.2 h,by unfold inRing;simp⟩
 rw [he] at this;cases this
theorem ret55 (p:Pgm) (m:List (List Bool)) (hr53:Ret CC 128 [p.iv] (.lst (m.map boolsIV))) (hm:∀ row∈m,row.length=m.length) (h6:m.length<=6):Ret CC 66 [p.iv] (.lst ((ringsR m).map natsIV)):=by
 obtain ⟨srcs,defs⟩:=p
 have hml:(m.map boolsIV).length=m.length:=List.length_map ..
 have cell:∀ i j,i < m.length->j < m.length->∃ row,(m.map boolsIV)[(i:Int).toNat]? = some (boolsIV row)/\(row.map IV.bool)[(j:Int).toNat]? = some (.bool (at2 m i j)):=by
  intro i j hi hj
  obtain ⟨row,hr⟩:=at_lt hi
  refine ⟨row,at_map boolsIV hr,?_⟩
  have hl:=hm row (List.mem_of_getElem? hr)
  obtain ⟨b,hb⟩:∃ b,row[j]? = some b:=at_lt (by omega)
  have:at2 m i j=b:=by unfold at2;rw [List.getD_eq_getElem?_getD,List.getD_eq_getElem?_getD,hr];simp [hb]
  rw [this]
  exact at_map IV.bool hb
 refine Ret.of (fn:=Go.Proofs.Tryz.f66) (by kernel_rfl) rfl rfl ?_
 refine W.seq (W.region ?_)
 refine R.op1 (O.boxS (cs:=[.imm (.lst (srcs.map sv)), .imm (.lst (defs.map Dfn.iv))]) rfl rfl rfl) rfl ?_
 refine SS ?_
 refine W.loop (X:=Nat×AV) (fun x=>[(3, .imm (.lst (m.map boolsIV))),(5, .imm (.int .i64 x.1)),(4,x.2)])
  (fun x nx G=>x.1<=m.length/\1<=nx/\OwnV 1 44 1 1 nx ((ringsTo m x.1).map natsIV) G x.2) (fun x=>m.length-x.1) (0, .nils)
  .auto ⟨Nat.zero_le _,by simp, .inl ⟨rfl,rfl⟩⟩ ?_
 rintro ⟨i,v⟩ hi0 G ⟨hi,hnx,ho⟩
 dsimp only at hi ho ⊢
 refine SS ?_
 refine W.cond rfl (fun h1=>?_) (fun h1=>?_)
 ·have h1':i < m.length:=by have:=of_decide_eq_true h1;omega
  have hmu:m.length-(i+1) < m.length-i:=by omega
  obtain ⟨rowi,ci1,ci2⟩:=cell i i h1' h1'
  have hsucc:=ringsTo_succ m i
  cases hii:at2 m i i with
  |false=>
   rw [hii] at ci2
   rw [show ringIs m i=false by unfold ringIs;rw [hii];rfl,if_neg (by decide),List.append_nil] at hsucc
   refine SS ?_
   refine W.skipLop (i+1,v) hmu .auto ⟨h1',by omega,?_⟩
   show OwnV 1 44 1 1 _ ((ringsTo m (i+1)).map natsIV) _ v
   rw [hsucc]
   exact ho.frame (by omega) fun _ _ _=>rfl
  |true=>
   rw [hii] at ci2
   refine SS ?_
   refine W.loop (X:=Nat×AV) (fun x=>[(3, .imm (.lst (m.map boolsIV))),(5, .imm (.int .i64 i)),(4,v),(7, .imm (.int .i64 x.1)),(6,x.2)])
    (fun x nx G=>OwnV 1 44 1 1 hi0 ((ringsTo m i).map natsIV) G v/\x.1<=m.length/\hi0<=nx/\Own 3 1 hi0 nx ((ringTo m i x.1).map natIV) G x.2) (fun x=>m.length-x.1) (0, .nils)
    .auto ⟨ho,Nat.zero_le _,by omega, .inl ⟨rfl,rfl⟩⟩ ?_
   clear ho
   rintro ⟨k,t⟩ nx G ⟨ho,hk,hnx2,ht⟩
   dsimp only at hk ht ⊢
   refine SS ?_
   refine W.cond rfl (fun h2=>?_) (fun h2=>?_)
   ·have h2':k < m.length:=by have:=of_decide_eq_true h2;omega
    obtain ⟨rowik,a1,a2⟩:=cell i k h1' h2'
    obtain ⟨rowk,b1,b2⟩:=cell k i h2' h1'
    have hst:=ringTo_succ m i k
    have hmu2:m.length-(k+1) < m.length-k:=by omega
    have hlen:=ringTo_len m i k
    have hin:inRing m i k=((k:Int)==(i:Int)||(at2 m i k&&at2 m k i)):=by unfold inRing;rw [beq_cast]
    generalize at2 m i k=x at a2 hin
    generalize at2 m k i=y at b2 hin
    have hcase:(((k:Int)==(i:Int))=true\/(((k:Int)==(i:Int))=false/\x=true/\y=true))\/((((k:Int)==(i:Int))=false/\x=false)\/(((k:Int)==(i:Int))=false/\x=true/\y=false)):=by
     cases ((k:Int)==(i:Int))<;>cases x<;>cases y<;>simp
    rcases hcase with hyes|hno
    ·have hy:inRing m i k=true:=by rw [hin];rcases hyes with h|⟨h,rfl,rfl⟩<;>rw [h]<;>rfl
     rw [hy,if_pos rfl] at hst
     rcases hyes with hA|⟨hA,rfl,rfl⟩
     iterate 2
      ·refine SS ?_
       refine R.op1 (O.buildS (n:=1) (ke:=ty3) (xs:=[.imm (.int .i64 k)]) rfl rfl rfl (by decide) rfl rfl (by decide)) rfl ?_
       refine R.appOwn (lo:=hi0) (ys:=[natIV k]) rfl rfl rfl (ht.upd (by omega) (by omega)) rfl (by simp [elems,upd];rfl) (by decide) (by decide) rfl (by simp [natIV];rfl) (by simp only [List.length_map,List.length_cons,List.length_nil,most];omega) ⟨by omega,by simp only [List.length_cons,List.length_nil];omega⟩ rfl fun v' G' ho' hG'=>?_
       have hfr:∀ o,o < hi0->G' o=G o:=fun o h=>by rw [hG' o h,upd_ne _ _ _ _ (by omega)]
       refine SS ?_
       refine W.skipLop (k+1,v') hmu2 .auto ⟨ho.frame (Nat.le_refl _) fun o _ h=>hfr o h,h2',by omega,?_⟩
       show Own 3 1 hi0 _ ((ringTo m i (k+1)).map natIV) G' v'
       rw [hst,List.map_append]
       exact ho'.up (by omega)
    ·have hy:inRing m i k=false:=by rw [hin];rcases hno with ⟨h,rfl⟩|⟨h,rfl,rfl⟩<;>rw [h]<;>rfl
     rw [hy,if_neg (by decide),List.append_nil] at hst
     rcases hno with ⟨hA,rfl⟩|⟨hA,rfl,rfl⟩
     iterate 2
      ·refine SS ?_
       refine W.skipLop (k+1,t) hmu2 .auto ⟨ho,h2',by omega,?_⟩
       show Own 3 1 hi0 _ ((ringTo m i (k+1)).map natIV) _ t
       rw [hst]
       exact ht.up (by omega)
   ·have h2':k=m.length:=by have:=of_decide_eq_false h2;omega
    subst h2'
    have hne:=ringTo_ne m i m.length h1'
    have hlen:=ringTo_len m i m.length
    have hlen2:=ringsTo_len m i
    have hfit:=ht.fits1
    have hrdx:=ht.rdx
    generalize hring:ringTo m i m.length=ring at *
    obtain ⟨x,rest,rfl⟩:∃ x rest,ring=x::rest:=by cases ring with
     |nil=>exact (hne rfl).elim
     |cons x rest=>exact ⟨x,rest,rfl⟩
    rcases ht with ⟨hTn,_⟩|⟨ot,ho1,ho2,rfl,hGt⟩
    ·cases hTn
    have f3:(((x::rest).map natIV).map AV.imm)[(0:Int).toNat]? = some (.imm (natIV x)):=rfl
    have f4:(((x::rest).map natIV).map AV.imm).length=((x::rest).map natIV).length:=List.length_map ..
    have f5:((x::rest).map natIV).length=rest.length+1:=by simp
    have his:ringIs m i=((x:Int)==(i:Int)):=by
     unfold ringIs
     rw [hii,hring,beq_cast]
     simp
    rw [his] at hsucc
    rcases Bool.eq_false_or_eq_true ((x:Int)==(i:Int)) with hA|hA
    ·rw [hA,if_pos rfl] at hsucc
     refine SS ?_
     refine R.op1 (O.buildS (n:=1) (ke:=ty30) (xs:=[.row ot ((x::rest).map natIV).length]) rfl rfl rfl (by decide) rfl rfl (by decide)) rfl ?_
     refine R.appOwnV (d':=1) (lo:=1) (hi:=hi0) (ws:=[.row ot ((x::rest).map natIV).length]) (ys:=[natsIV (x::rest)]) rfl rfl rfl (ho.frame (Nat.le_refl _) fun o _ h=>upd_ne _ _ _ _ (by omega)) rfl (by simp [elems,upd]) (by decide) (by decide) rfl rfl (by simp only [List.length_map,List.length_cons,List.length_nil,most];omega) ⟨by omega,by omega⟩ (fun G' h1 h2=>⟨?_,trivial⟩) rfl fun v' G' ho' hG1 hG2=>?_
     ·exact hrdx.frame (fun o ho=>by rw [h2 o ho.1 (by omega),upd_ne _ _ _ _ (by omega)]) fun o ho=>⟨ho.1,by omega⟩
     ·refine SS ?_
      refine W.skipLop (i+1,v') hmu .auto ⟨h1',by omega,?_⟩
      show OwnV 1 44 1 1 _ ((ringsTo m (i+1)).map natsIV) G' v'
      rw [hsucc,List.map_append]
      exact ho'.frame (by simp only [List.length_cons,List.length_nil];omega) fun _ _ _=>rfl
    ·rw [hA,if_neg (by decide),List.append_nil] at hsucc
     refine SS ?_
     refine W.skipLop (i+1,v) hmu .auto ⟨h1',by omega,?_⟩
     show OwnV 1 44 1 1 _ ((ringsTo m (i+1)).map natsIV) _ v
     rw [hsucc]
     exact ho.frame (by omega) fun _ _ _=>rfl
 ·have h1':i=m.length:=by have:=of_decide_eq_false h1;omega
  subst h1'
  refine SS ?_
  refine W.retFin1 rfl ?_
  exact ho.rdx.peek (by decide)
end Go.Abs

/- What is known of programs that have a number of nodes. (No program in sight.) -/
open Go Go.Abs
namespace Go.Abs
set_option maxRecDepth 100000
mutual
theorem expR_ok (srcs defs:List Str) (ahead:Nat):∀ (e:Exp) (depth left:Int),0<=expR srcs defs ahead e depth left->((allE e).length:Int)<=expR srcs defs ahead e depth left/\∀ x∈allE e,namesDef x=true->x.name∈defs
 | .mk op name n fold calcs kids,depth,left,h=>by
  rw [expR] at h ⊢
  rw [allE]
  cases hs:shapeR op with
  |none=>rw [hs] at h;simp at h
  |some s=>
   rw [hs] at h
   dsimp only at h ⊢
   split at h
   ·omega
   ·rename_i hdl
    rw [if_neg hdl]
    split at h
    ·rename_i hh
     rw [if_pos hh]
     split at h
     ·omega
     ·rename_i hc
      rw [if_neg hc]
      have h1:=calcRs_le calcs (Go.Abs.other op) 0 left 1 (by omega) (by omega)
      obtain ⟨a,b⟩:=expRs_ok srcs defs ahead kids depth left _ (by omega) h
      refine ⟨by simp only [List.length_cons];omega,fun x hx hn=>?_⟩
      rcases List.mem_cons.1 hx with rfl|hx
      ·have hni:nameIs srcs defs ahead op name=true:=by
        unfold headIs at hh
        simp only [Bool.and_eq_true] at hh
        exact hh.2
       unfold nameIs at hni
       unfold namesDef at hn
       simp only [Exp.op,Bool.or_eq_true,beq_iff_eq] at hn
       rcases hn with rfl|rfl
       ·simp at hni
        exact List.mem_of_mem_take hni
       ·simp at hni
        exact hni
      ·exact b x hx hn
    ·omega
theorem expRs_ok (srcs defs:List Str) (ahead:Nat):∀ (l:List Exp) (depth left n:Int),0<=n->0<=expRs srcs defs ahead l depth left n->((allEs l).length:Int)+n<=expRs srcs defs ahead l depth left n/\∀ x∈allEs l,namesDef x=true->x.name∈defs
 |[],_,_,n,h0,h=>by rw [expRs,allEs];exact ⟨by simp,fun x hx=>by cases hx⟩
 |k::r,depth,left,n,h0,h=>by
  rw [expRs] at h ⊢
  rw [allEs]
  split at h
  ·omega
  ·rename_i hk
   rw [if_neg hk]
   obtain ⟨a,b⟩:=expR_ok srcs defs ahead k (depth+1) (left-n) (by omega)
   obtain ⟨c,d⟩:=expRs_ok srcs defs ahead r depth left _ (by omega) h
   refine ⟨by simp only [List.length_append];omega,fun x hx hn=>?_⟩
   rcases List.mem_append.1 hx with hx|hx
   ·exact b x hx hn
   ·exact d x hx hn
end
theorem countL_ok (srcs names:List Str):∀ (ds:List Dfn) (i:Nat) (n:Int),0<=n/\n<=60->0<=countL srcs names ds i n->(countL srcs names ds i n<=60)/\∀ d∈ds,(allE d.exp).length<=60/\∀ x∈allE d.exp,namesDef x=true->x.name∈names
 |[],_,n,hn,h=>by rw [countL];exact ⟨hn.2,fun d hd=>by cases hd⟩
 |d::r,i,n,hn,h=>by
  rw [countL] at h ⊢
  split at h
  ·omega
  ·rename_i hk
   rw [if_neg hk]
   have hle:=expR_le srcs names i d.exp 1 (60-n)
   obtain ⟨a,b⟩:=expR_ok srcs names i d.exp 1 (60-n) (by omega)
   obtain ⟨c,e⟩:=countL_ok srcs names r (i+1) _ (by omega) h
   refine ⟨c,fun x hx=>?_⟩
   rcases List.mem_cons.1 hx with rfl|hx
   ·exact ⟨by omega,b⟩
   ·exact e x hx
structure Pgm.Good (p:Pgm):Prop where
 defs:p.defs.length<=6
 srcs:p.srcs.length<=4
 size:∀ d∈p.defs,(allE d.exp).length<=60
 names:∀ d∈p.defs,∀ x∈allE d.exp,namesDef x=true->x.name∈defNames p
theorem countR_good {p:Pgm} (h:0<=countR p):p.Good:=by
 unfold countR at h
 split at h
 ·omega
 ·rename_i h0
  split at h
  ·obtain ⟨_,b⟩:=countL_ok p.srcs (defNames p) p.defs 0 0 (by omega) h
   exact ⟨by omega,by omega,fun d hd=>(b d hd).1,fun d hd=>(b d hd).2⟩
  ·omega
theorem idxFrom_mem {s:Str}:∀ {l:List Str} {k:Nat},s∈l->∃ n:Nat,idxFrom l s k=(n:Int)/\k<=n/\n < k+l.length
 |x::r,k,h=>by
  unfold idxFrom
  by_cases hx:(x==s)=true
  ·rw [if_pos hx];exact ⟨k,rfl,Nat.le_refl _,by simp⟩
  ·rw [if_neg hx]
   have hne:s≠x:=fun e=>hx (by rw [e];simp)
   obtain ⟨n,a,b,c⟩:=idxFrom_mem (l:=r) (k:=k+1) (by rcases List.mem_cons.1 h with h|h;exact absurd h hne;exact h)
   exact ⟨n,a,by omega,by simp only [List.length_cons];omega⟩
def tosR (p:Pgm):List (List Nat):=(stepsR p).map fun t=>t.map Int.toNat
theorem Pgm.Good.steps {p:Pgm} (h:p.Good):stepsR p=(tosR p).map (fun t=>t.map Int.ofNat)/\(tosR p).length=p.defs.length/\(∀ t∈tosR p,t.length<=60)/\∀ t∈tosR p,∀ x∈t,x < (tosR p).length:=by
 have hl:(tosR p).length=p.defs.length:=by simp [tosR,stepsR]
 have hnl:(defNames p).length=p.defs.length:=by have:=h.defs;simp [defNames];omega
 refine ⟨?_,hl,?_,?_⟩
 ·unfold tosR
  rw [List.map_map]
  conv=>lhs;rw [<-List.map_id (stepsR p)]
  apply List.map_congr_left
  intro t ht
  simp only [id,Function.comp,List.map_map]
  conv=>lhs;rw [<-List.map_id t]
  apply List.map_congr_left
  intro x hx
  simp only [stepsR,List.mem_map] at ht
  obtain ⟨d,hd,rfl⟩:=ht
  simp only [stepsL,List.mem_map,List.mem_filter] at hx
  obtain ⟨y,⟨hy,hn⟩,rfl⟩:=hx
  obtain ⟨n,hn',_⟩:=idxFrom_mem (k:=0) (h.names d hd y hy hn)
  have hn':idxFrom (defNames p) y.name 0=(n:Int):=hn'
  rw [hn'];rfl
 ·intro t ht
  simp only [tosR,stepsR,List.map_map,List.mem_map] at ht
  obtain ⟨d,hd,rfl⟩:=ht
  have:=stepsL_len (defNames p) (allE d.exp)
  have:=h.size d hd
  simp only [Function.comp,List.length_map]
  omega
 ·intro t ht x hx
  simp only [tosR,stepsR,List.map_map,List.mem_map] at ht
  obtain ⟨d,hd,rfl⟩:=ht
  simp only [Function.comp,stepsL,List.mem_map,List.mem_filter] at hx
  obtain ⟨z,⟨y,⟨hy,hn⟩,rfl⟩,rfl⟩:=hx
  obtain ⟨n,hn',_,hlt⟩:=idxFrom_mem (k:=0) (h.names d hd y hy hn)
  have hn':idxFrom (defNames p) y.name 0=(n:Int):=hn'
  rw [hn',hl]
  show n < _
  omega
end Go.Abs

/- The reference: which programs are formed, and how many nodes they have. -/
open Go Go.Abs
namespace Go.Abs
set_option maxRecDepth 100000
set_option maxHeartbeats 4000000
def foreAt (defs:List Dfn) (k:Nat):Bool:=match defs[k]? with
 |some d=>aheadE d.exp
 |none=>false
noncomputable def ringsOf (p:Pgm):List (List Nat):=ringsR (reachR (tosR p))
noncomputable def progR (p:Pgm):Bool:=if countR p < 0 then false else (ringsOf p).all fun ring=>ring.all fun k => !foreAt p.defs k
theorem reachR_len (tos:List (List Nat)):(reachR tos).length=tos.length:=by simp [reachR]
theorem reachR_row {tos:List (List Nat)}:∀ row∈reachR tos,row.length=(reachR tos).length:=by
 intro row hr
 simp only [reachR,List.mem_map] at hr
 obtain ⟨i,_,rfl⟩:=hr
 simp [reachRow,reachR]
theorem ringsTo_lt {m:List (List Bool)} {i:Nat}:∀ r∈ringsTo m i,∀ k∈r,k < m.length:=by
 intro r hr k hk
 simp only [ringsTo,List.mem_map] at hr
 obtain ⟨i,_,rfl⟩:=hr
 simp only [ringTo,List.mem_filter,List.mem_range] at hk
 exact hk.1
theorem Pgm.Good.ret53 {p:Pgm} (h:p.Good) (hp:p.Fits):Ret CC 128 [p.iv] (.lst ((reachR (tosR p)).map boolsIV)):=by
 obtain ⟨h1,h2,h3,h4⟩:=h.steps
 exact Go.Abs.ret53 p hp h.defs (fun d hd=>by have:=h.size d hd;omega) (tosR p) h1 (fun t ht=>by have:=h3 t ht;omega) h4
theorem Pgm.Good.ret55 {p:Pgm} (h:p.Good) (hp:p.Fits):Ret CC 66 [p.iv] (.lst ((ringsOf p).map natsIV)):=
 Go.Abs.ret55 p _ (h.ret53 hp) reachR_row (by rw [reachR_len,h.steps.2.1];exact h.defs)
theorem Pgm.Good.rings_lt {p:Pgm} (h:p.Good):∀ r∈ringsOf p,∀ k∈r,k < p.defs.length:=by
 intro r hr k hk
 have:=ringsTo_lt r hr k hk
 rwa [reachR_len,h.steps.2.1] at this
theorem ringsOf_len {p:Pgm} (h:p.Good):(ringsOf p).length<=6:=by
 have:=ringsTo_len (reachR (tosR p)) (reachR (tosR p)).length
 unfold ringsOf ringsR
 rw [reachR_len,h.steps.2.1] at this ⊢
 have:=h.defs
 omega
theorem ringsOf_le {p:Pgm} (h:p.Good):∀ r∈ringsOf p,r.length<=6:=by
 intro r hr
 simp only [ringsOf,ringsR,ringsTo,List.mem_map] at hr
 obtain ⟨i,_,rfl⟩:=hr
 have:=ringTo_len (reachR (tosR p)) i (reachR (tosR p)).length
 rw [reachR_len,h.steps.2.1] at this ⊢
 have:=h.defs
 omega
theorem all_take {α:Type} {p:α->Bool} {l:List α} {i:Nat} {x:α} (h:l[i]? = some x) (hi:(l.take i).all p=true) (hx:p x=true):(l.take (i+1)).all p=true:=by
 rw [List.take_add_one,h,List.all_append,hi];simp [hx]
theorem all_of_take {α:Type} {p:α->Bool} {l:List α} {i:Nat} (h:l.length<=i) (hi:(l.take i).all p=true):l.all p=true:=by
 rw [List.take_of_length_le h] at hi;exact hi
theorem all_not {α:Type} {p:α->Bool} {l:List α} {i:Nat} {x:α} (h:l[i]? = some x) (hx:p x=false):l.all p=false:=
 List.all_eq_false.2 ⟨x,List.mem_of_getElem? h,by rw [hx];decide⟩
theorem ret36 (p:Pgm) (hp:p.Fits):Ret CC 20 [p.iv] (.bool (progR p)):=by
 have hr65:=ret65 p hp
 by_cases hc:0<=countR p
 ·have hg:=countR_good hc
  have hr55:=hg.ret55 hp
  have hlt:=hg.rings_lt
  have hrl:=ringsOf_len hg
  have hre:=ringsOf_le hg
  have hsz:=hg.size
  have hpr:progR p=(ringsOf p).all fun ring=>ring.all fun k => !foreAt p.defs k:=by unfold progR;rw [if_neg (by omega)]
  rw [hpr]
  clear hpr
  generalize ringsOf p=rings at *
  have hd6:=hg.defs
  obtain ⟨srcs,defs⟩:=p
  simp only at hlt hsz hd6 ⊢
  have hdm:(defs.map Dfn.iv).length=defs.length:=List.length_map ..
  have hrm:(rings.map natsIV).length=rings.length:=List.length_map ..
  have hneg:decide (countR ⟨srcs,defs⟩ < 0)=false:=by simp;omega
  refine Ret.of (fn:=Go.Proofs.Tryz.f20) (by kernel_rfl) rfl rfl ?_
  refine W.seq (W.region ?_)
  refine R.op1 (O.boxS (cs:=[.imm (.lst (srcs.map sv)), .imm (.lst (defs.map Dfn.iv))]) rfl rfl rfl) rfl ?_
  refine SS ?_
  refine W.loop (X:=Nat) (fun i=>[(1, .ptr 0 0),(3, .imm (.lst (rings.map natsIV))),(4, .imm (.int .i64 i))])
   (fun i nx G=>G 0 = .box [.imm (.lst (srcs.map sv)), .imm (.lst (defs.map Dfn.iv))] false/\i<=rings.length/\(rings.take i).all (fun ring=>ring.all fun k => !foreAt defs k)=true) (fun i=>rings.length-i) 0
   .auto ⟨rfl,Nat.zero_le _,rfl⟩ ?_
  rintro i nx G ⟨hG,hi,ha⟩
  refine SS ?_
  refine W.cond rfl (fun h1=>?_) (fun h1=>?_)
  ·have h1':i < rings.length:=by have:=of_decide_eq_true h1;omega
   have hmu:rings.length-(i+1) < rings.length-i:=by omega
   obtain ⟨ring,hx⟩:=at_lt h1'
   have hxi:=at_map natsIV hx
   have hmem:=List.mem_of_getElem? hx
   have hrg:(ring.map natIV).length=ring.length:=List.length_map ..
   have hr6:=hre ring hmem
   refine SS ?_
   refine W.loop (X:=Nat) (fun j=>[(1, .ptr 0 0),(3, .imm (.lst (rings.map natsIV))),(4, .imm (.int .i64 i)),(5, .imm (.int .i64 j))])
    (fun j nx G=>G 0 = .box [.imm (.lst (srcs.map sv)), .imm (.lst (defs.map Dfn.iv))] false/\j<=ring.length/\(ring.take j).all (fun k => !foreAt defs k)=true) (fun j=>ring.length-j) 0
    .auto ⟨hG,Nat.zero_le _,rfl⟩ ?_
   clear hG
   rintro j nx G ⟨hG,hj,hb⟩
   refine SS ?_
   refine W.cond rfl (fun h2=>?_) (fun h2=>?_)
   ·have h2':j < ring.length:=by have:=of_decide_eq_true h2;omega
    have hmu2:ring.length-(j+1) < ring.length-j:=by omega
    obtain ⟨k,hk⟩:=at_lt h2'
    have hki:=at_map natIV hk
    have hkn:=hlt ring hmem k (List.mem_of_getElem? hk)
    obtain ⟨d,hd⟩:=at_lt hkn
    have hdi:=at_map Dfn.iv hd
    have hdc:=d.cells_len
    have hdm:=List.mem_of_getElem? hd
    have hr68:=ret68 (hp.exp d hdm) (by have:=hsz d hdm;omega)
    have hfa:foreAt defs k=aheadE d.exp:=by unfold foreAt;rw [hd]
    have yes:=fun h=>all_not (p:=fun k => !foreAt defs k) hk h
    have no:=fun h=>all_take (p:=fun k => !foreAt defs k) hk hb h
    have yes2:=fun h=>all_not (p:=fun ring=>ring.all fun k => !foreAt defs k) hx h
    rw [hfa] at yes no
    obtain ⟨nm,⟨o',s',n',f',c',k'⟩⟩:=d
    simp only at hr68 yes no
    generalize aheadE (.mk o' s' n' f' c' k')=b at hr68 yes no
    cases b with
    |true=>
     refine SS ?_
     exact W.retFin1 rfl ⟨[],by rw [yes2 (yes rfl)];rfl⟩
    |false=>
     refine SS ?_
     exact W.skipLop (j+1) hmu2 .auto ⟨hG,h2',no rfl⟩
   ·have h2':ring.length<=j:=by have:=of_decide_eq_false h2;omega
    have hall:=all_of_take h2' hb
    refine SS ?_
    exact W.skipLop (i+1) hmu .auto ⟨hG,h1',all_take hx ha hall⟩
  ·have h1':rings.length<=i:=by have:=of_decide_eq_false h1;omega
   have hall:=all_of_take h1' ha
   refine SS ?_
   exact W.retFin1 rfl ⟨[],by rw [hall];rfl⟩
 ·have hpr:progR p=false:=by unfold progR;rw [if_pos (by omega)]
  rw [hpr]
  have hneg:decide (countR p < 0)=true:=by simp;omega
  obtain ⟨srcs,defs⟩:=p
  refine Ret.of (fn:=Go.Proofs.Tryz.f20) (by kernel_rfl) rfl rfl ?_
  refine W.seq (W.region ?_)
  refine R.op1 (O.boxS (cs:=[.imm (.lst (srcs.map sv)), .imm (.lst (defs.map Dfn.iv))]) rfl rfl rfl) rfl ?_
  refine SS ?_
  exact W.retFin1 rfl ⟨[],rfl⟩
end Go.Abs
