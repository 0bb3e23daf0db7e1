/- Programs that are looked at: maps of numbers and of shapes. -/
import Derived.Test.YtbdoijpclmhbaaaKp8
open Go Go.Abs
namespace Go.Abs
set_option maxRecDepth 100000
set_option maxHeartbeats 4000000
instance fnis87:FnIs CC 31:=⟨rfl,fun _=>rfl⟩
instance fnis88:FnIs CC 32:=⟨rfl,fun _=>rfl⟩
instance fnis75:FnIs CC 33:=⟨rfl,fun _=>rfl⟩
instance fnis76:FnIs CC 34:=⟨rfl,fun _=>rfl⟩
def shpT (s:Shp):IV := .agg [.int .i64 s.kids, .int .i64 s.calcs, .bool s.name, .bool s.fold, .int .i64 s.low, .int .i64 s.high]
def sOr (op:Int):Shp:=(shapeR op).getD ⟨0,0,false,false,0,0⟩
def shapeKeys:List IV:=(List.range 15).map fun (i:Nat) => .int .i64 (i+1)
def shapeVals:List IV:=(List.range 15).map fun (i:Nat)=>shpT (sOr (i+1))
def shapesIV:IV := .fmp shapeKeys shapeVals
theorem ret87:Ret CC 31 [] shapesIV:=Ret.reckon (n:=60) (by kernel_rfl)
theorem keyFind_none {k:IV}:∀ {l:List IV},(∀ x∈l,scalarEq k x=some false)->keyFind k l=some none
 |[],_=>rfl
 |x::r,h=>by
  unfold keyFind
  rw [h x (by simp),keyFind_none fun y hy=>h y (by simp [hy])]
  rfl
theorem shLook (op:Int):lookIs (some ty55) (some ty137) (some (shapeKeys,shapeVals.map .imm)) (.int .i64 op) true (.imm (.tup [shpT (sOr op), .bool (shapeR op).isSome])):=by
 refine ⟨rfl,?_⟩
 rcases ops15 op with rfl|rfl|rfl|rfl|rfl|rfl|rfl|rfl|rfl|rfl|rfl|rfl|rfl|rfl|rfl|⟨n1,n2,n3,n4,n5,n6,n7,n8,n9,n10,n11,n12,n13,n14,n15⟩
 iterate 15 exact .inl ⟨_,_,by rfl,by rfl,by rfl⟩
 have hs:shapeR op=none:=by unfold shapeR;simp [n1,n2,n3,n4,n5,n6,n7,n8,n9,n10,n11,n12,n13,n14,n15]
 refine .inr ⟨?_,?_⟩
 ·refine keyFind_none fun x hx=>?_
  simp only [shapeKeys,List.mem_map,List.mem_range] at hx
  obtain ⟨i,hi,rfl⟩:=hx
  have:¬ op=(i:Int)+1:=by omega
  simp [scalarEq,this]
 ·unfold sOr;rw [hs];rfl
def numIV (l:List Str):IV := .fmp (l.map sv) ((List.range l.length).map natIV)
def idxN (l:List Str) (s:Str):Nat:=(l.findIdx? fun x=>s==x).getD 0
theorem findIdx_contains (s:Str):∀ l:List Str,(l.findIdx? fun x=>s==x).isSome=l.contains s
 |[]=>rfl
 |x::r=>by
  rw [List.findIdx?_cons,List.contains_cons]
  cases h:s==x with
  |true=>simp
  |false=>
   simp only [Bool.false_or]
   rw [<-findIdx_contains s r]
   cases (r.findIdx? fun x=>s==x)<;>rfl
theorem findIdx_lt {s:Str} {j:Nat}:∀ {l:List Str},(l.findIdx? fun x=>s==x)=some j->j < l.length
 |[],h=>by cases h
 |x::r,h=>by
  rw [List.findIdx?_cons] at h
  split at h
  ·cases h;simp
  ·cases hr:r.findIdx? fun x=>s==x with
   |none=>rw [hr] at h;cases h
   |some k=>
    rw [hr] at h
    cases h
    have:=findIdx_lt hr
    simp;omega
theorem numLook (l:List Str) (s:Str):lookIs (some ty9) (some ty3) (some (l.map sv,((List.range l.length).map natIV).map .imm)) (sv s) true (.imm (.tup [natIV (idxN l s), .bool (l.contains s)])):=by
 refine ⟨rfl,?_⟩
 rw [keyFind_sv,<-findIdx_contains]
 unfold idxN
 cases h:l.findIdx? fun x=>s==x with
 |none=>exact .inr ⟨rfl,rfl⟩
 |some j=>
  have:=findIdx_lt h
  refine .inl ⟨j, .imm (natIV j),rfl,?_,rfl⟩
  simp [this]
theorem numLook0 (l:List Str) (s:Str):lookIs (some ty9) (some ty3) (some (l.map sv,((List.range l.length).map natIV).map .imm)) (sv s) false (.imm (natIV (idxN l s))):=by
 refine ⟨rfl,?_⟩
 rw [keyFind_sv]
 unfold idxN
 cases h:l.findIdx? fun x=>s==x with
 |none=>exact .inr ⟨rfl,rfl⟩
 |some j=>
  have:=findIdx_lt h
  refine .inl ⟨j, .imm (natIV j),rfl,?_,rfl⟩
  simp [this]
theorem idxN_take {l:List Str} {s:Str} (k:Nat):(l.take k).contains s=(l.contains s&&decide (((idxN l s:Nat):Int) < (k:Int))):=by
 induction l generalizing k with
 |nil=>simp
 |cons x r ih=>
  cases k with
  |zero=>simp
  |succ k=>
   rw [List.take_succ_cons,List.contains_cons,List.contains_cons]
   unfold idxN
   rw [List.findIdx?_cons]
   cases h:s==x with
   |true=>simp
   |false=>
    simp only [Bool.false_or,Bool.false_eq_true,if_false]
    rw [ih k,<-findIdx_contains]
    unfold idxN
    cases r.findIdx? fun x=>s==x with
    |none=>simp
    |some j=>
     simp only [Option.isSome_some,Bool.true_and,Option.getD_some,Option.map_some]
     apply decide_eq_decide.2
     omega
def Others (ov:IV) (others:List Str):Prop:=∀ (G:Nat->Obj) (s:Str),∃ u:IV,lookIs (some ty9) (some ty3) (mapKV G (.imm ov)) (sv s) true (.imm (.tup [u, .bool (others.contains s)]))
theorem others_nil:Others .nilmap []:=fun _ _=>⟨.int .i64 0,rfl, .inr ⟨rfl,rfl⟩⟩
theorem others_num (l:List Str):Others (numIV l) l:=fun _ s=>⟨_,numLook l s⟩
def okAt (others l:List Str) (i:Nat):Bool:=nameOk (l.getD i []) && !(l.take i).contains (l.getD i []) && !others.contains (l.getD i [])
def fresh (others l:List Str):Bool:=(List.range l.length).all (okAt others l)
theorem fresh_bad {others l:List Str} {i:Nat} (hi:i < l.length) (h:okAt others l i=false):fresh others l=false:=
 List.all_eq_false.2 ⟨i,by simpa using hi,by rw [h];decide⟩
theorem numAt {l:List Str} {i:Nat} {s:Str} (h:l[i]? = some s):(l.take (i+1)).map sv=(l.take i).map sv++[sv s]/\((List.range (i+1)).map natIV).map AV.imm=((List.range i).map natIV).map AV.imm++[.imm (natIV i)]:=by
 refine ⟨?_,?_⟩
 ·rw [List.take_add_one,h];simp
 ·rw [List.range_succ];simp
theorem cal88 (l others:List Str) (ov:IV) (ho:Others ov others) (hl:l.length<=9223372036854775807) (hls:∀ s∈l,s.length<=9223372036854775807) :
  CalP CC 32 ([.lst (l.map sv),ov].map .imm) (fun _ => .gone) 0 fun
   | .ret v G' _=>fresh others l=true/\∃ ids,peek G' pkDepth v=some (numIV l,ids)
   | .pan u _ _=>u=unf/\fresh others l=false:=by
 have hlm:(l.map sv).length=l.length:=List.length_map ..
 refine CalP.of (fn:=Go.Proofs.Try.f32) (by kernel_rfl) rfl rfl ?_
 refine AA ?_
 refine W.loop (X:=Nat) (fun i=>[(1, .imm ov),(5, .map 1),(13, .imm (.lst (l.map sv))),(14, .imm (.int .i64 (l.map sv).length)),(15, .imm (.int .i64 i))])
  (fun i _ G=>G 1 = .mp ((l.take i).map sv) (((List.range i).map natIV).map .imm) false/\i<=l.length/\(List.range i).all (okAt others l)=true)
  (fun i=>l.length-i) 0 .auto ⟨rfl,Nat.zero_le _,rfl⟩ ?_
 rintro i nx G ⟨hG,hi,hall⟩
 rcases Bool.eq_false_or_eq_true (decide ((i:Int) < ((l.map sv).length:Int))) with hc|hc
 ·have hlt:i < l.length:=by have:=of_decide_eq_true hc;omega
  obtain ⟨s,hx⟩:=at_lt hlt
  have hxi:=at_map sv hx
  have hmu:l.length-(i+1) < l.length-i:=by omega
  have hr10:=ret10 s (hls s (List.mem_of_getElem? hx))
  have hgd:l.getD i []=s:=by rw [List.getD_eq_getElem?_getD,hx];rfl
  have hok:okAt others l i=(nameOk s && !(l.take i).contains s && !others.contains s):=by unfold okAt;rw [hgd]
  obtain ⟨u,h2⟩:=ho G s
  have h1:=numLook (l.take i) s
  rw [List.length_take,Nat.min_eq_left hi] at h1
  have h1:lookIs (some ty9) (some ty3) (mapKV G (.map 1)) (sv s) true (.imm (.tup [natIV (idxN (l.take i) s), .bool ((l.take i).contains s)])):=by
   simp only [mapKV,hG];exact h1
  have hkey:(l.take i).contains s=false->keyFind (sv s) ((l.take i).map sv)=some none:=fun h=>by
   rw [<-findIdx_contains] at h
   rw [keyFind_sv]
   cases h':(l.take i).findIdx? fun x=>s==x with
   |none=>rfl
   |some j=>rw [h'] at h;cases h
  have hno:okAt others l i=false->fresh others l=false:=fresh_bad hlt
  rcases Bool.eq_false_or_eq_true (nameOk s) with hA|hA
  ·rcases Bool.eq_false_or_eq_true ((l.take i).contains s) with hB|hB
   ·have hB':(!(l.take i).contains s)=false:=by rw [hB];rfl
    refine AA ?_
    exact R.callPan rfl rfl pan86 (panTo ⟨rfl,hno (by rw [hok,hB];simp)⟩)
   ·have hB':(!(l.take i).contains s)=true:=by rw [hB];rfl
    rcases Bool.eq_false_or_eq_true (!others.contains s) with hC|hC
    ·have hr:=retM hC
     refine AA ?_
     refine R.opN1 (O.mapNew rfl inferInstance rfl rfl rfl hG rfl (hkey hB)) ?_
     refine AA ?_
     refine W.skipLop (i+1) hmu .auto ⟨?_,hlt,?_⟩
     ·obtain ⟨e1,e2⟩:=numAt hx
      rw [upd_same,e1,e2];rfl
     ·rw [List.range_succ,List.all_append,hall]
      rw [List.all_cons,hok,hA,hB',hC];rfl
    ·refine AA ?_
     exact R.callPan rfl rfl (panM hC) (panTo ⟨rfl,hno (by rw [hok,hC];simp)⟩)
  ·refine AA ?_
   exact R.callPan rfl rfl pan86 (panTo ⟨rfl,hno (by rw [hok,hA];simp)⟩)
 ·have hge:l.length<=i:=by have:=of_decide_eq_false hc;omega
  have he:i=l.length:=by omega
  subst he
  refine AA ?_
  rw [List.take_length] at hG
  exact W.retFinP rfl ⟨hall,peek_mp hG⟩
theorem CalP.split {C:Cfg} {f:FuncId} {ivs:List IV} {x u:IV} {ok:Bool} (hu:u.scalar=true) (h:CalP C f (ivs.map .imm) (fun _ => .gone) 0 fun
   | .ret v G' _=>ok=true/\∃ ids,peek G' pkDepth v=some (x,ids)
   | .pan w _ _=>w=u/\ok=false):(ok=true->Ret C f ivs x)/\(ok=false->RetPan C f ivs u):=by
 obtain ⟨n,r,h1,h2⟩:=h
 cases r with
 |ret v G' nx'=>
  obtain ⟨h3,ids,h4⟩:=h2
  exact ⟨fun _=>⟨n,v,G',nx',_,ids,h1,h4⟩,fun h=>by rw [h3] at h;cases h⟩
 |pan w G' nx'=>
  obtain ⟨rfl,h3⟩:=h2
  exact ⟨(fun h=>by rw [h3] at h;cases h),fun _=>⟨n,G',nx',_,h1,hu⟩⟩
theorem ret88 {l others:List Str} {ov:IV} (ho:Others ov others) (hl:l.length<=9223372036854775807) (hls:∀ s∈l,s.length<=9223372036854775807) :
  (fresh others l=true->Ret CC 32 [.lst (l.map sv),ov] (numIV l))/\(fresh others l=false->RetPan CC 32 [.lst (l.map sv),ov] unf):=
 CalP.split rfl (cal88 l others ov ho hl hls)
theorem ret76 (d:Dfn):Ret CC 34 [d.iv] (sv d.name):=by
 obtain ⟨nm,⟨o',s',n',f',c',k'⟩⟩:=d
 refine Ret.of (fn:=Go.Proofs.Try.f34) (by kernel_rfl) rfl rfl ?_
 refine AA ?_
 exact W.retFin1 rfl ⟨[],rfl⟩
theorem ret75 (l:List Dfn) (hl:l.length<=4294967296):Ret CC 33 [.lst (l.map Dfn.iv), .fn (.func 34) []] (.lst ((l.map Dfn.name).map sv)):=by
 have hlm:(l.map Dfn.iv).length=l.length:=List.length_map ..
 refine Ret.of (fn:=Go.Proofs.Try.f33) (by kernel_rfl) rfl rfl ?_
 refine AA ?_
 refine W.loop (X:=Nat×AV) (fun x=>[(1, .imm (.fn (.func 34) [])),(8, .imm (.lst (l.map Dfn.iv))),(9, .imm (.int .i64 (l.map Dfn.iv).length)),(10, .imm (.int .i64 x.1)),(5,x.2)])
  (fun x nx G=>x.1<=l.length/\Own 9 1 0 nx (((l.map Dfn.name).take x.1).map sv) G x.2)
  (fun x=>l.length-x.1) (0, .nils) .auto ⟨Nat.zero_le _, .nil ..⟩ ?_
 rintro ⟨i,v⟩ nx G ⟨hi,ho⟩
 dsimp only at hi ho ⊢
 rcases Bool.eq_false_or_eq_true (decide ((i:Int) < ((l.map Dfn.iv).length:Int))) with hc|hc
 ·have hlt:i < l.length:=by have:=of_decide_eq_true hc;omega
  obtain ⟨d,hx⟩:=at_lt hlt
  have hxi:=at_map Dfn.iv hx
  have hdc:=d.cells_len
  have hmu:l.length-(i+1) < l.length-i:=by omega
  have hr:=ret76 d
  have htk:((l.map Dfn.name).take (i+1)).map sv=((l.map Dfn.name).take i).map sv++[sv d.name]:=by
   rw [List.take_add_one,List.getElem?_map,hx];simp
  obtain ⟨nm,⟨o',s',n',f',c',k'⟩⟩:=d
  refine AA ?_
  refine R.app1 ho at_upd (by simp only [List.length_map,List.length_take,most];omega) fun v' G' ho' hG'=>?_
  rw [<-htk] at ho'
  refine AA ?_
  exact W.skipLop (i+1,v') hmu .auto ⟨hlt,ho'.fr⟩
 ·have hge:l.length<=i:=by have:=of_decide_eq_false hc;omega
  rw [List.take_of_length_le (by simpa using hge)] at ho
  refine AA ?_
  exact W.retFin1 rfl ho.peek
end Go.Abs

/- Programs that are looked at: expressions. -/
open Go Go.Abs
namespace Go.Abs
set_option maxRecDepth 100000
set_option maxHeartbeats 4000000
theorem shapeR_sOr {op:Int} {s:Shp} (h:shapeR op=some s):sOr op=s:=by unfold sOr;rw [h];rfl
theorem cal89 {o:Nat} {srcs names:List Str} {ahead:Nat} {e:Exp} (hf:e.Fits):∀ {nx:Nat} {G:Nat->Obj} {n depth:Int},G o = .box [.imm (numIV srcs), .imm (numIV names), .imm shapesIV, .imm (.int .i64 ahead), .imm (.int .i64 n)] false->o < nx->(0<=n/\n<=60)->(-1000<=depth/\depth<=1000) ->
  CalP CC 35 [.ptr o 0, .imm e.iv, .imm (.int .i64 depth)] G nx (SPost o (.imm (numIV srcs)) (.imm (numIV names)) (.imm shapesIV) (.imm (.int .i64 ahead)) n (expR srcs names ahead e depth (60-n)) G nx):=by
 induction hf with
 |mk op name n' fold calcs kids hnm hw hc hk hcs hks ih=>
 intro nx G n depth hG ho hn hd
 have hc':calcs.length<=9223372036854775807:=hc
 have hk':kids.length<=9223372036854775807:=hk
 have hlk:=ivs_len kids
 have hlc:=tivs_len calcs
 refine CalP.of (fn:=Go.Proofs.Try.f35) (by kernel_rfl) rfl rfl ?_
 refine AA ?_
 refine R.callBP rfl rfl rfl rfl rfl ((cal103 (o:=o) (n:=n) at_upd (by omega) (by omega)).mono fun r hr=>?_)
 cases r with
 |pan u G' nx'=>
  obtain ⟨rfl,h1,h2,h3⟩:=hr
  have e:expR srcs names ahead (.mk op name n' fold calcs kids) depth (60-n) = -1:=by
   rw [expR]
   split
   ·rfl
   ·rw [if_pos]
    unfold oneR at h1
    split at h1
    ·assumption
    ·omega
  rw [e]
  exact panTo ⟨rfl,by decide,by omega,fun q h4 h5=>(h3 q (by omega) h5).trans at_upd⟩
 |ret v G' nx'=>
  obtain ⟨rfl,h1,h2,h3,h4⟩:=hr
  dsimp only
  have hor:oneR depth (60-n)=1:=by unfold oneR at h1 ⊢;split<;>simp_all
  have hdl:¬ (depth > 10\/(60-n) < 1):=by unfold oneR at h1;split at h1<;>omega
  rw [hor] at h2
  have hB:G' (nx+0) = .box [.imm (.int .i64 op), .imm (sv name), .imm (.int .i64 n'), .imm (.int .i64 fold), .imm (.lst (Trm.ivs calcs)), .imm (.lst (Exp.ivs kids))] false:=(h4 _ (by omega) (by omega)).trans at_upd
  have hfr:∀ q,q < nx->q≠o->G' q=G q:=fun q h5 h6=>(h4 q (by omega) h6).trans at_upd
  have hnx:nx+1<=nx':=by omega
  clear h3 h4 h1 hor
  have bad:expR srcs names ahead (.mk op name n' fold calcs kids) depth (60-n) = -1->∀ {G2:Nat->Obj} {nx2:Nat} {l:Env},nx+1<=nx2->(∀ q,q < nx->q≠o->G2 q=G q) ->
    ∀ t,Agree t l->finP CC Go.Proofs.Try.f35.results.toList (SPost o (.imm (numIV srcs)) (.imm (numIV names)) (.imm shapesIV) (.imm (.int .i64 ahead)) n (expR srcs names ahead (.mk op name n' fold calcs kids) depth (60-n)) G nx) (.pan unf ⟨t,G2,nx2,[], .no⟩):=by
   intro e G2 nx2 l h1 h2
   rw [e]
   exact panTo ⟨rfl,by decide,by omega,h2⟩
  have hL:=shLook op
  have hL1:=numLook srcs name
  have hL2:=numLook names name
  have hnone:shapeR op=none->expR srcs names ahead (.mk op name n' fold calcs kids) depth (60-n) = -1:=fun h=>by rw [expR,h]
  rcases Bool.eq_false_or_eq_true (shapeR op).isSome with hS|hS
  rotate_left
  ·refine AN ?_
   exact R.callPan rfl rfl pan86 (bad (hnone (by simpa using hS)) (by omega) fun q h5 h6=>Eq.trans at_upd (hfr q h5 h6))
  obtain ⟨s,hs⟩:=Option.isSome_iff_exists.1 hS
  rw [shapeR_sOr hs] at hL
  have hbad:headIs srcs names ahead s op name n' fold calcs.length kids.length=false->expR srcs names ahead (.mk op name n' fold calcs kids) depth (60-n) = -1:=fun h=>by
   rw [expR,hs];simp only [h];split<;>rfl
  rcases Bool.eq_false_or_eq_true (((Exp.ivs kids).length:Int)==(s.kids:Int)) with hD|hD
  rotate_left
  ·refine AN ?_
   exact R.callPan rfl rfl pan86 (bad (hbad (by rw [hlk] at hD;simp at hD;unfold headIs;simp;omega)) (by omega) fun q h5 h6=>Eq.trans at_upd (hfr q h5 h6))
  rcases Bool.eq_false_or_eq_true (((Trm.ivs calcs).length:Int)==(s.calcs:Int)) with hC|hC
  rotate_left
  ·refine AN ?_
   exact R.callPan rfl rfl pan86 (bad (hbad (by rw [hlc] at hC;simp at hC;unfold headIs;simp;omega)) (by omega) fun q h5 h6=>Eq.trans at_upd (hfr q h5 h6))
  rcases Bool.eq_false_or_eq_true (s.name == !(name==[])) with hE|hE
  rotate_left
  ·refine AN ?_
   exact R.callPan rfl rfl pan86 (bad (hbad (by unfold headIs;rw [hE];simp)) (by omega) fun q h5 h6=>Eq.trans at_upd (hfr q h5 h6))
  rcases Bool.eq_false_or_eq_true (decide (n'>=s.low)) with hF|hF
  rotate_left
  ·refine AN ?_
   exact R.callPan rfl rfl pan86 (bad (hbad (by unfold headIs inR;rw [hF];simp)) (by omega) fun q h5 h6=>Eq.trans at_upd (hfr q h5 h6))
  rcases Bool.eq_false_or_eq_true (decide (n'<=s.high)) with hF2|hF2
  rotate_left
  ·refine AN ?_
   exact R.callPan rfl rfl (panM hF2) (bad (hbad (by unfold headIs inR;rw [hF,hF2];simp)) (by omega) fun q h5 h6=>Eq.trans at_upd (hfr q h5 h6))
  have hC':calcs.length=s.calcs:=by rw [hlc] at hC;simp at hC;omega
  have hD':kids.length=s.kids:=by rw [hlk] at hD;simp at hD;omega
  have hF':inR n' s.low s.high=true:=by unfold inR;rw [hF,hF2];rfl
  have hfold:foldIs s fold=false->headIs srcs names ahead s op name n' fold calcs.length kids.length=false:=fun h=>by unfold headIs;rw [h];simp
  have hname:foldIs s fold=true->headIs srcs names ahead s op name n' fold calcs.length kids.length=nameIs srcs names ahead op name:=fun h=>by
   unfold headIs;rw [hC',hD',hE,hF',h];simp
  have hr:=retM hF2
  refine A1 ?_
  refine A1 ?_
  refine A1 ?_
  refine W.cut (X:=Unit) (fun _=>[(0, .ptr o 0),(2, .imm (.int .i64 depth)),(4, .ptr (nx+0) 0)])
   (fun _ nx2 G2=>nx'<=nx2/\G2 o=G' o/\G2 (nx+0)=G' (nx+0)/\(∀ q,q < nx->q≠o->G2 q=G q)/\foldIs s fold=true) ?_ ?_
  ·clear hL1 hL2 hr
   cases hFo:s.fold with
   |true=>
    have hfi:foldIs s fold=(decide (fold>=1)&&decide (fold<=4)):=by unfold foldIs;rw [hFo];rfl
    rcases Bool.eq_false_or_eq_true (decide (fold>=1)) with hI|hI
    ·rcases Bool.eq_false_or_eq_true (decide (fold<=4)) with hJ|hJ
     ·have hr:=retM (b:=true) rfl
      refine AN ?_
      exact W.skipCut () .auto ⟨by omega,at_upd,at_upd,fun q h5 h6=>Eq.trans at_upd (hfr q h5 h6),by rw [hfi,hI,hJ];rfl⟩
     ·have hFn:(!s.fold)=false:=by rw [hFo];rfl
      refine AN ?_
      exact R.callPan rfl rfl pan86 (bad (hbad (hfold (by rw [hfi,hJ];simp))) (by omega) fun q h5 h6=>Eq.trans at_upd (hfr q h5 h6))
    ·have hFn:(!s.fold)=false:=by rw [hFo];rfl
     refine AN ?_
     exact R.callPan rfl rfl pan86 (bad (hbad (hfold (by rw [hfi,hI];simp))) (by omega) fun q h5 h6=>Eq.trans at_upd (hfr q h5 h6))
   |false=>
    have hFn:(!s.fold)=true:=by rw [hFo];rfl
    have hfi:foldIs s fold=(fold==0):=by unfold foldIs;rw [hFo];rfl
    rcases Bool.eq_false_or_eq_true (fold==0) with hI|hI
    ·have hr:=retM hI
     refine AN ?_
     exact W.skipCut () .auto ⟨by omega,at_upd,at_upd,fun q h5 h6=>Eq.trans at_upd (hfr q h5 h6),by rw [hfi];exact hI⟩
    ·refine AN ?_
     exact R.callPan rfl rfl (panM hI) (bad (hbad (hfold (by rw [hfi];exact hI))) (by omega) fun q h5 h6=>Eq.trans at_upd (hfr q h5 h6))
  rintro _ nx2 G2 ⟨hx2,hG2o,hG2e,hfr2,hfo⟩
  rw [h2] at hG2o
  rw [hB] at hG2e
  have hname:=hname hfo
  have hmk:expR srcs names ahead (.mk op name n' fold calcs kids) depth (60-n)=if nameIs srcs names ahead op name then (if calcRs calcs (other op) 0 (60-n) 1 < 0 then -1 else expRs srcs names ahead kids depth (60-n) (calcRs calcs (other op) 0 (60-n) 1)) else -1:=by
   rw [expR,hs];simp only [if_neg (show ¬ (depth > 10\/(60-n) < 1) by omega),hname]
  generalize expR srcs names ahead (.mk op name n' fold calcs kids) depth (60-n)=res at hmk bad ⊢
  clear hbad hname hfold hnone hL hr hF hF2 hE hC hD hS hfo hB h2
  refine A1 ?_
  refine A1 ?_
  refine W.cut (X:=Unit) (fun _=>[(0, .ptr o 0),(2, .imm (.int .i64 depth)),(4, .ptr (nx+0) 0)])
   (fun _ nx3 G3=>nx2<=nx3/\G3=G2/\nameIs srcs names ahead op name=true) ?_ ?_
  ·have hno:nameIs srcs names ahead op name=false->res = -1:=fun h=>by rw [hmk,h];rfl
   by_cases e1:op=1
   ·subst e1
    have hni:nameIs srcs names ahead 1 name=srcs.contains name:=rfl
    rcases Bool.eq_false_or_eq_true (srcs.contains name) with hI|hI
    ·have hr:=retM hI
     refine AN ?_
     exact W.skipCut () .auto ⟨by omega,rfl,by rw [hni];exact hI⟩
    ·refine AN ?_
     exact R.callPan rfl rfl (panM hI) (bad (hno (by rw [hni];exact hI)) (by omega) hfr2)
   by_cases e2:op=2
   ·subst e2
    have hni:nameIs srcs names ahead 2 name=(names.contains name&&decide (((idxN names name:Nat):Int) < (ahead:Int))):=idxN_take ahead
    rcases Bool.eq_false_or_eq_true (names.contains name) with hI|hI
    ·rcases Bool.eq_false_or_eq_true (decide (((idxN names name:Nat):Int) < (ahead:Int))) with hJ|hJ
     ·have hr:=retM hJ
      refine AN ?_
      exact W.skipCut () .auto ⟨by omega,rfl,by rw [hni,hI,hJ];rfl⟩
     ·refine AN ?_
      exact R.callPan rfl rfl (panM hJ) (bad (hno (by rw [hni,hI,hJ];rfl)) (by omega) hfr2)
    ·refine AN ?_
     exact R.callPan rfl rfl pan86 (bad (hno (by rw [hni,hI];rfl)) (by omega) hfr2)
   by_cases e3:op=3
   ·subst e3
    have hni:nameIs srcs names ahead 3 name=names.contains name:=rfl
    rcases Bool.eq_false_or_eq_true (names.contains name) with hI|hI
    ·have hr:=retM hI
     refine AN ?_
     exact W.skipCut () .auto ⟨by omega,rfl,by rw [hni];exact hI⟩
    ·refine AN ?_
     exact R.callPan rfl rfl (panM hI) (bad (hno (by rw [hni];exact hI)) (by omega) hfr2)
   have hn:nameIs srcs names ahead op name=true:=by unfold nameIs;simp [e1,e2,e3]
   have e1':(op==1)=false:=by simpa using e1
   have e2':(op==2)=false:=by simpa using e2
   have e3':(op==3)=false:=by simpa using e3
   refine AN ?_
   exact W.skipCut () .auto ⟨by omega,rfl,hn⟩
  rintro _ nx3 G3 ⟨hx3,rfl,hni⟩
  rw [hni,if_pos rfl] at hmk
  clear hL1 hL2
  have hGe:=hG2e
  refine AN ?_
  refine W.loop (X:=Nat×Int) (fun x=>[(0, .ptr o 0),(2, .imm (.int .i64 depth)),(4, .ptr (nx+0) 0),(137, .imm (.lst (Trm.ivs calcs))),(138, .imm (.int .i64 (Trm.ivs calcs).length)),(139, .imm (.int .i64 x.1))])
   (fun x nx4 G4=>nx+1<=nx4/\G4 o = .box [.imm (numIV srcs), .imm (numIV names), .imm shapesIV, .imm (.int .i64 ahead), .imm (.int .i64 (n+x.2))] false/\G4 (nx+0) = .box [.imm (.int .i64 op), .imm (sv name), .imm (.int .i64 n'), .imm (.int .i64 fold), .imm (.lst (Trm.ivs calcs)), .imm (.lst (Exp.ivs kids))] false /\
    (∀ q,q < nx->q≠o->G4 q=G q)/\x.1<=calcs.length/\(1<=x.2/\x.2<=60-n)/\res=(if calcRs (calcs.drop x.1) (other op) 0 (60-n) x.2 < 0 then -1 else expRs srcs names ahead kids depth (60-n) (calcRs (calcs.drop x.1) (other op) 0 (60-n) x.2)))
   (fun x=>calcs.length-x.1) (0,1) .auto ⟨by omega,hG2o,hGe,hfr2,Nat.zero_le _,by dsimp only;omega,hmk⟩ ?_
  clear hG2o hG2e hGe hfr2 hmk hx2 hx3 hni hfr
  rintro ⟨i,m⟩ nx4 G4 ⟨hx4,hGo,hGe,hfr,hi,hm,he⟩
  dsimp only at hGo hi hm he ⊢
  rcases Bool.eq_false_or_eq_true (decide ((i:Int) < ((Trm.ivs calcs).length:Int))) with hc|hc
  ·have hlt:i < calcs.length:=by have:=of_decide_eq_true hc;omega
   obtain ⟨kid,hxk⟩:=at_lt hlt
   have hxi:=tivs_at hxk
   have hcl:=kid.cells_len
   have ihk:=fun (oth:Bool) (nx:Nat) (G:Nat->Obj) (n:Int) h1 h2 h3=>@cal104 o (.imm (numIV srcs)) (.imm (numIV names)) (.imm shapesIV) (.imm (.int .i64 ahead)) kid (hcs kid (List.mem_of_getElem? hxk)) nx G n 1 oth h1 h2 h3 (by omega)
   have hle:=calcR_le kid (other op) 1 (60-n-m)
   rw [calcRs_drop hxk,show (0:Int)+1=1 from rfl] at he
   have hmu:calcs.length-(i+1) < calcs.length-i:=by omega
   obtain ⟨o',m',k'⟩:=kid
   have go:∀ oth:Bool,other op=oth->∀ {nx5:Nat} {G5:Nat->Obj} (hx5:nx4<=nx5) (hGo:G5 o = .box [.imm (numIV srcs), .imm (numIV names), .imm shapesIV, .imm (.int .i64 ahead), .imm (.int .i64 (n+m))] false),CalP CC 58 [.ptr o 0, .imm (Trm.mk o' m' k').iv, .imm (.bool oth), .imm (.int .i64 1)] G5 nx5
    (SPost o (.imm (numIV srcs)) (.imm (numIV names)) (.imm shapesIV) (.imm (.int .i64 ahead)) (n+m) (calcR (.mk o' m' k') (other op) 1 (60-n-m)) G5 nx5):=by
    intro oth ho2 nx5 G5 h5 h6
    subst ho2
    have:=ihk (other op) nx5 G5 (n+m) h6 (by omega) (by omega)
    rwa [show (60:Int)-(n+m)=60-n-m by omega] at this
   clear ihk
   have fin:∀ {r:CR} {nx5:Nat} {G5:Nat->Obj},nx4<=nx5->(∀ q,q < nx4->q≠o->G5 q=G4 q)->SPost o (.imm (numIV srcs)) (.imm (numIV names)) (.imm shapesIV) (.imm (.int .i64 ahead)) (n+m) (calcR (.mk o' m' k') (other op) 1 (60-n-m)) G5 nx5 r->match r with
     | .ret v G6 nx6=>v = .imm (.tup [])/\nx+1<=nx6/\G6 o = .box [.imm (numIV srcs), .imm (numIV names), .imm shapesIV, .imm (.int .i64 ahead), .imm (.int .i64 (n+(m+calcR (.mk o' m' k') (other op) 1 (60-n-m))))] false/\G6 (nx+0) = .box [.imm (.int .i64 op), .imm (sv name), .imm (.int .i64 n'), .imm (.int .i64 fold), .imm (.lst (Trm.ivs calcs)), .imm (.lst (Exp.ivs kids))] false /\
       (∀ q,q < nx->q≠o->G6 q=G q)/\(1<=m+calcR (.mk o' m' k') (other op) 1 (60-n-m)/\m+calcR (.mk o' m' k') (other op) 1 (60-n-m)<=60-n)/\¬ (calcR (.mk o' m' k') (other op) 1 (60-n-m) < 0)
     | .pan u G6 nx6=>u=unf/\nx+1<=nx6/\(∀ q,q < nx->q≠o->G6 q=G q)/\calcR (.mk o' m' k') (other op) 1 (60-n-m) < 0:=by
    intro r nx5 G5 h5 h6 hr
    cases r with
    |pan u G6 nx6=>
     obtain ⟨g0,g1,g2,g3⟩:=hr
     exact ⟨g0,by omega,fun q h7 h8=>(g3 q (by omega) h8).trans ((h6 q (by omega) h8).trans (hfr q h7 h8)),g1⟩
    |ret v G6 nx6=>
     obtain ⟨g0,g1,g2,g3,g4⟩:=hr
     have:=hle g1
     exact ⟨g0,by omega,by rw [g2,Int.add_assoc],(g4 _ (by omega) (by omega)).trans ((h6 _ (by omega) (by omega)).trans hGe),fun q h7 h8=>(g4 q (by omega) h8).trans ((h6 q (by omega) h8).trans (hfr q h7 h8)),by omega,by omega⟩
   rcases Bool.eq_false_or_eq_true (op==12) with h12|h12
   all_goals
    refine AN ?_
    refine R.callBP rfl rfl rfl rfl rfl ((go _ (by unfold other;rw [h12];rfl) (by omega) at_upd).mono fun r hr=>?_)
    have hf:=fin (by omega) (fun q h1 h2=>at_upd) hr
    clear hr
    cases r with
    |pan u G6 nx6=>
     obtain ⟨rfl,g1,g2,g3⟩:=hf
     rw [if_pos g3] at he
     exact bad (by rw [he];rfl) g1 g2
    |ret v G6 nx6=>
     obtain ⟨rfl,g1,g2,g3,g4,g5,g6⟩:=hf
     rw [if_neg g6] at he
     refine AN ?_
     exact W.skipLop (i+1,m+calcR (.mk o' m' k') (other op) 1 (60-n-m)) hmu .auto ⟨by omega,g2,g3,g4,hlt,g5,he⟩
  have hge:calcs.length<=i:=by have:=of_decide_eq_false hc;omega
  rw [List.drop_eq_nil_of_le hge,calcRs,if_neg (by omega)] at he
  refine AN ?_
  refine W.loop (X:=Nat×Int) (fun x=>[(0, .ptr o 0),(2, .imm (.int .i64 depth)),(156, .imm (.lst (Exp.ivs kids))),(157, .imm (.int .i64 (Exp.ivs kids).length)),(158, .imm (.int .i64 x.1))])
   (fun x nx4 G4=>nx+1<=nx4/\G4 o = .box [.imm (numIV srcs), .imm (numIV names), .imm shapesIV, .imm (.int .i64 ahead), .imm (.int .i64 (n+x.2))] false /\
    (∀ q,q < nx->q≠o->G4 q=G q)/\x.1<=kids.length/\(1<=x.2/\x.2<=60-n)/\res=expRs srcs names ahead (kids.drop x.1) depth (60-n) x.2)
   (fun x=>kids.length-x.1) (0,m) .auto ⟨by omega,hGo,hfr,Nat.zero_le _,hm,he⟩ ?_
  clear hGo hGe hfr he hm hc hge hi
  clear i m hx4
  rintro ⟨i,m⟩ nx4 G4 ⟨hx4,hGo,hfr,hi,hm,he⟩
  dsimp only at hGo hi hm he ⊢
  rcases Bool.eq_false_or_eq_true (decide ((i:Int) < ((Exp.ivs kids).length:Int))) with hc|hc
  ·have hlt:i < kids.length:=by have:=of_decide_eq_true hc;omega
   obtain ⟨kid,hxk⟩:=at_lt hlt
   have hxi:=ivs_at hxk
   have hcl:=kid.cells_len
   have ihk:=@ih kid (List.mem_of_getElem? hxk)
   have hle:=(expR_le srcs names ahead kid (depth+1) (60-n-m)).2
   rw [expRs_drop srcs names ahead hxk] at he
   have hmu:kids.length-(i+1) < kids.length-i:=by omega
   obtain ⟨o',s',m',f',c',k'⟩:=kid
   refine AN ?_
   refine R.callBP rfl rfl rfl rfl rfl ((ihk (n:=n+m) (depth:=depth+1) at_upd (by omega) (by omega) (by omega)).mono fun r hr=>?_)
   rw [show (60:Int)-(n+m)=60-n-m by omega] at hr
   cases r with
   |pan u G' nx'=>
    obtain ⟨rfl,g1,g2,g3⟩:=hr
    rw [if_pos g1] at he
    exact bad he (by omega) fun q h4 h5=>(g3 q (by omega) h5).trans (Eq.trans at_upd (hfr q h4 h5))
   |ret v G' nx'=>
    obtain ⟨rfl,g1,g2,g3,g4⟩:=hr
    rw [if_neg (by omega)] at he
    refine AN ?_
    refine W.skipLop (i+1,m+expR srcs names ahead (.mk o' s' m' f' c' k') (depth+1) (60-n-m)) hmu .auto ⟨by omega,?_,fun q h4 h5=>(g4 q (by omega) h5).trans (Eq.trans at_upd (hfr q h4 h5)),hlt,?_,he⟩
    ·rw [g2,Int.add_assoc]
    ·dsimp only
     have:=hle g1
     omega
  ·have hge:kids.length<=i:=by have:=of_decide_eq_false hc;omega
   rw [List.drop_eq_nil_of_le hge,expRs] at he
   rw [he]
   refine AN ?_
   exact W.skipFinP rfl ⟨rfl,by omega,hGo,by omega,hfr⟩
end Go.Abs

/- Walks over the nodes of an expression. -/
open Go Go.Abs
namespace Go.Abs
set_option maxRecDepth 100000
set_option maxHeartbeats 4000000
def ty101:TyI:={ d:=TyD.fn,sz:=1,bytes:=8,zero:=AV.imm IV.nilfn }
instance tyis101:TyIs CC 92 ty101:=⟨by kernel_rfl⟩
def ty111:TyI:={ d:=TyD.fn,sz:=1,bytes:=8,zero:=AV.imm IV.nilfn }
instance tyis111:TyIs CC 86 ty111:=⟨by kernel_rfl⟩
abbrev Own1:=Nat->Prop
abbrev Kp:=Nat->Own1->(Nat->Obj)->Nat->Prop
structure Walk (q N:Nat) (l:List Exp) (K:Kp) (J:(Nat->Obj)->Nat->Prop) (Pn:IV->(Nat->Obj)->Nat->Prop):Prop where
 frame:∀ i own G nx G' nx',K i own G nx->nx<=nx'->(∀ o,o < nx->G' o=G o)->K i own G' nx'
 lt:∀ i own G nx,K i own G nx->∀ o,own o->o < nx
 frameJ:∀ G nx G' nx',J G nx->nx<=nx'->(∀ o,o < nx->G' o=G o)->J G' nx'
 round:∀ i x own G nx,l[i]? = some x->N<=nx->K i own G nx->RndP CC q [.imm x.iv] G nx fun
  | .ret v G' nx'=>nx<=nx'/\∃ own',(∀ o,o < nx->own' o->own o)/\(∀ o,N<=o->o < nx->¬ own o->G' o=G o)/\((v = .imm (.bool true)/\K (i+1) own' G' nx')\/(v = .imm (.bool false)/\J G' nx'))
  | .pan u G' nx'=>Pn u G' nx'
variable {q N:Nat} {l:List Exp} {K:Kp} {J:(Nat->Obj)->Nat->Prop} {Pn:IV->(Nat->Obj)->Nat->Prop}
def WPost (N:Nat) (K:Kp) (J:(Nat->Obj)->Nat->Prop) (Pn:IV->(Nat->Obj)->Nat->Prop) (k:Nat) (go:AV->Prop) (stop:AV->Prop) (own:Own1) (G:Nat->Obj) (nx:Nat):CR->Prop
 | .ret v G' nx'=>nx<=nx'/\∃ own',(∀ o,o < nx->own' o->own o)/\(∀ o,N<=o->o < nx->¬ own o->G' o=G o)/\((go v/\K k own' G' nx')\/(stop v/\J G' nx'))
 | .pan u G' nx'=>Pn u G' nx'
def isB (b:Bool) (v:AV):Prop:=v = .imm (.bool b)
theorem WPost.trans {k:Nat} {go stop:AV->Prop} {own own1:Own1} {G G1:Nat->Obj} {nx nx1:Nat} {r:CR} (h:WPost N K J Pn k go stop own1 G1 nx1 r) (hn:nx<=nx1) (ho:∀ o,o < nx->own1 o->own o) (hG:∀ o,N<=o->o < nx->¬ own o->G1 o=G o):WPost N K J Pn k go stop own G nx r:=by
 cases r with
 |ret v G' nx'=>
  obtain ⟨h1,own',h0,h2,h3⟩:=h
  exact ⟨by omega,own',fun o h4 h5=>ho o h4 (h0 o (by omega) h5),fun o h4 h5 h6=>(h2 o h4 (by omega) fun h7=>h6 (ho o h5 h7)).trans (hG o h4 h5 h6),h3⟩
 |pan u G' nx'=>exact h
structure Bx (q N yb wb nx:Nat) (own:Own1) (G:Nat->Obj):Prop where
 y:G yb = .box [.yld q] false
 w:G wb = .box [.fn (.func 60) [.ptr yb 0, .ptr wb 0]] false
 yl:N<=yb/\yb < nx/\¬ own yb
 wl:N<=wb/\wb < nx/\¬ own wb
theorem Bx.fr {q N yb wb nx nx':Nat} {own own':Own1} {G G':Nat->Obj} (h:Bx q N yb wb nx own G) (hn:nx<=nx') (ho:∀ o,o < nx->own' o->own o) (hG:∀ o,N<=o->o < nx->¬ own o->G' o=G o):Bx q N yb wb nx' own' G':=
 ⟨(hG _ h.yl.1 h.yl.2.1 h.yl.2.2).trans h.y,(hG _ h.wl.1 h.wl.2.1 h.wl.2.2).trans h.w,⟨h.yl.1,by have:=h.yl.2.1;omega,fun h'=>h.yl.2.2 (ho _ h.yl.2.1 h')⟩,⟨h.wl.1,by have:=h.wl.2.1;omega,fun h'=>h.wl.2.2 (ho _ h.wl.2.1 h')⟩⟩
def From (l m:List Exp) (k:Nat):Prop:=∀ j x,m[j]? = some x->l[k+j]? = some x
def WalkOK (q N:Nat) (l:List Exp) (K:Kp) (J:(Nat->Obj)->Nat->Prop) (Pn:IV->(Nat->Obj)->Nat->Prop) (e:Exp):Prop:=
 ∀ k own yb wb nx G,From l (allE e) k->K k own G nx->Bx q N yb wb nx own G->CalP CC 60 [.imm e.iv, .ptr yb 0, .ptr wb 0] G nx (WPost N K J Pn (k+(allE e).length) (isB true) (isB false) own G nx)
theorem cal83 (hw:Walk q N l K J Pn) {e:Exp} (he:WalkOK q N l K J Pn e) {k yb wb nx:Nat} {own:Own1} {G:Nat->Obj} (hf:From l (allE e) k) (hI:K k own G nx) (hB:Bx q N yb wb nx own G) :
  CalP CC 62 [.imm e.iv, .ptr wb 0] G nx (WPost N K J Pn (k+(allE e).length) (isB false) (isB true) own G nx):=by
 have hc:=fun nx1 G1 (h2:nx<=nx1) (h3:∀ o,o < nx->G1 o=G o)=>he k own yb wb nx1 G1 hf (hw.frame k own G nx G1 nx1 hI h2 h3) (hB.fr (nx':=nx1) h2 (fun _ _ h=>h) fun o _ h _=>h3 o h)
 have hwG:=hB.w
 have hwl:=hB.wl
 obtain ⟨op,name,n',fold,calcs,kids⟩:=e
 refine CalP.of (fn:=Go.Proofs.Try.f62) (by kernel_rfl) rfl rfl ?_
 refine AN ?_
 refine R.callBP rfl rfl rfl rfl rfl ((hc _ _ (by omega) (fun o h2=>at_upd)).mono fun r hr=>?_)
 have hr:=hr.trans (nx:=nx) (own:=own) (G:=G) (by omega) (fun _ _ h=>h) (fun o h1 h2 h3=>at_upd)
 cases r with
 |pan u G' nx'=>exact panTo (by exact hr)
 |ret v G' nx'=>
  obtain ⟨h1,own',h0,h2,⟨rfl,h3⟩|⟨rfl,h3⟩⟩:=hr
  ·refine AN ?_
   exact W.retFinP rfl ⟨by omega,own',h0,h2, .inl ⟨rfl,hw.frame _ _ _ _ _ _ h3 (by omega) fun _ _=>rfl⟩⟩
  ·refine AN ?_
   exact W.retFinP rfl ⟨by omega,own',h0,h2, .inr ⟨rfl,hw.frameJ _ _ _ _ h3 (by omega) fun _ _=>rfl⟩⟩
theorem allEs_split:∀ {kids:List Exp} {i:Nat} {k:Exp},kids[i]? = some k->allEs kids=allEs (kids.take i)++(allE k++allEs (kids.drop (i+1)))
 |[],_,_,h=>by simp at h
 |x::r,0,k,h=>by
  simp at h
  subst h
  simp [allEs]
 |x::r,i+1,k,h=>by
  simp at h
  rw [List.take_succ_cons,List.drop_succ_cons,allEs,allEs,allEs_split h]
  simp
theorem From.kid {kids:List Exp} {i k:Nat} {e:Exp} (h:From l (allEs kids) k) (hi:kids[i]? = some e):From l (allE e) (k+(allEs (kids.take i)).length):=by
 intro j x hx
 have:=h ((allEs (kids.take i)).length+j) x (by
  rw [allEs_split hi,List.getElem?_append_right (by omega)]
  have hj:=(List.getElem?_eq_some_iff.1 hx).1
  rw [show (allEs (kids.take i)).length+j-(allEs (kids.take i)).length=j by omega,List.getElem?_append_left hj]
  exact hx)
 rwa [<-Nat.add_assoc] at this
def isNeg (v:AV):Prop:=v = .imm (.int .i64 (-1))
def isPos (v:AV):Prop:=∃ n:Nat,v = .imm (.int .i64 n)
theorem cal102 (hw:Walk q N l K J Pn) {kids:List Exp} (hk:kids.length<=9223372036854775807) (he:∀ e∈kids,WalkOK q N l K J Pn e) {k yb wb nx:Nat} {own:Own1} {G:Nat->Obj} (hf:From l (allEs kids) k) (hI:K k own G nx) (hB:Bx q N yb wb nx own G) :
  CalP CC 75 [.imm (.lst (Exp.ivs kids)), .fn (.func 62) [.ptr wb 0]] G nx (WPost N K J Pn (k+(allEs kids).length) isNeg isPos own G nx):=by
 have hlk:=ivs_len kids
 refine CalP.of (fn:=Go.Proofs.Try.f75) (by kernel_rfl) rfl rfl ?_
 refine AN ?_
 refine W.loop (X:=Nat×Own1) (fun x=>[(0, .imm (.lst (Exp.ivs kids))),(1, .fn (.func 62) [.ptr wb 0]),(6, .imm (.lst (Exp.ivs kids))),(7, .imm (.int .i64 (Exp.ivs kids).length)),(8, .imm (.int .i64 x.1))])
  (fun x nx1 G1=>nx<=nx1/\(∀ o,o < nx->x.2 o->own o)/\(∀ o,N<=o->o < nx->¬ own o->G1 o=G o)/\x.1<=kids.length/\K (k+(allEs (kids.take x.1)).length) x.2 G1 nx1) (fun x=>kids.length-x.1) (0,own) .auto
  ⟨by omega,fun _ _ h=>h,fun _ _ _ _=>rfl,Nat.zero_le _,hw.frame _ _ _ _ _ _ hI (by omega) fun _ _=>rfl⟩ ?_
 clear hI
 rintro ⟨i,own1⟩ nx1 G1 ⟨hx,ho1,hfr,hi,hI⟩
 dsimp only at ho1 hi hI ⊢
 rcases Bool.eq_false_or_eq_true (decide ((i:Int) < ((Exp.ivs kids).length:Int))) with hc|hc
 ·have hlt:i < kids.length:=by have:=of_decide_eq_true hc;omega
  obtain ⟨kid,hxk⟩:=at_lt hlt
  have hxi:=ivs_at hxk
  have hcl:=kid.cells_len
  have hcal:=fun nx2 (h:nx1<=nx2)=>cal83 (nx:=nx2) hw (he kid (List.mem_of_getElem? hxk)) (hf.kid hxk) (hw.frame _ _ _ _ _ _ hI h fun _ _=>rfl) (hB.fr (nx':=nx2) (by omega) ho1 hfr)
  have hmu:kids.length-(i+1) < kids.length-i:=by omega
  have htk:=allEs_take hxk
  obtain ⟨o',s',m',f',c',k'⟩:=kid
  refine AN ?_
  refine R.callBP rfl rfl rfl rfl rfl ((hcal _ (by omega)).mono fun r hr=>?_)
  have hr:=hr.trans (nx:=nx) (own:=own) (G:=G) (by omega) ho1 hfr
  cases r with
  |pan u G' nx'=>exact panTo (by exact hr)
  |ret v G' nx'=>
   obtain ⟨h1,own',h0,h2,⟨rfl,h3⟩|⟨rfl,h3⟩⟩:=hr
   ·refine AN ?_
    refine W.skipLop (i+1,own') hmu .auto ⟨by omega,h0,h2,hlt,?_⟩
    rw [htk,List.length_append,<-Nat.add_assoc];exact hw.frame _ _ _ _ _ _ h3 (by omega) fun _ _=>rfl
   ·refine AN ?_
    exact W.retFinP rfl ⟨by omega,own',h0,h2, .inr ⟨⟨_,rfl⟩,hw.frameJ _ _ _ _ h3 (by omega) fun _ _=>rfl⟩⟩
 ·have hge:kids.length<=i:=by have:=of_decide_eq_false hc;omega
  rw [List.take_of_length_le hge] at hI
  refine AN ?_
  exact W.retFinP rfl ⟨by omega,own1,ho1,hfr, .inl ⟨rfl,hw.frame _ _ _ _ _ _ hI (by omega) fun _ _=>rfl⟩⟩
theorem cal82 (hw:Walk q N l K J Pn) {kids:List Exp} (hk:kids.length<=9223372036854775807) (he:∀ e∈kids,WalkOK q N l K J Pn e) {k yb wb nx:Nat} {own:Own1} {G:Nat->Obj} (hf:From l (allEs kids) k) (hI:K k own G nx) (hB:Bx q N yb wb nx own G) :
  CalP CC 61 [.imm (.lst (Exp.ivs kids)), .fn (.func 62) [.ptr wb 0]] G nx (WPost N K J Pn (k+(allEs kids).length) (isB false) (isB true) own G nx):=by
 have hc:=fun nx1 (h2:nx<=nx1)=>cal102 hw hk he hf (hw.frame _ _ _ _ _ _ hI h2 fun _ _=>rfl) (hB.fr (nx':=nx1) h2 (fun _ _ h=>h) fun _ _ _ _=>rfl)
 refine CalP.of (fn:=Go.Proofs.Try.f61) (by kernel_rfl) rfl rfl ?_
 refine AN ?_
 refine R.callBP rfl rfl rfl rfl rfl ((hc _ (by omega)).mono fun r hr=>?_)
 have hr:=hr.trans (nx:=nx) (own:=own) (G:=G) (by omega) (fun _ _ h=>h) (fun o h1 h2 h3=>rfl)
 cases r with
 |pan u G' nx'=>exact panTo (by exact hr)
 |ret v G' nx'=>
  obtain ⟨h1,own',h0,h2,⟨rfl,h3⟩|⟨⟨n,rfl⟩,h3⟩⟩:=hr
  ·refine AN ?_
   exact W.retFinP rfl ⟨by omega,own',h0,h2, .inl ⟨rfl,hw.frame _ _ _ _ _ _ h3 (by omega) fun _ _=>rfl⟩⟩
  ·refine AN ?_
   refine W.retFinP rfl ⟨by omega,own',h0,h2, .inr ⟨?_,hw.frameJ _ _ _ _ h3 (by omega) fun _ _=>rfl⟩⟩
   show AV.imm (.bool (decide ((n:Int)>=0))) = .imm (.bool true)
   rw [decide_eq_true (by omega)]
theorem walk_ok (hw:Walk q N l K J Pn) {e:Exp} (hfit:e.Fits):WalkOK q N l K J Pn e:=by
 induction hfit with
 |mk op name n' fold calcs kids hnm hw' hc hk hcs hks ih=>
 intro k own yb wb nx G hf hI hB
 have hk':kids.length<=9223372036854775807:=hk
 have hyl:=hB.yl
 have hwl:=hB.wl
 have hyG:=hB.y
 have h0:=hf 0 _ (by rw [allE];rfl)
 have hkf:From l (allEs kids) (k+1):=fun j x hx=>by
  have:=hf (j+1) x (by rw [allE];simpa using hx)
  rwa [show k+(j+1)=k+1+j by omega] at this
 have hr:=fun nx1 G1 (h:N<=nx1) (h1:nx<=nx1) (h2:∀ o,o < nx->G1 o=G o)=>hw.round k _ own G1 nx1 h0 h (hw.frame k own G nx G1 nx1 hI h1 h2)
 have hlen:k+1+(allEs kids).length=k+(allE (.mk op name n' fold calcs kids)).length:=by rw [allE];simp;omega
 refine CalP.of (fn:=Go.Proofs.Try.f60) (by kernel_rfl) rfl rfl ?_
 refine AN ?_
 refine R.roundP rfl rfl rfl ((hr _ _ (by omega) (by omega) (fun o h=>at_upd)).mono fun r hr=>?_)
 cases r with
 |pan u G' nx'=>exact panTo (by exact hr)
 |ret v G' nx'=>
  obtain ⟨h1,own1,ho1,h2,hv⟩:=hr
  have hnu:¬ own (nx+0):=fun h=>by have:=hw.lt _ _ _ _ hI _ h;omega
  have hfr:∀ o,N<=o->o < nx->¬ own o->G' o=G o:=fun o h4 h5 h6=>(h2 o h4 (by omega) h6).trans at_upd
  rcases hv with ⟨rfl,h3⟩|⟨rfl,h3⟩
  ·have hb:G' (nx+0) = .box [.imm (.int .i64 op), .imm (sv name), .imm (.int .i64 n'), .imm (.int .i64 fold), .imm (.lst (Trm.ivs calcs)), .imm (.lst (Exp.ivs kids))] false:=(h2 _ (by omega) (by omega) hnu).trans at_upd
   have hc:=fun nx1 (h:nx'<=nx1)=>cal82 (nx:=nx1) hw hk' ih hkf (hw.frame _ _ _ _ _ _ h3 h fun _ _=>rfl) (hB.fr (nx':=nx1) (by omega) (fun o h4 h5=>ho1 o (by omega) h5) hfr)
   refine AN ?_
   refine R.callBP rfl rfl rfl rfl rfl ((hc _ (by omega)).mono fun r hr=>?_)
   have hr:=hr.trans (nx:=nx) (own:=own) (G:=G) (by omega) (fun o h4 h5=>ho1 o (by omega) h5) hfr
   rw [hlen] at hr
   cases r with
   |pan u G' nx'=>exact panTo (by exact hr)
   |ret v G' nx'=>
    obtain ⟨g1,own',g0,g2,⟨rfl,g3⟩|⟨rfl,g3⟩⟩:=hr
    ·refine AN ?_
     exact W.retFinP rfl ⟨by omega,own',g0,g2, .inl ⟨rfl,hw.frame _ _ _ _ _ _ g3 (by omega) fun _ _=>rfl⟩⟩
    ·refine AN ?_
     exact W.retFinP rfl ⟨by omega,own',g0,g2, .inr ⟨rfl,hw.frameJ _ _ _ _ g3 (by omega) fun _ _=>rfl⟩⟩
  ·refine AN ?_
   exact W.retFinP rfl ⟨by omega,own1,fun o h4 h5=>ho1 o (by omega) h5,hfr, .inr ⟨rfl,hw.frameJ _ _ _ _ h3 (by omega) fun _ _=>rfl⟩⟩
theorem cal80 {e:Exp} (hw:Walk q N (allE e) K J Pn) (hfit:e.Fits) {nx:Nat} {own:Own1} {G:Nat->Obj} (hn:N<=nx) (hI:K 0 own G nx) :
  CalP CC 59 [.yld q, .imm (.fptr e.iv.cells 0)] G nx fun
   | .ret _ G' nx'=>nx<=nx'/\((∃ own',K (allE e).length own' G' nx')\/J G' nx')
   | .pan u G' nx'=>Pn u G' nx':=by
 have hc:=fun k own yb wb nx G=>walk_ok hw hfit k own yb wb nx G
 have hlt:=hw.lt _ _ _ _ hI
 obtain ⟨op,name,n',fold,calcs,kids⟩:=e
 refine CalP.of (fn:=Go.Proofs.Try.f59) (by kernel_rfl) rfl rfl ?_
 refine AN ?_
 have hB:∀ {G1:Nat->Obj},(∀ o,nx<=o->o < nx+2->G1 o=upd (upd (upd G (nx+0) (.box [.yld q] false)) (nx+1+0) (.box ty101.zero.cells false)) (nx+1+0) (.box [.fn (.func 60) [.ptr (nx+0) 0, .ptr (nx+1+0) 0]] false) o)->Bx q N (nx+0) (nx+1+0) (nx+1+1+2+3) own G1:=fun h=>
  ⟨(h _ (by omega) (by omega)).trans at_upd,(h _ (by omega) (by omega)).trans at_upd,⟨by omega,by omega,fun h=>by have:=hlt _ h;omega⟩,⟨by omega,by omega,fun h=>by have:=hlt _ h;omega⟩⟩
 refine R.callBP rfl rfl rfl rfl rfl ((hc 0 own _ _ _ _ (fun j x hx=>by rwa [Nat.zero_add]) (hw.frame 0 own G nx _ _ hI (by omega) fun o h=>at_upd) (hB fun o h1 h2=>rfl)).mono fun r hr=>?_)
 cases r with
 |pan u G' nx'=>exact panTo (by exact hr)
 |ret v G' nx'=>
  obtain ⟨h1,own',h0,h2,h3⟩:=hr
  rw [Nat.zero_add] at h3
  refine AN ?_
  refine W.skipFinP rfl ⟨by omega,?_⟩
  rcases h3 with ⟨_,h3⟩|⟨_,h3⟩
  ·exact .inl ⟨own',h3⟩
  ·exact .inr h3
theorem W.nodesK {f:Operand} {ps:Array Nat} {assign body:Code} {fid nt nx:Nat} {lv:Env} {G:Nat->Obj} {df:List (AV×List AV)} {pk:Pk} {Φ:Out->Prop} (e:Exp) (hfit:e.Fits)
  (K:Kp) (J:(Nat->Obj)->Nat->Prop) (Pn:IV->(Nat->Obj)->Nat->Prop)
  (hf:lookO lv f=some (.imm (.fn (.func 59) [.fptr e.iv.cells 0]))) (hpk:pk.isRnd=false) (hfn:(CC.fn fid).isSome=true) (hps:ps.toList.length=1) (hps2:(ps.toList.all fun t=>decide (t < nt))=true)
  (hK:∀ i own G n G' n',K i own G n->n<=n'->(∀ o,o < n->o≠nx->G' o=G o)->K i own G' n') (hlt:∀ i own G n,K i own G n->∀ o,own o->nx+2<=o/\o < n)
  (hJ:∀ G n G' n',J G n->n<=n'->(∀ o,o < n->o≠nx->G' o=G o)->J G' n') (h0:K 0 (fun _=>False) G nx)
  (hround:∀ (q i:Nat) x own G1 nx1 (lp0 lp1:Obj) (Φr:Out->Prop),q=nx->(allE e)[i]? = some x->q+2<=nx1->K i own G1 nx1->G1 q=lp0 ->
   (∀ {f' l' G' nx'} (own':Own1),nx1<=nx'->(∀ o,o < nx1->own' o->own o)->(∀ o,q+2<=o->o < nx1->¬ own o->G' o=G1 o)->K (i+1) own' G' nx'->G' q=lp1->W CC f' nt .skip l' G' nx' [] .rnd Φr) ->
   (∀ {l' G' nx'} (own':Own1),nx1<=nx'->(∀ o,o < nx1->own' o->own o)->(∀ o,q+2<=o->o < nx1->¬ own o->G' o=G1 o)->J G' nx'->G' q=lp1->W CC fid nt .ret l' G' nx' [] .rnd Φr) ->
   (∀ {l':Env} {u G' nx'},Pn u G' nx'->∀ t,Agree t l'->Φr (.pan u ⟨t,G',nx',[], .rnd⟩)) ->
   W CC fid nt assign (bindE lv (ps.toList.zip [.imm x.iv])) G1 nx1 [] .rnd (astQ CC q lp0 lp1 fid nt body Φr))
  (hend:∀ own G1 nx1,K (allE e).length own G1 nx1->nx<=nx1->W CC fid nt .skip lv G1 nx1 df pk Φ)
  (hret:∀ G1 nx1,J G1 nx1->nx<=nx1->W CC fid nt .ret lv G1 nx1 df pk Φ)
  (hpan:∀ u G1 nx1,Pn u G1 nx1->∀ t,Agree t lv->Φ (.pan u ⟨t,G1,nx1,df,pk⟩)):W CC fid nt (.rangeFunc f ps assign body) lv G nx df pk Φ:=by
 refine W.rangeP hf rfl rfl hpk fun t ht=>?_
 have hw:Walk nx (nx+2) (allE e) (fun i own G1 n=>nx < n/\K i own G1 n/\G1 nx = .lp t nt ps.toList assign body fid 0 none) (fun G1 n=>nx < n/\J G1 n/\G1 nx = .lp t nt ps.toList assign body fid 2 (some .ret)) Pn:=by
  refine ⟨fun i own G n G' n' ⟨h0,h1,h2⟩ hn hG=>⟨by omega,hK _ _ _ _ _ _ h1 hn fun o h _=>hG o h,(hG nx h0).trans h2⟩,fun i own G n ⟨h0,h1,h2⟩ o ho=>(hlt _ _ _ _ h1 o ho).2,fun G n G' n' ⟨h0,h1,h2⟩ hn hG=>⟨by omega,hJ _ _ _ _ h1 hn fun o h _=>hG o h,(hG nx h0).trans h2⟩,?_⟩
  rintro i x own G1 nx1 hx hn ⟨h0,h1,h2⟩
  refine RndP.of hfn h2 ht (by rw [hps];rfl) hps2 ?_
  refine W.mono (Φ:=astQ CC nx (.lp t nt ps.toList assign body fid 0 none) (.lp t nt ps.toList assign body fid 1 none) fid nt body (frdP nx fun
   | .ret v G' nx'=>nx1<=nx'/\∃ own',(∀ o,o < nx1->own' o->own o)/\(∀ o,nx+2<=o->o < nx1->¬ own o->G' o=G1 o)/\((v = .imm (.bool true)/\(nx < nx'/\K (i+1) own' G' nx'/\G' nx = .lp t nt ps.toList assign body fid 0 none))\/(v = .imm (.bool false)/\(nx < nx'/\J G' nx'/\G' nx = .lp t nt ps.toList assign body fid 2 (some .ret))))
   | .pan u G' nx'=>Pn u G' nx')) (hround nx i x own G1 nx1 (.lp t nt ps.toList assign body fid 0 none) (.lp t nt ps.toList assign body fid 1 none) _ rfl hx hn h1 h2 ?_ ?_ ?_) fun o ho=>?_
  ·intro f' l' G' nx' own' h3 h4 h5 h6 h7
   exact W.skipFrdP h7 ⟨h3,own',h4,fun o h8 h9 h10=>(upd_ne _ _ _ _ (by omega)).trans (h5 o h8 h9 h10), .inl ⟨rfl,by omega,hK _ _ _ _ _ _ h6 (Nat.le_refl _) fun o _ h=>upd_ne _ _ _ _ h,upd_same _ _ _⟩⟩
  ·intro l' G' nx' own' h3 h4 h5 h6 h7
   exact W.retFrdP h7 ⟨h3,own',h4,fun o h8 h9 h10=>(upd_ne _ _ _ _ (by omega)).trans (h5 o h8 h9 h10), .inr ⟨rfl,by omega,hJ _ _ _ _ h6 (Nat.le_refl _) fun o _ h=>upd_ne _ _ _ _ h,upd_same _ _ _⟩⟩
  ·intro l' u G' nx' h3 t _
   exact ⟨rfl,h3⟩
  ·cases o with
   |norm s=>
    obtain ⟨h3,h4⟩:=ho
    exact ⟨_,_,_,_,_,_,_,h3,h4⟩
   |_=>exact ho
 have hc:=cal80 hw hfit (nx:=nx+2) (own:=fun _=>False) (G:=upd G nx (.lp t nt ps.toList assign body fid 0 none)) (by omega) ⟨by omega,hK _ _ _ _ _ _ h0 (by omega) fun o h h'=>upd_ne _ _ _ _ h',upd_same _ _ _⟩
 obtain ⟨n,r,h1,h2⟩:=hc
 refine ⟨n,r,h1,?_⟩
 cases r with
 |pan u G' nx'=>exact hpan u G' nx' h2 t ht
 |ret v G' nx'=>
  obtain ⟨h3,⟨own',h4,h5,h6⟩|⟨h4,h5,h6⟩⟩:=h2
  ·exact ⟨_,_,_,_,_,_,_,_,h6,by decide,(hend own' _ nx' (hK _ _ _ _ _ _ h5 (Nat.le_refl _) fun o _ h=>upd_ne _ _ _ _ h) (by omega)).skipI t ht⟩
  ·exact ⟨_,_,_,_,_,_,_,_,h6,by decide,(hret _ nx' (hJ _ _ _ _ h5 (Nat.le_refl _) fun o _ h=>upd_ne _ _ _ _ h) (by omega)).retI t ht⟩
theorem W.nodes {f:Operand} {ps:Array Nat} {assign body:Code} {fid nt nx:Nat} {lv:Env} {G:Nat->Obj} {df:List (AV×List AV)} {pk:Pk} {Φ:Out->Prop} (e:Exp) (hfit:e.Fits)
  (I:Nat->(Nat->Obj)->Prop) (J:(Nat->Obj)->Prop) (Pn:IV->(Nat->Obj)->Nat->Prop)
  (hf:lookO lv f=some (.imm (.fn (.func 59) [.fptr e.iv.cells 0]))) (hpk:pk.isRnd=false) (hfn:(CC.fn fid).isSome=true) (hps:ps.toList.length=1) (hps2:(ps.toList.all fun t=>decide (t < nt))=true)
  (hI:∀ i G G',I i G->(∀ o,o < nx->G' o=G o)->I i G') (hJ:∀ G G',J G->(∀ o,o < nx->G' o=G o)->J G') (h0:I 0 G)
  (hround:∀ (q i:Nat) x G1 nx1 (lp0 lp1:Obj) (Φr:Out->Prop),q=nx->(allE e)[i]? = some x->q+2<=nx1->I i G1->G1 q=lp0 ->
   (∀ {f' l' G' nx'},nx1<=nx'->(∀ o,q+2<=o->o < nx1->G' o=G1 o)->I (i+1) G'->G' q=lp1->W CC f' nt .skip l' G' nx' [] .rnd Φr) ->
   (∀ {l' G' nx'},nx1<=nx'->(∀ o,q+2<=o->o < nx1->G' o=G1 o)->J G'->G' q=lp1->W CC fid nt .ret l' G' nx' [] .rnd Φr) ->
   (∀ {l':Env} {u G' nx'},Pn u G' nx'->∀ t,Agree t l'->Φr (.pan u ⟨t,G',nx',[], .rnd⟩)) ->
   W CC fid nt assign (bindE lv (ps.toList.zip [.imm x.iv])) G1 nx1 [] .rnd (astQ CC q lp0 lp1 fid nt body Φr))
  (hend:∀ G1 nx1,I (allE e).length G1->nx<=nx1->W CC fid nt .skip lv G1 nx1 df pk Φ)
  (hret:∀ G1 nx1,J G1->nx<=nx1->W CC fid nt .ret lv G1 nx1 df pk Φ)
  (hpan:∀ u G1 nx1,Pn u G1 nx1->∀ t,Agree t lv->Φ (.pan u ⟨t,G1,nx1,df,pk⟩)):W CC fid nt (.rangeFunc f ps assign body) lv G nx df pk Φ:=by
 refine W.nodesK e hfit (fun i own G1 n=>nx<=n/\(∀ o,¬ own o)/\I i G1) (fun G1 n=>nx<=n/\J G1) Pn hf hpk hfn hps hps2
  (fun i own G n G' n' ⟨h0,h1,h2⟩ hn hG=>⟨by omega,h1,hI i G G' h2 fun o h=>hG o (by omega) (by omega)⟩) (fun i own G n ⟨h0,h1,h2⟩ o ho=>(h1 o ho).elim)
  (fun G n G' n' ⟨h0,h1⟩ hn hG=>⟨by omega,hJ G G' h1 fun o h=>hG o (by omega) (by omega)⟩) ⟨Nat.le_refl _,fun _ h=>h,h0⟩ ?_ (fun own G1 nx1 ⟨_,_,h⟩ hn=>hend G1 nx1 h hn) (fun G1 nx1 ⟨_,h⟩ hn=>hret G1 nx1 h hn) hpan
 rintro q i x own G1 nx1 lp0 lp1 Φr hq hx hn ⟨h0,h1,h2⟩ hlp next stop pan
 refine hround q i x G1 nx1 lp0 lp1 Φr hq hx hn h2 hlp (fun h3 h4 h5 h6=>next (fun _=>False) h3 (fun _ _ h=>h.elim) (fun o h7 h8 _=>h4 o h7 h8) ⟨by omega,fun _ h=>h,h5⟩ h6) (fun h3 h4 h5 h6=>stop (fun _=>False) h3 (fun _ _ h=>h.elim) (fun o h7 h8 _=>h4 o h7 h8) ⟨by omega,h5⟩ h6) pan
end Go.Abs

/- What a graph's nodes reach; how it is found, depth first. (No program in sight.) -/
namespace Go.Abs
theorem Reach.head {tos:List (List Nat)} {i k j:Nat} (hk:k∈tos.getD i []) (h:Reach tos k j):Reach tos i j:=by
 induction h with
 |one h=>exact .more (.one hk) h
 |more _ h ih=>exact .more ih h
theorem Reach.trans {tos:List (List Nat)} {i k j:Nat} (h0:Reach tos i k) (h:Reach tos k j):Reach tos i j:=by
 induction h with
 |one h=>exact .more h0 h
 |more _ h ih=>exact .more ih h
theorem nodup_le {α:Type} [BEq α] [LawfulBEq α]:∀ (a b:List α),a.Nodup->(∀ x∈a,x∈b)->a.length<=b.length
 |[],b,_,_=>by simp
 |x::r,b,hn,h=>by
  have hx:=h x (by simp)
  rw [List.nodup_cons] at hn
  have:=nodup_le r (b.erase x) hn.2 fun y hy=>by
   have hne:y≠x:=fun e=>hn.1 (e▸hy)
   exact (List.mem_erase_of_ne hne).2 (h y (by simp [hy]))
  rw [List.length_erase_of_mem hx] at this
  have:0 < b.length:=List.length_pos_of_mem hx
  simp only [List.length_cons];omega
theorem nodup_lt {a:List Nat} {n:Nat} (hn:a.Nodup) (h:∀ x∈a,x < n):a.length<=n:=by
 have:=nodup_le a (List.range n) hn fun x hx=>by simpa using h x hx
 simpa using this
structure Dfs (tos:List (List Nat)) (d:Nat) (done out out':List Nat):Prop where
 ext:∃ new,out'=out++new
 nodup:out'.Nodup
 bnd:∀ x∈out',x < tos.length
 snd:∀ x∈out',x∈out\/Reach tos d x
 hit:∀ x∈done,x∈out'
 clos:∀ x∈out',x∈out\/∀ y∈tos.getD x [],y∈out'
variable {tos:List (List Nat)} {d k:Nat} {done out out1 out2:List Nat}
theorem Dfs.init (hn:out.Nodup) (hb:∀ x∈out,x < tos.length):Dfs tos d [] out out:=
 ⟨⟨[],by simp⟩,hn,hb,fun _ h => .inl h,(fun _ h=>by cases h),fun _ h => .inl h⟩
theorem Dfs.sub (h:Dfs tos d done out out1):∀ x∈out,x∈out1:=by
 obtain ⟨new,rfl⟩:=h.ext
 intro x hx;simp [hx]
theorem Dfs.skip (h:Dfs tos d done out out1) (hk:k∈out1):Dfs tos d (done++[k]) out out1:=
 ⟨h.ext,h.nodup,h.bnd,h.snd,(fun x hx=>(List.mem_append.1 hx).elim (h.hit x) fun hx=>by rw [List.mem_singleton.1 hx];exact hk),h.clos⟩
theorem Dfs.start (h:Dfs tos d done out out1) (hk:k∉out1) (hb:k < tos.length):(out1++[k]).Nodup/\(∀ x∈out1++[k],x < tos.length):=by
 refine ⟨?_,fun x hx=>?_⟩
 ·rw [List.nodup_append]
  exact ⟨h.nodup,by simp,fun a ha b hb=>by rw [List.mem_singleton.1 hb];exact fun e=>hk (e▸ha)⟩
 ·rcases List.mem_append.1 hx with hx|hx
  ·exact h.bnd x hx
  ·rw [List.mem_singleton.1 hx];exact hb
theorem Dfs.step (h:Dfs tos d done out out1) (hk:k∈tos.getD d []) (h2:Dfs tos k (tos.getD k []) (out1++[k]) out2):Dfs tos d (done++[k]) out out2:=by
 have hs:∀ x∈out1,x∈out2:=fun x hx=>h2.sub x (by simp [hx])
 refine ⟨?_,h2.nodup,h2.bnd,fun x hx=>?_,fun x hx=>?_,fun x hx=>?_⟩
 ·obtain ⟨a,ha⟩:=h.ext
  obtain ⟨b,hb⟩:=h2.ext
  exact ⟨a++[k]++b,by rw [hb,ha];simp⟩
 ·rcases h2.snd x hx with hx|hx
  ·rcases List.mem_append.1 hx with hx|hx
   ·exact h.snd x hx
   ·rw [List.mem_singleton.1 hx];exact .inr (.one hk)
  ·exact .inr (.head hk hx)
 ·rcases List.mem_append.1 hx with hx|hx
  ·exact hs x (h.hit x hx)
  ·rw [List.mem_singleton.1 hx];exact h2.sub k (by simp)
 ·rcases h2.clos x hx with hx|hx
  ·rcases List.mem_append.1 hx with hx|hx
   ·rcases h.clos x hx with hx|hx
    ·exact .inl hx
    ·exact .inr fun y hy=>hs y (hx y hy)
   ·rw [List.mem_singleton.1 hx];exact .inr h2.hit
  ·exact .inr hx
theorem Dfs.fin (h:Dfs tos d (tos.getD d []) [] out1) (x:Nat):x∈out1↔Reach tos d x:=by
 refine ⟨fun hx=>(h.snd x hx).elim (fun h=>by cases h) id,fun hx=>?_⟩
 induction hx with
 |one hx=>exact h.hit _ hx
 |more _ hj ih=>exact (h.clos _ ih).elim (fun h=>by cases h) fun h=>h _ hj
end Go.Abs

/- Programs that are looked at: what a definition reaches. -/
open Go Go.Abs
namespace Go.Abs
set_option maxRecDepth 100000
set_option maxHeartbeats 4000000
def ty74:TyI:={ d:=TyD.mp 3 4,sz:=1,bytes:=8,zero:=AV.imm IV.nilmap }
instance tyis74:TyIs CC 46 ty74:=⟨by kernel_rfl⟩
instance fnis47:FnIs CC 12:=⟨rfl,fun _=>rfl⟩
instance fnis49:FnIs CC 36:=⟨rfl,fun _=>rfl⟩
theorem ret49 (e:Exp):Ret CC 36 [e.iv] (.fn (.func 59) [.fptr e.iv.cells 0]):=by
 obtain ⟨op,name,n',fold,calcs,kids⟩:=e
 refine Ret.of (fn:=Go.Proofs.Try.f36) (by kernel_rfl) rfl rfl ?_
 refine AA ?_
 exact W.retFin1 rfl ⟨[0],rfl⟩
def scopeIV (p:Pgm) (ahead n:Int):IV := .fptr [numIV p.srcs,numIV (defNames p),shapesIV, .int .i64 ahead, .int .i64 n] 0
def setIV (l:List Nat):IV := .fmp (l.map natIV) (l.map fun _ => .bool true)
def setObj (l:List Nat):Obj := .mp (l.map natIV) ((l.map fun _=>IV.bool true).map .imm) false
def stepsN (names:List Str) (l:List Exp):List Nat:=(l.filter namesDef).map fun x=>idxN names x.name
theorem natKey (k:Nat):∀ l:List Nat,keyFind (natIV k) (l.map natIV)=some (l.findIdx? fun x=>k==x)
 |[]=>rfl
 |x::r=>by
  have e:scalarEq (natIV k) (natIV x)=some (k==x):=by
   show (if IntKind.i64=IntKind.i64 then some (((k:Nat):Int)==((x:Nat):Int)) else none)=_
   rw [if_pos rfl]
   congr 1
   by_cases h:k=x
   ·subst h;simp
   ·have:¬ (k:Int)=(x:Int):=by omega
    rw [beq_eq_false_iff_ne.2 h,beq_eq_false_iff_ne.2 this]
  rw [List.map_cons,keyFind,e,List.findIdx?_cons]
  cases k==x with
  |true=>rfl
  |false=>simp only [natKey k r];rfl
theorem findIdx_contains' {α:Type} [BEq α] [LawfulBEq α] (s:α):∀ l:List α,(l.findIdx? fun x=>s==x).isSome=l.contains s
 |[]=>rfl
 |x::r=>by
  rw [List.findIdx?_cons,List.contains_cons]
  cases h:s==x with
  |true=>simp
  |false=>
   simp only [Bool.false_or]
   rw [<-findIdx_contains' s r]
   cases (r.findIdx? fun x=>s==x)<;>rfl
theorem findIdx_lt' {α:Type} [BEq α] {s:α} {j:Nat}:∀ {l:List α},(l.findIdx? fun x=>s==x)=some j->j < l.length
 |[],h=>by cases h
 |x::r,h=>by
  rw [List.findIdx?_cons] at h
  split at h
  ·cases h;simp
  ·cases hr:r.findIdx? fun x=>s==x with
   |none=>rw [hr] at h;cases h
   |some k=>
    rw [hr] at h
    cases h
    have:=findIdx_lt' hr
    simp;omega
theorem setLook (l:List Nat) (k:Nat):lookIs (some ty3) (some ty4) (some (l.map natIV,(l.map fun _=>IV.bool true).map .imm)) (natIV k) false (.imm (.bool (l.contains k))):=by
 refine ⟨rfl,?_⟩
 rw [natKey,<-findIdx_contains']
 cases h:l.findIdx? fun x=>k==x with
 |none=>exact .inr ⟨rfl,rfl⟩
 |some j=>
  have:=findIdx_lt' h
  refine .inl ⟨j, .imm (.bool true),rfl,?_,rfl⟩
  simp [this]
theorem setNew {l:List Nat} {k:Nat} (h:l.contains k=false):keyFind (natIV k) (l.map natIV)=some none:=by
 rw [natKey]
 rw [<-findIdx_contains'] at h
 cases h':l.findIdx? fun x=>k==x with
 |none=>rfl
 |some j=>rw [h'] at h;cases h
theorem setObj_add (l:List Nat) (k:Nat):setObj (l++[k]) = .mp (l.map natIV++[natIV k]) ((l.map fun _=>IV.bool true).map .imm++[.imm (.bool true)]) false:=by
 unfold setObj;simp
theorem stepsN_take {names:List Str} {l:List Exp} {x:Exp} {i:Nat} (h:l[i]? = some x):stepsN names (l.take (i+1))=stepsN names (l.take i)++(if namesDef x then [idxN names x.name] else []):=by
 unfold stepsN
 rw [List.take_add_one,h,List.filter_append,List.map_append]
 congr 1
 simp only [Option.toList,List.filter_cons,List.filter_nil]
 split<;>rfl
structure Lb (p:Pgm) (ahead n:Int) (M pb sb ob lb nx:Nat) (G:Nat->Obj):Prop where
 bp:G pb = .box [.imm (.lst (p.srcs.map sv)), .imm (.lst (p.defs.map Dfn.iv))] false
 bs:G sb = .box [.imm (scopeIV p ahead n)] false
 bo:G ob = .box [.map M] false
 bl:G lb = .box [.fn (.func 37) [.ptr pb 0, .ptr sb 0, .ptr ob 0, .ptr lb 0]] false
 lt:(M < nx/\pb < nx/\sb < nx/\ob < nx/\lb < nx)/\M≠pb/\M≠sb/\M≠ob/\M≠lb
theorem Lb.fr {p:Pgm} {ahead n:Int} {M pb sb ob lb nx nx':Nat} {G G':Nat->Obj} (h:Lb p ahead n M pb sb ob lb nx G) (hn:nx<=nx') (hG:∀ o,o < nx->o≠M->G' o=G o):Lb p ahead n M pb sb ob lb nx' G':=by
 obtain ⟨h1,h2,h3,h4,⟨a,b,c,d,e⟩,f,g,i,j⟩:=h
 exact ⟨(hG _ b (Ne.symm f)).trans h1,(hG _ c (Ne.symm g)).trans h2,(hG _ d (Ne.symm i)).trans h3,(hG _ e (Ne.symm j)).trans h4,by omega⟩
structure Tos (p:Pgm) (tos:List (List Nat)):Prop where
 len:tos.length=p.defs.length
 at':∀ (i:Nat) d,p.defs[i]? = some d->tos.getD i []=stepsN (defNames p) (allE d.exp)
 lt:∀ (i:Nat) d,p.defs[i]? = some d->∀ k∈stepsN (defNames p) (allE d.exp),k < tos.length
theorem cal78 {p:Pgm} (hp:p.Fits) {tos:List (List Nat)} (ht:Tos p tos) {ahead n:Int}:∀ (m d:Nat) (out:List Nat) (M pb sb ob lb nx:Nat) (G:Nat->Obj),tos.length-out.length<=m->out.Nodup->(∀ x∈out,x < tos.length)->d < tos.length->Lb p ahead n M pb sb ob lb nx G->G M=setObj out ->
  CalP CC 37 [.imm (natIV d), .ptr pb 0, .ptr sb 0, .ptr ob 0, .ptr lb 0] G nx fun
   | .ret v G' nx'=>v = .imm (.tup [])/\nx<=nx'/\(∀ o,o < nx->o≠M->G' o=G o)/\∃ out',G' M=setObj out'/\Dfs tos d (tos.getD d []) out out'
   | .pan _ _ _=>False:=by
 intro m
 induction m using Nat.strongRecOn with
 |ind m ih=>
 intro d out M pb sb ob lb nx G hm hnd hbd hd hL hM
 obtain ⟨⟨l1,l2,l3,l4,l5⟩,n1,n2,n3,n4⟩:=hL.lt
 obtain ⟨df,hx⟩:∃ df,p.defs[d]? = some df:=at_lt (by rw [<-ht.len];exact hd)
 have hxi:=at_map Dfn.iv hx
 have hdc:=df.cells_len
 have hfit:=hp.exp df (List.mem_of_getElem? hx)
 have hr49:=ret49 df.exp
 have hat:=ht.at' d df hx
 have hlt:=ht.lt d df hx
 have hbp:=hL.bp
 rw [<-hat] at hlt
 refine CalP.of (fn:=Go.Proofs.Try.f37) (by kernel_rfl) rfl rfl ?_
 obtain ⟨nm,e⟩:=df
 obtain ⟨op,name,n',fold,calcs,kids⟩:=e
 refine AN ?_
 refine W.nodes _ hfit (fun i G1=>(∀ o,o < nx->o≠M->G1 o=G o)/\∃ out1,G1 M=setObj out1/\Dfs tos d (stepsN (defNames p) ((allE (.mk op name n' fold calcs kids)).take i)) out out1) (fun _=>False) (fun _ _ _=>False)
  rfl rfl rfl rfl rfl ?_ ?_ ?_ ?_ ?_ ?_ ?_
 ·rintro i G1 G2 ⟨h1,out1,h2,h3⟩ hG
  exact ⟨fun o h4 h5=>(hG o (by omega)).trans (h1 o h4 h5),out1,(hG M (by omega)).trans h2,h3⟩
 ·intro _ _ h;exact h.elim
 ·exact ⟨fun o _ _=>rfl,out,hM, .init hnd hbd⟩
 ·rintro q i x G1 nx1 lp0 lp1 Φr hq hxa hn ⟨h1,out1,h2,h3⟩ hlp next _ _
  have hst:=stepsN_take (names:=defNames p) hxa
  rw [hst] at next
  have hL1:Lb p ahead n M pb sb ob lb nx1 G1:=hL.fr (by omega) h1
  have hmem:namesDef x=true->idxN (defNames p) x.name∈tos.getD d []:=fun h=>by
   rw [hat]
   exact List.mem_map.2 ⟨x,List.mem_filter.2 ⟨List.mem_of_getElem? hxa,h⟩,rfl⟩
  obtain ⟨op',name',m',fold',calcs',kids'⟩:=x
  refine W.regionN ?_
  refine AQ ?_
  refine R.doneAstQ at_upd ?_
  have hbs:=hL1.bs
  have hbo:=hL1.bo
  have hbl:=hL1.bl
  have hL2:=numLook0 (defNames p) name'
  have hL2':(Exp.mk op' name' m' fold' calcs' kids').name=name':=rfl
  rw [hL2'] at hmem next
  generalize idxN (defNames p) name'=k at *
  have hset:=setLook out1 k
  refine W.gen' (fun G2=>G2 (nx1+0) = .box [.imm (.int .i64 op'), .imm (sv name'), .imm (.int .i64 m'), .imm (.int .i64 fold'), .imm (.lst (Trm.ivs calcs')), .imm (.lst (Exp.ivs kids'))] false/\G2 q=lp1/\∀ o,o < nx1->o≠q->G2 o=G1 o) ⟨at_upd,at_upd,fun o _ _=>at_upd⟩ ?_
  rintro G2 ⟨hbx,hlp2,hfr2⟩
  have hM2:G2 M=setObj out1:=(hfr2 M (by omega) (by omega)).trans h2
  have hbs2:=(hfr2 sb (by omega) (by omega)).trans hbs
  have hbo2:=(hfr2 ob (by omega) (by omega)).trans hbo
  have hbl2:=(hfr2 lb (by omega) (by omega)).trans hbl
  have hset2:lookIs (some ty3) (some ty4) (mapKV G2 (.map M)) (natIV k) false (.imm (.bool (out1.contains k))):=by
   simp only [mapKV,hM2,setObj];exact hset
  have hnext:∀ {f':Nat} {G3:Nat->Obj} {nx3:Nat} {l3:Env} {out3:List Nat},nx1<=nx3->(∀ o,o < nx1->o≠M->G3 o=G2 o)->G3 M=setObj out3->Dfs tos d (stepsN (defNames p) (List.take i (allE (Exp.mk op name n' fold calcs kids)))++if namesDef (Exp.mk op' name' m' fold' calcs' kids')=true then [k] else []) out out3 ->
    W CC f' Go.Proofs.Try.f37.ntmps .skip l3 G3 nx3 [] .rnd Φr:=by
   intro f' G3 nx3 l3 out3 g1 g2 g3 g4
   refine next g1 (fun o g5 g6=>?_) ⟨fun o g5 g6=>?_,out3,g3,g4⟩ ((g2 q (by omega) (by omega)).trans hlp2)
   ·rw [g2 o (by omega) (by omega),hfr2 o (by omega) (by omega)]
   ·rw [g2 o (by omega) g6,hfr2 o (by omega) (by omega),h1 o g5 g6]
  clear hset hbs hbo hbl h2 hlp next
  have hcase:((op' != 2)=true/\(op' != 3)=true)\/((op' != 2)=false\/((op' != 2)=true/\(op' != 3)=false)):=by
   cases op' != 2<;>cases op' != 3<;>simp
  rcases hcase with ⟨hA,hB⟩|hyes
  ·have hnd:namesDef (.mk op' name' m' fold' calcs' kids')=false:=by
    show (op'==2||op'==3)=false
    simp at hA hB
    simp [hA,hB]
   rw [hnd,if_neg (by decide),List.append_nil] at hnext
   refine AN ?_
   exact hnext (by omega) (fun o _ _=>rfl) hM2 h3
  ·have hnd:namesDef (.mk op' name' m' fold' calcs' kids')=true:=by
    show (op'==2||op'==3)=true
    simp at hyes
    rcases hyes with h|⟨_,h⟩<;>simp [h]
   rw [hnd,if_pos rfl] at hnext
   have hmem:=hmem hnd
   rcases Bool.eq_false_or_eq_true (out1.contains k) with hC|hC
   ·have hC':(!out1.contains k)=false:=by rw [hC];rfl
    rcases hyes with hA|⟨hA,hB⟩
    all_goals
     refine AN ?_
     exact hnext (by omega) (fun o _ _=>rfl) hM2 (h3.skip (by simpa using hC))
   ·have hC':(!out1.contains k)=true:=by rw [hC];rfl
    have hnk:k∉out1:=by simpa using hC
    have hkl:=hlt k hmem
    obtain ⟨e1,e2⟩:=h3.start hnk hkl
    have hle:=nodup_lt e1 e2
    rw [List.length_append] at hle
    simp only [List.length_cons,List.length_nil] at hle
    rcases hyes with hA|⟨hA,hB⟩
    all_goals
     refine AN ?_
     refine R.opN1 (O.mapNew rfl inferInstance rfl rfl rfl hM2 rfl (setNew hC)) ?_
     refine R.done ?_
     refine AN ?_
     refine R.callBP rfl rfl rfl rfl rfl ((ih (tos.length-(out1.length+1)) (by have:=h3.ext;obtain ⟨new,hnew⟩:=this;rw [hnew,List.length_append] at hle ⊢;omega) k (out1++[k]) M pb sb ob lb _ _ (by simp) e1 e2 hkl (hL.fr (by omega) fun o g5 g6=>?_) ?_).mono fun r hr=>?_)
     ·rw [upd_ne _ _ _ _ g6,hfr2 o (by omega) (by omega),h1 o g5 g6]
     ·rw [upd_same,setObj_add]
     cases r with
     |pan u G4 nx4=>exact hr.elim
     |ret v G4 nx4=>
      obtain ⟨rfl,g1,g2,out2,g3,g4⟩:=hr
      refine AN ?_
      exact hnext (by omega) (fun o g5 g6=>by rw [g2 o (by omega) g6,upd_ne _ _ _ _ g6]) g3 (h3.step hmem g4)
 ·rintro G1 nx1 ⟨h1,out1,h2,h3⟩ hn
  rw [List.take_length,<-hat] at h3
  refine AN ?_
  exact W.skipFinP rfl ⟨rfl,by omega,h1,out1,h2,h3⟩
 ·intro _ _ h;exact h.elim
 ·intro _ _ _ h;exact h.elim
theorem ret47 {p:Pgm} (hp:p.Fits) {tos:List (List Nat)} (ht:Tos p tos) (ahead n:Int) {d:Nat} (hd:d < tos.length) :
  ∃ out,out.Nodup/\(∀ x∈out,x < tos.length)/\(∀ x,x∈out↔Reach tos d x)/\Ret CC 12 [scopeIV p ahead n,p.iv,natIV d] (setIV out):=by
 have key:Cal CC 12 ([scopeIV p ahead n,p.iv,natIV d].map .imm) (fun _ => .gone) 0 fun v G' _=>∃ out,Dfs tos d (tos.getD d []) [] out/\∃ ids,peek G' pkDepth v=some (setIV out,ids):=by
  obtain ⟨srcs,defs⟩:=p
  refine Cal.of (fn:=Go.Proofs.Try.f12) (by kernel_rfl) rfl rfl ?_
  refine AA ?_
  refine R.callBP rfl rfl rfl rfl rfl ((cal78 hp ht (ahead:=ahead) (n:=n) tos.length d [] (0+3+0) (0+1) (0+0) (0+3+1) (0+3+3+0) _ _ (by simp) (by simp) (by simp) hd ⟨rfl,rfl,rfl,rfl,by omega⟩ rfl).mono fun r hr=>?_)
  cases r with
  |pan u G4 nx4=>exact hr.elim
  |ret v G4 nx4=>
   obtain ⟨rfl,g1,g2,out2,g3,g4⟩:=hr
   have g5:G4 (0+3+1) = .box [.map (0+3+0)] false:=(g2 _ (by omega) (by omega)).trans rfl
   refine AN ?_
   exact W.retFin1 rfl ⟨out2,g4,peek_mp g3⟩
 obtain ⟨n',v,G',nx',h1,out,h2,ids,h3⟩:=key
 exact ⟨out,h2.nodup,h2.bnd,h2.fin,n',v,G',nx',_,ids,h1,h3⟩
end Go.Abs

/- Rings, and what reaches itself; names that are fresh, and different. (No program in sight.) -/
open Go Go.Abs
namespace Go.Abs
set_option maxRecDepth 100000
/-! ### different names -/
theorem getD_append_left {a b:List Str} {i:Nat} (h:i < a.length):(a++b).getD i []=a.getD i []:=by
 simp [List.getD_eq_getElem?_getD,List.getElem?_append_left h]
theorem getD_append_right {a b:List Str} {i:Nat}:(a++b).getD (a.length+i) []=b.getD i []:=by
 simp [List.getD_eq_getElem?_getD,List.getElem?_append_right]
theorem diff_append (a b:List Str):diff (a++b)=(fresh [] a&&fresh a b):=by
 unfold diff fresh
 rw [List.length_append,List.range_add,List.all_append,List.all_map]
 congr 1
 ·rw [Bool.eq_iff_iff,List.all_eq_true,List.all_eq_true]
  constructor <;>
  ·intro h i hi
   have hl:i < a.length:=by simpa using hi
   have:=h i hi
   unfold okAt at *
   rw [getD_append_left hl,List.take_append_of_le_length (by omega)] at *
   simpa using this
 ·have key:∀ i,i < b.length->(nameOk ((a++b).getD (a.length+i) []) && !((a++b).take (a.length+i)).contains ((a++b).getD (a.length+i) []))=okAt a b i:=by
   intro i hi
   unfold okAt
   rw [getD_append_right,List.take_append,List.take_of_length_le (show a.length<=a.length+i by omega),show a.length+i-a.length=i by omega,Bool.and_assoc]
   congr 1
   rw [Bool.eq_iff_iff]
   simp
   exact And.comm
  rw [Bool.eq_iff_iff,List.all_eq_true,List.all_eq_true]
  constructor
  ·intro h i hi
   rw [<-key i (by simpa using hi)];exact h i hi
  ·intro h i hi
   exact (key i (by simpa using hi)).trans (h i hi)
/-! ### what definitions name -/
theorem idxFrom_idxN {s:Str}:∀ {l:List Str} {k:Nat},s∈l->idxFrom l s k=((k+idxN l s:Nat):Int)
 |[],_,h=>by cases h
 |x::r,k,h=>by
  unfold idxFrom idxN
  rw [List.findIdx?_cons]
  by_cases hx:(x==s)=true
  ·rw [if_pos hx,if_pos (by rw [idxFrom_sym];exact hx)];rfl
  ·have hx':¬ (s==x)=true:=by rw [idxFrom_sym];exact hx
   have hs:s∈r:=by
    rcases List.mem_cons.1 h with h|h
    ·exact absurd (by rw [h];simp) hx
    ·exact h
   rw [if_neg hx,if_neg hx',idxFrom_idxN hs]
   have:=findIdx_contains s r
   have hc:r.contains s=true:=by simpa using hs
   rw [hc] at this
   unfold idxN
   cases hf:r.findIdx? fun x=>s==x with
   |none=>rw [hf] at this;cases this
   |some j=>simp;omega
theorem idxN_lt {s:Str} {l:List Str} (h:s∈l):idxN l s < l.length:=by
 have:=findIdx_contains s l
 have hc:l.contains s=true:=by simpa using h
 rw [hc] at this
 unfold idxN
 cases hf:l.findIdx? fun x=>s==x with
 |none=>rw [hf] at this;cases this
 |some j=>exact findIdx_lt hf
theorem Pgm.Good.tos {p:Pgm} (h:p.Good):Tos p (tosR p):=by
 have hl:(tosR p).length=p.defs.length:=h.steps.2.1
 have hnl:(defNames p).length=p.defs.length:=by have:=h.defs;simp [defNames];omega
 refine ⟨hl,fun i d hd=>?_,fun i d hd k hk=>?_⟩
 ·unfold tosR stepsR
  rw [List.getD_eq_getElem?_getD,List.map_map,List.getElem?_map,hd]
  simp only [Option.map_some,Option.getD_some,Function.comp,stepsL,stepsN,List.map_map]
  apply List.map_congr_left
  intro x hx
  rw [List.mem_filter] at hx
  have:=h.names d (List.mem_of_getElem? hd) x hx.1 hx.2
  simp only [Function.comp]
  rw [idxFrom_idxN this]
  omega
 ·simp only [stepsN,List.mem_map,List.mem_filter] at hk
  obtain ⟨x,⟨hx,hn⟩,rfl⟩:=hk
  rw [hl,<-hnl]
  exact idxN_lt (h.names d (List.mem_of_getElem? hd) x hx hn)
/-! ### rings, and what reaches itself -/
theorem at2_reach {tos:List (List Nat)} {i j:Nat} (hi:i < tos.length) (hj:j < tos.length):at2 (reachR tos) i j=reachB tos i j:=by
 unfold at2 reachR reachRow
 simp [List.getD_eq_getElem?_getD,hi,hj]
theorem inRing_iff {tos:List (List Nat)} {i j:Nat} (hi:i < tos.length) (hj:j < tos.length):inRing (reachR tos) i j=true↔j=i\/(Reach tos i j/\Reach tos j i):=by
 unfold inRing
 rw [at2_reach hi hj,at2_reach hj hi]
 simp [reachB_iff]
theorem mem_ringTo {tos:List (List Nat)} {i j:Nat} (hi:i < tos.length):j∈ringTo (reachR tos) i tos.length↔j < tos.length/\(j=i\/(Reach tos i j/\Reach tos j i)):=by
 unfold ringTo
 rw [List.mem_filter,List.mem_range]
 constructor
 ·intro ⟨h1,h2⟩;exact ⟨h1,(inRing_iff hi h1).1 h2⟩
 ·intro ⟨h1,h2⟩;exact ⟨h1,(inRing_iff hi h1).2 h2⟩
theorem ringTo_same {tos:List (List Nat)} {i j:Nat} (hi:i < tos.length) (hj:j < tos.length) (h1:Reach tos i j) (h2:Reach tos j i):ringTo (reachR tos) i tos.length=ringTo (reachR tos) j tos.length:=by
 unfold ringTo
 apply List.filter_congr
 intro k hk
 rw [List.mem_range] at hk
 rw [Bool.eq_iff_iff,inRing_iff hi hk,inRing_iff hj hk]
 constructor
 ·rintro (rfl|⟨a,b⟩)
  ·exact .inr ⟨h2,h1⟩
  ·exact .inr ⟨h2.trans a,b.trans h1⟩
 ·rintro (rfl|⟨a,b⟩)
  ·exact .inr ⟨h1,h2⟩
  ·exact .inr ⟨h1.trans a,b.trans h2⟩
theorem rings_mem {tos:List (List Nat)} {k:Nat}:(∃ r∈ringsR (reachR tos),k∈r)↔k < tos.length/\Reach tos k k:=by
 have hlen:=reachR_len tos
 unfold ringsR ringsTo
 rw [hlen]
 constructor
 ·rintro ⟨r,hr,hk⟩
  rw [List.mem_map] at hr
  obtain ⟨i,hi,rfl⟩:=hr
  rw [List.mem_filter,List.mem_range] at hi
  obtain ⟨hi,his⟩:=hi
  unfold ringIs at his
  rw [Bool.and_eq_true,at2_reach hi hi,reachB_iff] at his
  obtain ⟨h1,h2⟩:=(mem_ringTo hi).1 hk
  refine ⟨h1,?_⟩
  rcases h2 with rfl|⟨a,b⟩
  ·exact his.1
  ·exact b.trans a
 ·rintro ⟨hk,hr⟩
  have hmem:k∈ringTo (reachR tos) k tos.length:=(mem_ringTo hk).2 ⟨hk, .inl rfl⟩
  cases hc:ringTo (reachR tos) k tos.length with
  |nil=>rw [hc] at hmem;cases hmem
  |cons i r=>
   have hi:i∈ringTo (reachR tos) k tos.length:=by rw [hc];simp
   obtain ⟨h1,h2⟩:=(mem_ringTo hk).1 hi
   have h3:Reach tos k i/\Reach tos i k:=by
    rcases h2 with rfl|h2
    ·exact ⟨hr,hr⟩
    ·exact h2
   have hs:=ringTo_same hk h1 h3.1 h3.2
   refine ⟨ringTo (reachR tos) i tos.length,?_,by rw [<-hs];exact hmem⟩
   rw [List.mem_map]
   refine ⟨i,?_,rfl⟩
   rw [List.mem_filter,List.mem_range]
   refine ⟨h1,?_⟩
   unfold ringIs
   rw [hlen,at2_reach h1 h1,<-hs,hc]
   simp [reachB_iff.2 (h3.2.trans h3.1)]
theorem progR_eq {p:Pgm} (hc:0<=countR p):progR p=true↔∀ i,i < p.defs.length->Reach (tosR p) i i->foreAt p.defs i=false:=by
 have hg:=countR_good hc
 have hl:(tosR p).length=p.defs.length:=hg.steps.2.1
 unfold progR ringsOf
 rw [if_neg (by omega),List.all_eq_true]
 constructor
 ·intro h i hi hr
  obtain ⟨r,h1,h2⟩:=rings_mem.2 ⟨by rw [hl];exact hi,hr⟩
  have:=List.all_eq_true.1 (h r h1) i h2
  simpa using this
 ·intro h r hr
  rw [List.all_eq_true]
  intro k hk
  obtain ⟨h1,h2⟩:=rings_mem.1 ⟨r,hr,hk⟩
  rw [h k (by rw [<-hl];exact h1) h2];rfl
end Go.Abs

/- Programs that are looked at: which ones are formed. -/
open Go Go.Abs
namespace Go.Abs
set_option maxRecDepth 100000
set_option maxHeartbeats 4000000
def ty20:TyI:={ d:=TyD.ifc,sz:=1,bytes:=16,zero:=AV.imm IV.niliface }
instance tyis20:TyIs CC 20 ty20:=⟨by kernel_rfl⟩
def ty115:TyI:={ d:=TyD.st [],sz:=0,bytes:=0,zero:=AV.imm (IV.agg []) }
instance tyis115:TyIs CC 71 ty115:=⟨by kernel_rfl⟩
instance fnis54:FnIs CC 11:=⟨rfl,fun _=>rfl⟩
theorem cal85n {rb nx:Nat} {G:Nat->Obj}:CalD CC 29 [.ptr rb 0] none G nx fun _ G' nx'=>G'=G/\nx<=nx':=by
 refine CalD.of (fn:=Go.Proofs.Try.f29) (by kernel_rfl) rfl rfl rfl ?_
 refine AN ?_
 refine R.op0 O.recoverN rfl ?_
 refine AN ?_
 refine R.op0 (O.ifcNil rfl rfl rfl rfl) rfl ?_
 refine AN ?_
 exact W.skipFinDf ⟨rfl,by omega⟩
theorem cal85p {rb nx:Nat} {G:Nat->Obj} {u:AV} (hG:G rb = .box [u] false) (hr:rb < nx):CalD CC 29 [.ptr rb 0] (some unf) G nx fun x G' _=>x=true/\G' rb = .box [.imm .nilp] false:=by
 refine CalD.of (fn:=Go.Proofs.Try.f29) (by kernel_rfl) rfl rfl rfl ?_
 refine AN ?_
 refine R.recover rfl ?_
 refine AN ?_
 refine R.op0 (O.ifcSome rfl rfl rfl) rfl ?_
 refine AN ?_
 refine R.op0 (O.typeIs rfl ⟨(fun h=>by cases h),(fun h=>by cases h)⟩) rfl ?_
 refine AN ?_
 exact W.skipFinDf ⟨rfl,at_upd⟩
noncomputable def lookedIV (p:Pgm):IV:=if progR p then scopeIV p ((p.defs.length-1:Nat):Int) (countR p) else .nilp
theorem ret54 (p:Pgm) (hp:p.Fits):Ret CC 11 [p.iv] (lookedIV p):=by
 refine Cal.ret ?_
 have hsl:p.srcs.length<=9223372036854775807:=hp.srcs
 have hdl:p.defs.length<=9223372036854775807:=hp.defs
 have hdn:defNames p=(p.defs.take 7).map Dfn.name:=rfl
 generalize hres:lookedIV p=res
 have hbad:progR p=false->res = .nilp:=fun h=>by rw [<-hres];unfold lookedIV;rw [h];rfl
 have hgood:progR p=true->res=scopeIV p ((p.defs.length-1:Nat):Int) (countR p):=fun h=>by rw [<-hres];unfold lookedIV;rw [h];rfl
 clear hres
 refine Cal.ofD (fn:=Go.Proofs.Try.f11) (by kernel_rfl) rfl rfl ?_
 obtain ⟨srcs,defs⟩:=p
 simp only at hsl hdl
 have hsm:(srcs.map sv).length=srcs.length:=List.length_map ..
 have hdm:(defs.map Dfn.iv).length=defs.length:=List.length_map ..
 refine AN ?_
 refine R.defer rfl rfl rfl rfl ?_
 refine R.done ?_
 have bad:progR ⟨srcs,defs⟩=false->∀ {G:Nat->Obj} {nx:Nat} {l:Env} {u:AV},look l 2=some (.ptr 1 0)->G 1 = .box [u] false->2<=nx->∀ t',Agree t' l->finD CC Go.Proofs.Try.f11.results.toList (fun v G x=>∃ ids,peek G pkDepth v=some (res,ids)) (.pan unf ⟨t',G,nx,[(mkFn (.func 29) [.ptr (0+1) 0],[])], .no⟩):=by
  intro h G nx l u h1 h2 h3
  refine panD rfl rfl h1 rfl ?_
  obtain ⟨n,v,m',x,G',nx',g1,g2,g3⟩:=cal85p h2 (show 1 < nx by omega)
  exact ⟨n,v,m',x,G',nx',g1,g2,_,_,g3,[],by rw [hbad h];rfl⟩
 have hneg:countR ⟨srcs,defs⟩ < 0->progR ⟨srcs,defs⟩=false:=fun h=>by unfold progR;rw [if_pos h]
 have hlen:(srcs.length < 1\/4 < srcs.length\/6 < defs.length)->progR ⟨srcs,defs⟩=false:=fun h=>hneg (by unfold countR;rw [if_pos h];decide)
 have hr87:=ret87
 rcases Bool.eq_false_or_eq_true (decide (((srcs.map sv).length:Int) > 0)) with hA|hA
 rotate_left
 ·have hA':=of_decide_eq_false hA
  refine AN ?_
  exact R.callPan rfl rfl pan86 (bad (hlen (by omega)) rfl rfl (by omega))
 rcases Bool.eq_false_or_eq_true (decide (((srcs.map sv).length:Int)<=4)) with hB|hB
 rotate_left
 ·have hB':=of_decide_eq_false hB
  refine AN ?_
  exact R.callPan rfl rfl pan86 (bad (hlen (by omega)) rfl rfl (by omega))
 rcases Bool.eq_false_or_eq_true (decide (((defs.map Dfn.iv).length:Int)<=6)) with hC|hC
 rotate_left
 ·have hC':=of_decide_eq_false hC
  refine AN ?_
  exact R.callPan rfl rfl (panM hC) (bad (hlen (by omega)) rfl rfl (by omega))
 have hA':=of_decide_eq_true hA
 have hB':=of_decide_eq_true hB
 have hC':=of_decide_eq_true hC
 have hr:=retM hC
 have hdn:defNames ⟨srcs,defs⟩=defs.map Dfn.name:=by rw [hdn];show (defs.take 7).map _=_;rw [List.take_of_length_le (by omega)]
 refine A1 ?_
 refine A1 ?_
 have hcr:countR ⟨srcs,defs⟩=if diff (srcs++defs.map Dfn.name) then countL srcs (defs.map Dfn.name) defs 0 0 else -1:=by
  unfold countR;rw [if_neg (show ¬ (srcs.length < 1\/4 < srcs.length\/6 < defs.length) by omega),hdn]
 rw [diff_append] at hcr
 obtain ⟨f1,f2⟩:=ret88 (l:=srcs) others_nil hsl hp.src
 rcases Bool.eq_false_or_eq_true (fresh [] srcs) with hF|hF
 rotate_left
 ·refine W.seqR ?_
  refine W.drawXN ?_
  refine AX ?_
  exact DX.callPan rfl rfl (f2 hF) rfl (by kernel_rfl) (bad (hneg (by rw [hcr,hF];simp)) rfl rfl (by omega))
 have hr88:=f1 hF
 refine W.seqR ?_
 refine W.drawN ?_
 refine AD ?_
 refine D.done (by kernel_rfl) ?_
 have hr75:=ret75 defs (by omega)
 obtain ⟨g1,g2⟩:=ret88 (l:=defs.map Dfn.name) (others_num srcs) (by rw [List.length_map];omega) (fun s hs=>by obtain ⟨d,hd,rfl⟩:=List.mem_map.1 hs;exact hp.name d hd)
 rcases Bool.eq_false_or_eq_true (fresh srcs (defs.map Dfn.name)) with hG|hG
 rotate_left
 ·refine W.seqR ?_
  refine W.drawXN ?_
  refine AX ?_
  exact DX.callPan rfl rfl (g2 hG) rfl (by kernel_rfl) (bad (hneg (by rw [hcr,hF,hG];simp)) rfl rfl (by omega))
 have hr88':=g1 hG
 refine W.seqR ?_
 refine W.drawN ?_
 refine AD ?_
 refine D.done (by kernel_rfl) ?_
 rw [hF,hG] at hcr
 simp only [Bool.and_self,if_true] at hcr
 have hnm:(defs.map Dfn.name).length=defs.length:=List.length_map ..
 have hfor:∀ i d,defs[i]? = some d->foreAt defs i=(allE d.exp).any Exp.fore:=fun i d h=>by unfold foreAt;rw [h];rfl
 have hpq:0<=countR ⟨srcs,defs⟩->(progR ⟨srcs,defs⟩=true↔∀ i,i < defs.length->Reach (tosR ⟨srcs,defs⟩) i i->foreAt defs i=false):=fun h=>progR_eq h
 have hgd:0<=countR ⟨srcs,defs⟩->Pgm.Good ⟨srcs,defs⟩:=fun h=>countR_good h
 have hfit:=hp.exp
 simp only at hfit
 have hsc:∀ n:Int,scopeIV ⟨srcs,defs⟩ ((defs.length-1:Nat):Int) n = .fptr [numIV srcs,numIV (defs.map Dfn.name),shapesIV, .int .i64 ((defs.length-1:Nat):Int), .int .i64 n] 0:=fun n=>by unfold scopeIV;rw [hdn]
 generalize hnames:defs.map Dfn.name=names at *
 refine AN ?_
 refine W.loop (X:=Nat×Int) (fun x=>[(1, .ptr 0 0),(2, .ptr 1 0),(50, .imm (.lst (defs.map Dfn.iv))),(51, .imm (.int .i64 (defs.map Dfn.iv).length)),(52, .imm (.int .i64 x.1))])
  (fun x nx G=>24<=nx/\G 0 = .box [.imm (.lst (srcs.map sv)), .imm (.lst (defs.map Dfn.iv))] false/\G 1 = .box [.ptr 23 0] false/\G 23 = .box [.imm (numIV srcs), .imm (numIV names), .imm shapesIV, .imm (.int .i64 ((x.1-1:Nat):Int)), .imm (.int .i64 x.2)] false /\
   x.1<=defs.length/\(0<=x.2/\x.2<=60)/\countR ⟨srcs,defs⟩=countL srcs names (defs.drop x.1) x.1 x.2)
  (fun x=>defs.length-x.1) (0,0) .auto ⟨by omega,rfl,rfl,rfl,Nat.zero_le _,by decide,hcr⟩ ?_
 clear f1 f2 g1 g2 hr88 hr88' hr75 hr87 hcr hlen hA hB hC hF hG hr
 rintro ⟨i,m⟩ nx G ⟨hnx,hG0,hG1,hG2,hi,hm,he⟩
 dsimp only at hG2 hi hm he ⊢
 rcases Bool.eq_false_or_eq_true (decide ((i:Int) < ((defs.map Dfn.iv).length:Int))) with hc|hc
 ·have hlt:i < defs.length:=by have:=of_decide_eq_true hc;omega
  obtain ⟨d,hx⟩:=at_lt hlt
  have hxi:=at_map Dfn.iv hx
  have hdc:=d.cells_len
  have hmu:defs.length-(i+1) < defs.length-i:=by omega
  have hcal:=fun nx G h1 h2=>@cal89 23 srcs names i d.exp (hfit d (List.mem_of_getElem? hx)) nx G m 1 h1 h2 hm (by omega)
  have hle:=(expR_le srcs names i d.exp 1 (60-m)).2
  rw [countL_drop srcs names hx] at he
  obtain ⟨nm,⟨o',s',n',f',c',k'⟩⟩:=d
  refine AN ?_
  refine R.callBP rfl rfl rfl rfl rfl ((hcal _ _ at_upd (by omega)).mono fun r hr=>?_)
  cases r with
  |pan u G' nx'=>
   obtain ⟨rfl,g1,g2,g3⟩:=hr
   rw [if_pos g1] at he
   exact bad (hneg (by rw [he];decide)) rfl ((g3 1 (by omega) (by decide)).trans at_upd) (by omega)
  |ret v G' nx'=>
   obtain ⟨rfl,g1,g2,g3,g4⟩:=hr
   rw [if_neg (by omega)] at he
   refine AN ?_
   exact W.skipLop (i+1,m+expR srcs names i (.mk o' s' n' f' c' k') 1 (60-m)) hmu .auto ⟨by omega,(g4 0 (by omega) (by decide)).trans at_upd,(g4 1 (by omega) (by decide)).trans at_upd,g2,hlt,by have:=hle g1;dsimp only at *;omega,he⟩
 have hge:defs.length<=i:=by have:=of_decide_eq_false hc;omega
 have hil:i=defs.length:=by omega
 subst hil
 rw [List.drop_eq_nil_of_le hge,countL] at he
 have h0:0<=countR ⟨srcs,defs⟩:=by omega
 have hpq:=hpq h0
 have hgd:=hgd h0
 have htos:=hgd.tos
 have htl:(tosR ⟨srcs,defs⟩).length=defs.length:=htos.len
 clear hneg
 have hgood2:(∀ i,i < defs.length->Reach (tosR ⟨srcs,defs⟩) i i->foreAt defs i=false)->res = .fptr [numIV srcs,numIV names,shapesIV, .int .i64 ((defs.length-1:Nat):Int), .int .i64 m] 0:=fun h=>by
  rw [hgood (hpq.2 h),<-hsc,he]
 have hbad2:∀ i,i < defs.length->Reach (tosR ⟨srcs,defs⟩) i i->foreAt defs i=true->progR ⟨srcs,defs⟩=false:=fun i h1 h2 h3=>by
  rw [Bool.eq_false_iff]
  intro h
  rw [hpq.1 h i h1 h2] at h3
  cases h3
 have hreach:=fun (d:Nat) (h:d < defs.length)=>ret47 hp htos ((defs.length-1:Nat):Int) m (d:=d) (by rw [htl];exact h)
 rw [hsc] at hreach
 generalize tosR ⟨srcs,defs⟩=tos at *
 refine AN ?_
 refine W.loop (X:=Nat) (fun i=>[(1, .ptr 0 0),(2, .ptr 1 0),(67, .imm (.lst (defs.map Dfn.iv))),(68, .imm (.int .i64 (defs.map Dfn.iv).length)),(69, .imm (.int .i64 i))])
  (fun i nx G=>24<=nx/\G 0 = .box [.imm (.lst (srcs.map sv)), .imm (.lst (defs.map Dfn.iv))] false/\G 1 = .box [.ptr 23 0] false/\(∃ fr,G 23 = .box ([numIV srcs,numIV names,shapesIV, .int .i64 ((defs.length-1:Nat):Int), .int .i64 m].map .imm) fr) /\
   i<=defs.length/\∀ j,j < i->Reach tos j j->foreAt defs j=false)
  (fun i=>defs.length-i) 0 .auto ⟨by omega,hG0,hG1,⟨false,hG2⟩,Nat.zero_le _,fun j h=>by omega⟩ ?_
 clear hG0 hG1 hG2 hnx hi hc hge nx G he
 rintro i nx G ⟨hnx,hG0,hG1,⟨fr,hG2⟩,hi,hall⟩
 rcases Bool.eq_false_or_eq_true (decide ((i:Int) < ((defs.map Dfn.iv).length:Int))) with hc|hc
 ·have hlt:i < defs.length:=by have:=of_decide_eq_true hc;omega
  obtain ⟨d,hx⟩:=at_lt hlt
  have hxi:=at_map Dfn.iv hx
  have hdc:=d.cells_len
  have hmu:defs.length-(i+1) < defs.length-i:=by omega
  have hf:=hfit d (List.mem_of_getElem? hx)
  have hfo:=hfor i d hx
  obtain ⟨out,ho1,ho2,ho3,hr47⟩:=hreach i hlt
  have hset:=setLook out i
  have hr49:=ret49 d.exp
  obtain ⟨nm,⟨o',s',n',f',c',k'⟩⟩:=d
  refine AN ?_
  refine R.opU (O.callFz (ids:=[23]) rfl ?_ hr47 rfl) rfl ?_
  ·exact peeks_cons (vs:=[(Pgm.mk srcs defs).iv,natIV i]) (peek_box (fr:=fr) (by exact at_upd))
  refine R.gen' (fun G2=>G2 0 = .box [.imm (.lst (srcs.map sv)), .imm (.lst (defs.map Dfn.iv))] false/\G2 1 = .box [.ptr 23 0] false/\G2 23 = .box ([numIV srcs,numIV names,shapesIV, .int .i64 ((defs.length-1:Nat):Int), .int .i64 m].map .imm) true /\
   G2 (nx+1+3) = .box [.imm (sv nm), .imm (.int .i64 o'), .imm (sv s'), .imm (.int .i64 n'), .imm (.int .i64 f'), .imm (.lst (Trm.ivs c')), .imm (.lst (Exp.ivs k'))] false) ⟨?_,?_,frz1 (fr:=fr) at_upd,?_⟩ ?_
  iterate 3 exact (frz1_ne (by omega)).trans at_upd
  clear hG0 hG1 hG2 G
  rintro G ⟨hG0,hG1,hG2,hG3⟩
  have hmem:out.contains i=true->Reach tos i i:=fun h=>(ho3 i).1 (by simpa using h)
  have hnmem:out.contains i=false->¬ Reach tos i i:=fun h hr=>by
   have:=(ho3 i).2 hr
   simp [this] at h
  rcases Bool.eq_false_or_eq_true (out.contains i) with hC|hC
  ·have hri:=hmem hC
   refine AN ?_
   refine W.nodes _ hf (fun k G1=>(∀ o,o < nx->G1 o=G o)/\((allE (.mk o' s' n' f' c' k')).take k).any Exp.fore=false) (fun _=>False) (fun u G1 nx1=>u=unf/\nx<=nx1/\(∀ o,o < nx->G1 o=G o)/\foreAt defs i=true)
    rfl rfl rfl rfl rfl ?_ ?_ ?_ ?_ ?_ ?_ ?_
   ·rintro k G1 G2 ⟨h1,h2⟩ h3
    exact ⟨fun o h=>(h3 o (by omega)).trans (h1 o h),h2⟩
   ·intro _ _ h;exact h.elim
   ·exact ⟨fun _ _=>rfl,rfl⟩
   ·rintro q k x G1 nx1 lp0 lp1 Φr hq hxa hn ⟨h1,h2⟩ hlp next _ hpn
    have htk:=fun h=>any_take (p:=Exp.fore) hxa h2 h
    have hany:=fun h=>any_at (p:=Exp.fore) hxa h
    obtain ⟨op',name',m',fold',calcs',kids'⟩:=x
    refine W.regionN ?_
    refine AQ ?_
    refine R.doneAstQ at_upd ?_
    refine W.gen' (fun G2=>G2 (nx1+0) = .box [.imm (.int .i64 op'), .imm (sv name'), .imm (.int .i64 m'), .imm (.int .i64 fold'), .imm (.lst (Trm.ivs calcs')), .imm (.lst (Exp.ivs kids'))] false/\G2 q=lp1/\∀ o,o < nx1->o≠q->G2 o=G1 o) ⟨at_upd,at_upd,fun o _ _=>at_upd⟩ ?_
    rintro G2 ⟨hbx,hlp2,hfr2⟩
    have hfr3:∀ o,o < nx->G2 o=G o:=fun o h=>(hfr2 o (by omega) (by omega)).trans (h1 o h)
    have hfr4:∀ o,q+2<=o->o < nx1->G2 o=G1 o:=fun o h h'=>hfr2 o h' (by omega)
    rcases Bool.eq_false_or_eq_true (op' != 14) with hP|hP
    ·rcases Bool.eq_false_or_eq_true (op' != 7) with hQ|hQ
     ·have hr:=retM (b:=true) rfl
      refine AN ?_
      refine next (by omega) hfr4 ⟨hfr3,htk ?_⟩ hlp2
      show (op'==14||(op'==7&&decide (m' < 0)))=false
      simp at hP hQ
      simp [hP,hQ]
     ·rcases Bool.eq_false_or_eq_true (decide (m'>=0)) with hR|hR
      ·have hr:=retM hR
       refine AN ?_
       refine next (by omega) hfr4 ⟨hfr3,htk ?_⟩ hlp2
       show (op'==14||(op'==7&&decide (m' < 0)))=false
       simp at hP hR
       simp [hP,hR]
      ·refine AN ?_
       refine R.callPan rfl rfl (panM hR) (hpn ⟨rfl,by omega,hfr3,?_⟩)
       rw [hfo]
       apply hany
       show (op'==14||(op'==7&&decide (m' < 0)))=true
       simp at hQ hR
       simp [hQ,hR]
    ·refine AN ?_
     refine R.callPan rfl rfl pan86 (hpn ⟨rfl,by omega,hfr3,?_⟩)
     rw [hfo]
     apply hany
     show (op'==14||(op'==7&&decide (m' < 0)))=true
     simp at hP
     simp [hP]
   ·rintro G1 nx1 ⟨h1,h2⟩ hn
    rw [List.take_length] at h2
    refine AN ?_
    refine W.skipLop (i+1) hmu .auto ⟨by omega,(h1 0 (by omega)).trans hG0,(h1 1 (by omega)).trans hG1,⟨true,(h1 23 (by omega)).trans hG2⟩,hlt,fun j h3 h4=>?_⟩
    by_cases hj:j=i
    ·subst hj;rw [hfo];exact h2
    ·exact hall j (by omega) h4
   ·intro _ _ h;exact h.elim
   ·rintro u G1 nx1 ⟨rfl,h1,h2,h3⟩
    exact bad (hbad2 i hlt hri h3) rfl ((h2 1 (by omega)).trans hG1) (by omega)
  ·have hnr:=hnmem hC
   refine AN ?_
   refine W.skipLop (i+1) hmu .auto ⟨by omega,hG0,hG1,⟨true,hG2⟩,hlt,fun j h3 h4=>?_⟩
   by_cases hj:j=i
   ·subst hj;exact absurd h4 hnr
   ·exact hall j (by omega) h4
 ·have hge:defs.length<=i:=by have:=of_decide_eq_false hc;omega
  have hres:=hgood2 fun j h1 h2=>hall j (by omega) h2
  refine AN ?_
  refine W.retFinD rfl rfl rfl rfl ?_
  obtain ⟨n,v,m',x,G',nx',g1,rfl,g3⟩:=cal85n (rb:=1) (nx:=nx+1+2) (G:=upd G 1 (.box [.ptr 23 0] false))
  refine ⟨n,v,m',x,_,nx',g1,_,_,upd_same _ _ _,[23],?_⟩
  rw [hres]
  exact peek_box (fr:=fr) at_upd
end Go.Abs

/- The rows of the chapter's examples, reckoned. -/
open Go Go.Abs
namespace Go.Abs
theorem ret14:Ret CC 9 [] (.bool true):=Ret.reckon (n:=60) (by kernel_rfl)
end Go.Abs

/- Copies of terms and expressions, as the program makes them; and comparing them. -/
open Go Go.Abs
namespace Go.Abs
set_option maxRecDepth 100000
set_option maxHeartbeats 4000000
instance fnis90:FnIs CC 39:=⟨rfl,fun _=>rfl⟩
instance fnis91:FnIs CC 40:=⟨rfl,fun _=>rfl⟩
instance fnis92:FnIs CC 41:=⟨rfl,fun _=>rfl⟩
instance fnis63:FnIs CC 15:=⟨rfl,fun _=>rfl⟩
theorem tivs_take {l:List Trm} {i:Nat} {c:Trm} (h:l[i]? = some c):Trm.ivs (l.take (i+1))=Trm.ivs (l.take i)++[c.iv]:=by
 rw [Trm.ivs_map,Trm.ivs_map,List.take_add_one,h];simp
theorem ivs_take {l:List Exp} {i:Nat} {c:Exp} (h:l[i]? = some c):Exp.ivs (l.take (i+1))=Exp.ivs (l.take i)++[c.iv]:=by
 rw [Exp.ivs_map,Exp.ivs_map,List.take_add_one,h];simp
theorem Trm.iv_fits (c:Trm):(AV.imm c.iv).fits 3=true:=by cases c;rfl
theorem Exp.iv_fits (c:Exp):(AV.imm c.iv).fits 6=true:=by cases c;rfl
theorem ret90 {f:FuncId} {cap:List IV} {g:Trm->Trm} (hfi:FnIs CC f) (l:List Trm) (hl:l.length<=1048576) (h:∀ c∈l,Ret CC f ([c.iv]++cap) (g c).iv):Ret CC 39 [.lst (Trm.ivs l), .fn (.func f) cap] (.lst (Trm.ivs (l.map g))):=by
 have hlm:=tivs_len l
 refine Ret.of (fn:=Go.Proofs.Try.f39) (by kernel_rfl) rfl rfl ?_
 refine AA ?_
 refine W.loop (X:=Nat×AV) (fun x=>[(1, .imm (.fn (.func f) cap)),(8, .imm (.lst (Trm.ivs l))),(9, .imm (.int .i64 (Trm.ivs l).length)),(10, .imm (.int .i64 x.1)),(5,x.2)])
  (fun x nx G=>x.1<=l.length/\Own 68 3 0 nx (Trm.ivs ((l.map g).take x.1)) G x.2)
  (fun x=>l.length-x.1) (0, .nils) .auto ⟨Nat.zero_le _, .nil ..⟩ ?_
 rintro ⟨i,v⟩ nx G ⟨hi,ho⟩
 dsimp only at hi ho ⊢
 rcases Bool.eq_false_or_eq_true (decide ((i:Int) < ((Trm.ivs l).length:Int))) with hc|hc
 ·have hlt:i < l.length:=by have:=of_decide_eq_true hc;omega
  obtain ⟨d,hx⟩:=at_lt hlt
  have hxi:=tivs_at hx
  have hdc:=d.cells_len
  have hmu:l.length-(i+1) < l.length-i:=by omega
  have hr:=h d (List.mem_of_getElem? hx)
  have hgf:=(g d).iv_fits
  have htk:Trm.ivs ((l.map g).take (i+1))=Trm.ivs ((l.map g).take i)++[(g d).iv]:=tivs_take (by rw [List.getElem?_map,hx];rfl)
  have hlen:(Trm.ivs ((l.map g).take i)).length<=1048576:=by rw [tivs_len,List.length_take];omega
  generalize (g d).iv=gd at *
  obtain ⟨o',m',k'⟩:=d
  refine AA ?_
  refine R.op1 (O.buildX rfl inferInstance rfl rfl (by decide) rfl (by show ([AV.imm gd].all (AV.fits 3))=true;rw [List.all_cons,hgf];rfl) (by decide)) rfl ?_
  refine R.app1 ho at_upd (by simp only [most];omega) fun v' G' ho' hG'=>?_
  rw [<-htk] at ho'
  refine AA ?_
  exact W.skipLop (i+1,v') hmu .auto ⟨hlt,ho'.fr⟩
 ·have hge:l.length<=i:=by have:=of_decide_eq_false hc;omega
  rw [List.take_of_length_le (by simpa using hge)] at ho
  refine AA ?_
  exact W.retFin1 rfl ho.peek
theorem ret91 {c:Trm} (h:c.Sm):Ret CC 40 [c.iv] c.iv:=by
 induction h with
 |mk op n kids hl hk ih=>
 have hr:=ret90 (g:=id) (cap:=[]) fnis91 kids hl ih
 rw [List.map_id] at hr
 refine Ret.of (fn:=Go.Proofs.Try.f40) (by kernel_rfl) rfl rfl ?_
 refine AA ?_
 exact W.retFinCA rfl rfl rfl rfl ⟨[],rfl⟩
theorem ret92 {f:FuncId} {cap:List IV} {g:Exp->Exp} (hfi:FnIs CC f) (l:List Exp) (hl:l.length<=1048576) (h:∀ c∈l,Ret CC f ([c.iv]++cap) (g c).iv):Ret CC 41 [.lst (Exp.ivs l), .fn (.func f) cap] (.lst (Exp.ivs (l.map g))):=by
 have hlm:=ivs_len l
 refine Ret.of (fn:=Go.Proofs.Try.f41) (by kernel_rfl) rfl rfl ?_
 refine AA ?_
 refine W.loop (X:=Nat×AV) (fun x=>[(1, .imm (.fn (.func f) cap)),(8, .imm (.lst (Exp.ivs l))),(9, .imm (.int .i64 (Exp.ivs l).length)),(10, .imm (.int .i64 x.1)),(5,x.2)])
  (fun x nx G=>x.1<=l.length/\Own 40 6 0 nx (Exp.ivs ((l.map g).take x.1)) G x.2)
  (fun x=>l.length-x.1) (0, .nils) .auto ⟨Nat.zero_le _, .nil ..⟩ ?_
 rintro ⟨i,v⟩ nx G ⟨hi,ho⟩
 dsimp only at hi ho ⊢
 rcases Bool.eq_false_or_eq_true (decide ((i:Int) < ((Exp.ivs l).length:Int))) with hc|hc
 ·have hlt:i < l.length:=by have:=of_decide_eq_true hc;omega
  obtain ⟨d,hx⟩:=at_lt hlt
  have hxi:=ivs_at hx
  have hdc:=d.cells_len
  have hmu:l.length-(i+1) < l.length-i:=by omega
  have hr:=h d (List.mem_of_getElem? hx)
  have hgf:=(g d).iv_fits
  have htk:Exp.ivs ((l.map g).take (i+1))=Exp.ivs ((l.map g).take i)++[(g d).iv]:=ivs_take (by rw [List.getElem?_map,hx];rfl)
  have hlen:(Exp.ivs ((l.map g).take i)).length<=1048576:=by rw [ivs_len,List.length_take];omega
  generalize (g d).iv=gd at *
  obtain ⟨o',s',m',f',c',k'⟩:=d
  refine AA ?_
  refine R.op1 (O.buildX rfl inferInstance rfl rfl (by decide) rfl (by show ([AV.imm gd].all (AV.fits 6))=true;rw [List.all_cons,hgf];rfl) (by decide)) rfl ?_
  refine R.app1 ho at_upd (by simp only [most];omega) fun v' G' ho' hG'=>?_
  rw [<-htk] at ho'
  refine AA ?_
  exact W.skipLop (i+1,v') hmu .auto ⟨hlt,ho'.fr⟩
 ·have hge:l.length<=i:=by have:=of_decide_eq_false hc;omega
  rw [List.take_of_length_le (by simpa using hge)] at ho
  refine AA ?_
  exact W.retFin1 rfl ho.peek
theorem ret63 {e:Exp} (h:e.Sm):Ret CC 15 [e.iv] e.iv:=by
 induction h with
 |mk op name n fold calcs kids hc hk hcs hks ih=>
 have hr:=ret92 (g:=id) (cap:=[]) fnis63 kids hk ih
 have hr2:=ret90 (g:=id) (cap:=[]) fnis91 calcs hc fun c h=>ret91 (hcs c h)
 rw [List.map_id] at hr hr2
 refine Ret.of (fn:=Go.Proofs.Try.f15) (by kernel_rfl) rfl rfl ?_
 refine AA ?_
 exact W.retFinCA rfl rfl rfl rfl ⟨[],rfl⟩
end Go.Abs

/- Copies of terms and expressions, as the reference makes them; and comparing what is the same. -/
open Go Go.Abs
namespace Go.Abs
set_option maxRecDepth 100000
set_option maxHeartbeats 4000000
instance fnis94:FnIs CC 46:=⟨rfl,fun _=>rfl⟩
instance fnis95:FnIs CC 28:=⟨rfl,fun _=>rfl⟩
instance fnis61:FnIs CC 19:=⟨rfl,fun _=>rfl⟩
instance fnis62:FnIs CC 10:=⟨rfl,fun _=>rfl⟩
theorem ret94 {c:Trm} (h:c.Sm):Ret CC 46 [c.iv,c.iv] (.bool true):=by
 induction h with
 |mk op n kids hl hk ih=>
 have hlm:=tivs_len kids
 have b1:(op != op)=false:=by simp
 have b2:(n != n)=false:=by simp
 have b3:(((Trm.ivs kids).length:Int) != ((Trm.ivs kids).length:Int))=false:=by simp
 have b4:(!true)=false:=rfl
 refine Ret.of (fn:=Go.Proofs.Try.f46) (by kernel_rfl) rfl rfl ?_
 refine AA ?_
 refine W.loop (X:=Nat) (fun i=>[(2, .ptr 0 0),(3, .ptr 1 0),(5, .imm (.int .i64 i))])
  (fun i nx G=>i<=kids.length/\G 0 = .box [.imm (.int .i64 op), .imm (.int .i64 n), .imm (.lst (Trm.ivs kids))] false/\G 1 = .box [.imm (.int .i64 op), .imm (.int .i64 n), .imm (.lst (Trm.ivs kids))] false)
  (fun i=>kids.length-i) 0 .auto ⟨Nat.zero_le _,rfl,rfl⟩ ?_
 rintro i nx G ⟨hi,h0,h1⟩
 rcases Bool.eq_false_or_eq_true (decide ((i:Int) < ((Trm.ivs kids).length:Int))) with hc|hc
 ·have hlt:i < kids.length:=by have:=of_decide_eq_true hc;omega
  obtain ⟨d,hx⟩:=at_lt hlt
  have hxi:=tivs_at hx
  have hdc:=d.cells_len
  have hmu:kids.length-(i+1) < kids.length-i:=by omega
  have hr:=ih d (List.mem_of_getElem? hx)
  obtain ⟨o',m',k'⟩:=d
  refine AA ?_
  exact W.skipLop (i+1) hmu .auto ⟨hlt,h0,h1⟩
 ·refine AA ?_
  exact W.retFin1 rfl ⟨[],rfl⟩
theorem ret61 {e:Exp} (h:e.Sm):Ret CC 19 [e.iv,e.iv] (.bool true):=by
 induction h with
 |mk op name n fold calcs kids hlc hlk hcs hks ih=>
 have hlm:=tivs_len calcs
 have hlm2:=ivs_len kids
 have b1:(op != op)=false:=by simp
 have b2:(n != n)=false:=by simp
 have b0:(!(name==name))=false:=by simp
 have b5:(fold != fold)=false:=by simp
 have b3:(((Trm.ivs calcs).length:Int) != ((Trm.ivs calcs).length:Int))=false:=by simp
 have b6:(((Exp.ivs kids).length:Int) != ((Exp.ivs kids).length:Int))=false:=by simp
 have b4:(!true)=false:=rfl
 refine Ret.of (fn:=Go.Proofs.Try.f19) (by kernel_rfl) rfl rfl ?_
 refine AA ?_
 refine W.loop (X:=Nat) (fun i=>[(2, .ptr 0 0),(3, .ptr 1 0),(5, .imm (.int .i64 i))])
  (fun i nx G=>i<=calcs.length/\G 0 = .box [.imm (.int .i64 op), .imm (sv name), .imm (.int .i64 n), .imm (.int .i64 fold), .imm (.lst (Trm.ivs calcs)), .imm (.lst (Exp.ivs kids))] false/\G 1 = .box [.imm (.int .i64 op), .imm (sv name), .imm (.int .i64 n), .imm (.int .i64 fold), .imm (.lst (Trm.ivs calcs)), .imm (.lst (Exp.ivs kids))] false)
  (fun i=>calcs.length-i) 0 .auto ⟨Nat.zero_le _,rfl,rfl⟩ ?_
 rintro i nx G ⟨hi,h0,h1⟩
 rcases Bool.eq_false_or_eq_true (decide ((i:Int) < ((Trm.ivs calcs).length:Int))) with hc|hc
 ·have hlt:i < calcs.length:=by have:=of_decide_eq_true hc;omega
  obtain ⟨d,hx⟩:=at_lt hlt
  have hxi:=tivs_at hx
  have hdc:=d.cells_len
  have hmu:calcs.length-(i+1) < calcs.length-i:=by omega
  have hr:=ret94 (hcs d (List.mem_of_getElem? hx))
  obtain ⟨o',m',k'⟩:=d
  refine AA ?_
  exact W.skipLop (i+1) hmu .auto ⟨hlt,h0,h1⟩
 refine AA ?_
 refine W.loop (X:=Nat) (fun i=>[(2, .ptr 0 0),(3, .ptr 1 0),(6, .imm (.int .i64 i))])
  (fun i nx G=>i<=kids.length/\G 0 = .box [.imm (.int .i64 op), .imm (sv name), .imm (.int .i64 n), .imm (.int .i64 fold), .imm (.lst (Trm.ivs calcs)), .imm (.lst (Exp.ivs kids))] false/\G 1 = .box [.imm (.int .i64 op), .imm (sv name), .imm (.int .i64 n), .imm (.int .i64 fold), .imm (.lst (Trm.ivs calcs)), .imm (.lst (Exp.ivs kids))] false)
  (fun i=>kids.length-i) 0 .auto ⟨Nat.zero_le _,h0,h1⟩ ?_
 clear h0 h1 hc hi i G nx
 rintro i nx G ⟨hi,h0,h1⟩
 rcases Bool.eq_false_or_eq_true (decide ((i:Int) < ((Exp.ivs kids).length:Int))) with hc|hc
 ·have hlt:i < kids.length:=by have:=of_decide_eq_true hc;omega
  obtain ⟨d,hx⟩:=at_lt hlt
  have hxi:=ivs_at hx
  have hdc:=d.cells_len
  have hmu:kids.length-(i+1) < kids.length-i:=by omega
  have hr:=ih d (List.mem_of_getElem? hx)
  obtain ⟨o',s',m',f',c',k'⟩:=d
  refine AA ?_
  exact W.skipLop (i+1) hmu .auto ⟨hlt,h0,h1⟩
 ·refine AA ?_
  exact W.retFin1 rfl ⟨[],rfl⟩
theorem ret95 {c:Trm} (h:c.Sm):Ret CC 28 [c.iv] c.iv:=by
 induction h with
 |mk op n kids hl hk ih=>
 have hlm:=tivs_len kids
 refine Ret.of (fn:=Go.Proofs.Try.f28) (by kernel_rfl) rfl rfl ?_
 refine AA ?_
 refine W.loop (X:=Nat×AV) (fun x=>[(1, .ptr 0 0),(2, .ptr 1 0),(3, .ptr 7 0),(4, .imm (.int .i64 x.1))])
  (fun x nx G=>10<=nx/\x.1<=kids.length/\G 0 = .box [.imm (.int .i64 op), .imm (.int .i64 n), .imm (.lst (Trm.ivs kids))] false/\G 1 = .box ty123.zero.cells false/\G 7 = .box [.imm (.int .i64 op), .imm (.int .i64 n),x.2] false/\Own 68 3 10 nx (Trm.ivs (kids.take x.1)) G x.2)
  (fun x=>kids.length-x.1) (0, .nils) .auto ⟨by omega,Nat.zero_le _,rfl,rfl,rfl, .nil ..⟩ ?_
 rintro ⟨i,v⟩ nx G ⟨hnx,hi,h0,h1,h7,ho⟩
 dsimp only at hi h7 ho ⊢
 rcases Bool.eq_false_or_eq_true (decide ((i:Int) < ((Trm.ivs kids).length:Int))) with hc|hc
 ·have hlt:i < kids.length:=by have:=of_decide_eq_true hc;omega
  obtain ⟨d,hx⟩:=at_lt hlt
  have hxi:=tivs_at hx
  have hdc:=d.cells_len
  have hmu:kids.length-(i+1) < kids.length-i:=by omega
  have hr:=ih d (List.mem_of_getElem? hx)
  have htk:=tivs_take hx
  have hlen:(Trm.ivs (kids.take i)).length<=1048576:=by rw [tivs_len,List.length_take];omega
  obtain ⟨o',m',k'⟩:=d
  refine AA ?_
  refine D.app1 ho at_upd (by simp only [most];omega) fun v' G' rd o' ho' hG' hlo=>?_
  rw [<-htk] at ho'
  have hv1:=ho'.cells1
  have hv2:=ho'.one1
  have g0:=(hG' 0 (by omega)).trans (Eq.trans at_upd h0)
  have g1:=(hG' 1 (by omega)).trans (Eq.trans at_upd h1)
  have g7:=(hG' 7 (by omega)).trans (Eq.trans at_upd h7)
  refine AD ?_
  refine D.skip (by kernel_rfl) ?_
  refine AA ?_
  exact W.skipLop (i+1,v') hmu .auto ⟨by omega,hlt,at_upd,at_upd,at_upd,ho'.fr⟩
 ·have hge:kids.length<=i:=by have:=of_decide_eq_false hc;omega
  rw [List.take_of_length_le hge] at ho
  have hp:=ho.rdx
  rcases ho with ⟨_,rfl⟩|⟨o,_,_,rfl,_⟩
  all_goals
   refine AA ?_
   refine W.retFinCA rfl at_upd rfl rfl ?_
   refine Rdx.peek (d:=2) (P:=fun i=>10<=i/\i < nx) (Rdx.agg (d:=1) (.cons (.imm ..) (.cons (.imm ..) (.cons (hp.frame ?_ fun _ h=>h) .nil)))) (by decide)
   exact fun o h=>at_upd
theorem ret62 {e:Exp} (h:e.Sm):Ret CC 10 [e.iv] e.iv:=by
 induction h with
 |mk op name n fold calcs kids hlc hlk hcs hks ih=>
 have hlm:=tivs_len calcs
 have hlm2:=ivs_len kids
 refine Ret.of (fn:=Go.Proofs.Try.f10) (by kernel_rfl) rfl rfl ?_
 refine AA ?_
 refine W.loop (X:=Nat×AV) (fun x=>[(1, .ptr 0 0),(2, .ptr 1 0),(3, .ptr 11 0),(4, .imm (.int .i64 x.1))])
  (fun x nx G=>14<=nx/\x.1<=calcs.length/\G 0 = .box [.imm (.int .i64 op), .imm (sv name), .imm (.int .i64 n), .imm (.int .i64 fold), .imm (.lst (Trm.ivs calcs)), .imm (.lst (Exp.ivs kids))] false/\G 1 = .box ty59.zero.cells false /\
   G 11 = .box [.imm (.int .i64 op), .imm (sv name), .imm (.int .i64 n), .imm (.int .i64 fold),x.2, .nils] false/\Own 68 3 14 nx (Trm.ivs (calcs.take x.1)) G x.2)
  (fun x=>calcs.length-x.1) (0, .nils) .auto ⟨by omega,Nat.zero_le _,rfl,rfl,rfl, .nil ..⟩ ?_
 rintro ⟨i,v⟩ nx G ⟨hnx,hi,h0,h1,h7,ho⟩
 dsimp only at hi h7 ho ⊢
 rcases Bool.eq_false_or_eq_true (decide ((i:Int) < ((Trm.ivs calcs).length:Int))) with hc|hc
 ·have hlt:i < calcs.length:=by have:=of_decide_eq_true hc;omega
  obtain ⟨d,hx⟩:=at_lt hlt
  have hxi:=tivs_at hx
  have hdc:=d.cells_len
  have hmu:calcs.length-(i+1) < calcs.length-i:=by omega
  have hr:=ret95 (hcs d (List.mem_of_getElem? hx))
  have htk:=tivs_take hx
  have hlen:(Trm.ivs (calcs.take i)).length<=1048576:=by rw [tivs_len,List.length_take];omega
  obtain ⟨o',m',k'⟩:=d
  refine AA ?_
  refine D.app1 ho at_upd (by simp only [most];omega) fun v' G' rd o' ho' hG' hlo=>?_
  rw [<-htk] at ho'
  have hv1:=ho'.cells1
  have hv2:=ho'.one1
  have g0:=(hG' 0 (by omega)).trans (Eq.trans at_upd h0)
  have g1:=(hG' 1 (by omega)).trans (Eq.trans at_upd h1)
  have g7:=(hG' 11 (by omega)).trans (Eq.trans at_upd h7)
  refine AD ?_
  refine D.skip (by kernel_rfl) ?_
  refine AA ?_
  exact W.skipLop (i+1,v') hmu .auto ⟨by omega,hlt,at_upd,at_upd,at_upd,ho'.fr⟩
 have hge:calcs.length<=i:=by have:=of_decide_eq_false hc;omega
 rw [List.take_of_length_le hge] at ho
 refine AA ?_
 refine W.loop (X:=Nat×AV) (fun x=>[(1, .ptr 0 0),(2, .ptr 1 0),(3, .ptr 11 0),(5, .imm (.int .i64 x.1))])
  (fun x nx2 G=>nx<=nx2/\x.1<=kids.length/\G 0 = .box [.imm (.int .i64 op), .imm (sv name), .imm (.int .i64 n), .imm (.int .i64 fold), .imm (.lst (Trm.ivs calcs)), .imm (.lst (Exp.ivs kids))] false/\G 1 = .box ty59.zero.cells false /\
   G 11 = .box [.imm (.int .i64 op), .imm (sv name), .imm (.int .i64 n), .imm (.int .i64 fold),v,x.2] false/\Own 68 3 14 nx (Trm.ivs calcs) G v/\Own 40 6 nx nx2 (Exp.ivs (kids.take x.1)) G x.2)
  (fun x=>kids.length-x.1) (0, .nils) .auto ⟨by omega,Nat.zero_le _,h0,h1,h7,ho, .nil ..⟩ ?_
 clear h0 h1 h7 ho hc hge hi i G
 rintro ⟨i,w⟩ nx2 G ⟨hnx2,hi,h0,h1,h7,hov,ho⟩
 dsimp only at hi h7 ho ⊢
 rcases Bool.eq_false_or_eq_true (decide ((i:Int) < ((Exp.ivs kids).length:Int))) with hc|hc
 ·have hlt:i < kids.length:=by have:=of_decide_eq_true hc;omega
  obtain ⟨d,hx⟩:=at_lt hlt
  have hxi:=ivs_at hx
  have hdc:=d.cells_len
  have hmu:kids.length-(i+1) < kids.length-i:=by omega
  have hr:=ih d (List.mem_of_getElem? hx)
  have htk:=ivs_take hx
  have hlen:(Exp.ivs (kids.take i)).length<=1048576:=by rw [ivs_len,List.length_take];omega
  obtain ⟨o',s',m',f',c',k'⟩:=d
  refine AA ?_
  refine D.app1 ho at_upd (by simp only [most];omega) fun w' G' rd o' ho' hG' hlo=>?_
  rw [<-htk] at ho'
  have hv1:=ho'.cells1
  have hv2:=ho'.one1
  have g0:=(hG' 0 (by omega)).trans (Eq.trans at_upd h0)
  have g1:=(hG' 1 (by omega)).trans (Eq.trans at_upd h1)
  have g7:=(hG' 11 (by omega)).trans (Eq.trans at_upd h7)
  have gv:Own 68 3 14 nx (Trm.ivs calcs) G' v:=hov.fr (hh:=Nat.le_refl _) (hG:=fun o h h'=>(hG' o (by omega)).trans at_upd)
  refine AD ?_
  refine D.skip (by kernel_rfl) ?_
  refine AA ?_
  exact W.skipLop (i+1,w') hmu .auto ⟨by omega,hlt,at_upd,at_upd,at_upd,gv.fr,ho'.fr⟩
 ·have hge:kids.length<=i:=by have:=of_decide_eq_false hc;omega
  rw [List.take_of_length_le hge] at ho
  have hp:=ho.rdx
  have hpv:=hov.rdx
  rcases ho with ⟨_,rfl⟩|⟨o,_,_,rfl,_⟩<;>rcases hov with ⟨_,rfl⟩|⟨o2,_,_,rfl,_⟩
  all_goals
   refine AA ?_
   refine W.retFinCA rfl at_upd rfl rfl ?_
   refine Rdx.peek (d:=2) (P:=fun i=>14<=i/\i < nx2) (Rdx.agg (d:=1) (.cons (.imm ..) (.cons (.imm ..) (.cons (.imm ..) (.cons (.imm ..) (.cons (hpv.frame ?_ fun _ h=>⟨h.1,by omega⟩) (.cons (hp.frame ?_ fun _ h=>⟨by omega,h.2⟩) .nil))))))) (by decide)
   ·exact fun o h=>at_upd
   ·exact fun o h=>at_upd
end Go.Abs

/- TermParts: nodes and depths. -/
open Go Go.Abs
namespace Go.Abs
set_option maxRecDepth 100000
set_option maxHeartbeats 4000000
/-! ### what is formed is short -/
mutual
theorem calcR_sm:∀ (c:Trm) (other:Bool) (depth left:Int),0<=calcR c other depth left->c.Sm
 | .mk op n kids,other,depth,left,h=>by
  rw [calcR] at h
  split at h
  ·omega
  ·cases hk:kidsOf op n other with
   |none=>rw [hk] at h;simp at h
   |some k=>
    rw [hk] at h
    dsimp only at h
    split at h
    ·omega
    ·rename_i h1
     have hk2:k<=2:=by
      unfold kidsOf at hk
      (repeat' split at hk)<;>cases hk<;>omega
     exact .mk op n kids (by omega) (calcRs_sm kids other depth left 1 h)
theorem calcRs_sm:∀ (l:List Trm) (other:Bool) (depth left n:Int),0<=calcRs l other depth left n->∀ c∈l,c.Sm
 |[],_,_,_,_,_,c,hc=>by cases hc
 |k::r,other,depth,left,n,h,c,hc=>by
  rw [calcRs] at h
  split at h
  ·omega
  ·rename_i h1
   rcases List.mem_cons.1 hc with he|hc
   ·rw [he];exact calcR_sm k other (depth+1) (left-n) (by omega)
   ·exact calcRs_sm r other depth left _ h c hc
end
theorem shape_le {op:Int} {s:Shp} (h:shapeR op=some s):s.calcs<=2/\s.kids<=2:=by
 rcases ops15 op with rfl|rfl|rfl|rfl|rfl|rfl|rfl|rfl|rfl|rfl|rfl|rfl|rfl|rfl|rfl|⟨n1,n2,n3,n4,n5,n6,n7,n8,n9,n10,n11,n12,n13,n14,n15⟩
 iterate 15 (cases h;decide)
 unfold shapeR at h
 simp [n1,n2,n3,n4,n5,n6,n7,n8,n9,n10,n11,n12,n13,n14,n15] at h
mutual
theorem expR_sm (srcs defs:List Str) (ahead:Nat):∀ (e:Exp) (depth left:Int),0<=expR srcs defs ahead e depth left->e.Sm
 | .mk op name n fold calcs kids,depth,left,h=>by
  rw [expR] at h
  cases hs:shapeR op with
  |none=>rw [hs] at h;simp at h
  |some s=>
   rw [hs] at h
   dsimp only at h
   split at h
   ·omega
   ·split at h
    ·rename_i hh
     split at h
     ·omega
     ·rename_i hc
      have hle:=shape_le hs
      unfold headIs at hh
      simp only [Bool.and_eq_true,beq_iff_eq] at hh
      exact .mk op name n fold calcs kids (by omega) (by omega) (calcRs_sm calcs (other op) 0 left 1 (by omega)) (expRs_sm srcs defs ahead kids depth left _ h)
    ·omega
theorem expRs_sm (srcs defs:List Str) (ahead:Nat):∀ (l:List Exp) (depth left n:Int),0<=expRs srcs defs ahead l depth left n->∀ e∈l,e.Sm
 |[],_,_,_,_,e,he=>by cases he
 |k::r,depth,left,n,h,e,he=>by
  rw [expRs] at h
  split at h
  ·omega
  ·rename_i h1
   rcases List.mem_cons.1 he with hk|he
   ·rw [hk];exact expR_sm srcs defs ahead k (depth+1) (left-n) (by omega)
   ·exact expRs_sm srcs defs ahead r depth left _ h e he
end
theorem countL_sm (srcs names:List Str):∀ (ds:List Dfn) (i:Nat) (n:Int),0<=countL srcs names ds i n->∀ d∈ds,d.exp.Sm
 |[],_,_,_,d,hd=>by cases hd
 |k::r,i,n,h,d,hd=>by
  rw [countL] at h
  split at h
  ·omega
  ·rename_i h1
   rcases List.mem_cons.1 hd with hk|hd
   ·rw [hk];exact expR_sm srcs names i k.exp 1 (60-n) (by omega)
   ·exact countL_sm srcs names r (i+1) _ h d hd
theorem countR_sm {p:Pgm} (h:0<=countR p):∀ d∈p.defs,d.exp.Sm:=by
 unfold countR at h
 split at h
 ·omega
 ·split at h
  ·exact countL_sm _ _ _ _ _ h
  ·omega
theorem progR_count {p:Pgm} (h:progR p=true):0<=countR p:=by
 unfold progR at h
 split at h
 ·cases h
 ·omega
end Go.Abs

/- Programs that are the same; what is put, is short. -/
open Go Go.Abs
namespace Go.Abs
set_option maxRecDepth 100000
set_option maxHeartbeats 4000000
instance fnis60:FnIs CC 18:=⟨rfl,fun _=>rfl⟩
theorem ret60 {l:List Str} (hl:l.length<=9223372036854775807):Ret CC 18 [.lst (l.map sv), .lst (l.map sv)] (.bool true):=by
 have hlm:(l.map sv).length=l.length:=List.length_map ..
 have b3:(((l.map sv).length:Int) != ((l.map sv).length:Int))=false:=by simp
 refine Ret.of (fn:=Go.Proofs.Try.f18) (by kernel_rfl) rfl rfl ?_
 refine AA ?_
 refine W.loop (X:=Nat) (fun i=>[(0, .imm (.lst (l.map sv))),(1, .imm (.lst (l.map sv))),(5, .imm (.int .i64 i))])
  (fun i nx G=>i<=l.length) (fun i=>l.length-i) 0 .auto (Nat.zero_le _) ?_
 rintro i nx G hi
 rcases Bool.eq_false_or_eq_true (decide ((i:Int) < ((l.map sv).length:Int))) with hc|hc
 ·have hlt:i < l.length:=by have:=of_decide_eq_true hc;omega
  obtain ⟨d,hx⟩:=at_lt hlt
  have hxi:=at_map sv hx
  have hmu:l.length-(i+1) < l.length-i:=by omega
  have b0:(!(d==d))=false:=by simp
  refine AA ?_
  exact W.skipLop (i+1) hmu .auto hlt
 ·refine AA ?_
  exact W.retFin1 rfl ⟨[],rfl⟩
theorem ret23 {p:Pgm} (hs:p.srcs.length<=9223372036854775807) (hd:p.defs.length<=9223372036854775807) (h:∀ d∈p.defs,d.exp.Sm):Ret CC 7 [p.iv,p.iv] (.bool true):=by
 have h60:=ret60 hs
 obtain ⟨srcs,defs⟩:=p
 simp only at h60 hd h
 have hdm:(defs.map Dfn.iv).length=defs.length:=List.length_map ..
 have b3:(((defs.map Dfn.iv).length:Int) != ((defs.map Dfn.iv).length:Int))=false:=by simp
 have b4:(!true)=false:=rfl
 refine Ret.of (fn:=Go.Proofs.Try.f7) (by kernel_rfl) rfl rfl ?_
 refine AA ?_
 refine W.loop (X:=Nat) (fun i=>[(2, .ptr 0 0),(3, .ptr 1 0),(5, .imm (.int .i64 i))])
  (fun i nx G=>i<=defs.length/\G 0 = .box [.imm (.lst (srcs.map sv)), .imm (.lst (defs.map Dfn.iv))] false/\G 1 = .box [.imm (.lst (srcs.map sv)), .imm (.lst (defs.map Dfn.iv))] false) (fun i=>defs.length-i) 0 .auto ⟨Nat.zero_le _,rfl,rfl⟩ ?_
 rintro i nx G ⟨hi,h0,h1⟩
 rcases Bool.eq_false_or_eq_true (decide ((i:Int) < ((defs.map Dfn.iv).length:Int))) with hc|hc
 ·have hlt:i < defs.length:=by have:=of_decide_eq_true hc;omega
  obtain ⟨d,hx⟩:=at_lt hlt
  have hxi:=at_map Dfn.iv hx
  have hdc:=d.cells_len
  have hmu:defs.length-(i+1) < defs.length-i:=by omega
  have hr:=ret61 (h d (List.mem_of_getElem? hx))
  obtain ⟨nm,⟨o',s',n',f',c',k'⟩⟩:=d
  have b0:(!(nm==nm))=false:=by simp
  refine AA ?_
  exact W.skipLop (i+1) hmu .auto ⟨hlt,h0,h1⟩
 ·refine AA ?_
  exact W.retFin1 rfl ⟨[],rfl⟩
end Go.Abs

/- Names: there is one that is none of some. -/
open Go Go.Abs
namespace Go.Abs
theorem wordN_zero:wordN 0=[]:=by rw [wordN]
theorem wordN_inj:∀ n m,wordN n=wordN m->n=m:=by
 intro n
 induction n using Nat.strongRecOn with
 |_ n ih=>
  intro m h
  cases n with
  |zero=>
   cases m with
   |zero=>rfl
   |succ m=>rw [wordN_zero,wordN_succ] at h;simp at h
  |succ n=>
   cases m with
   |zero=>rw [wordN_zero,wordN_succ] at h;simp at h
   |succ m=>
    rw [wordN_succ,wordN_succ] at h
    have h1:=List.append_inj_left' h rfl
    have h2:=List.append_inj_right' h rfl
    have h3:=ih (n / 26) (by omega) _ h1
    have h4:n % 26=m % 26:=by
     have:=congrArg UInt8.toNat (List.cons.inj h2).1
     simp only [UInt8.toNat_ofNat'] at this
     omega
    omega
theorem wordN_short:∀ k n,n < 26 ^ k->(wordN n).length<=k
 |0,n,h=>by
  have:n=0:=by simpa using h
  rw [this,wordN_zero];simp
 |k+1,n,h=>by
  cases n with
  |zero=>rw [wordN_zero];simp
  |succ n=>
   rw [wordN_succ]
   have:=wordN_short k (n / 26) (by rw [Nat.pow_succ] at h;omega)
   simp;omega
theorem wordN_low:∀ n,lows (wordN n)=true:=by
 intro n
 induction n using Nat.strongRecOn with
 |_ n ih=>
  cases n with
  |zero=>rw [wordN_zero];rfl
  |succ n=>
   have h:=ih (n / 26) (by omega)
   have hc:∀ r,r < 26->okc (UInt8.ofNat (97+r))=true:=by decide
   rw [wordN_succ]
   unfold lows at h ⊢
   rw [List.all_append,h,List.all_cons,hc _ (Nat.mod_lt _ (by omega))]
   rfl
theorem name_word {n:Nat} (h1:1<=n) (h:n < 26 ^ 8):nameOk (wordN n) = !kws.contains (wordN n):=by
 have h2:=wordN_short 8 n h
 have h3:0 < (wordN n).length:=by
  cases n with
  |zero=>omega
  |succ n=>rw [wordN_succ];simp
 rw [nameOk,wordN_low,decide_eq_true h3,decide_eq_true h2]
 simp
theorem nodup_len:∀ (a b:List Str),a.Nodup->(∀ x∈a,x∈b)->a.length<=b.length
 |[],_,_,_=>Nat.zero_le _
 |x::r,b,hn,hs=>by
  rw [List.nodup_cons] at hn
  have hx:=hs x (by simp)
  have h1:=nodup_len r (b.erase x) hn.2 (fun y hy=>by
   have hne:y≠x:=fun e=>hn.1 (e▸hy)
   exact (List.mem_erase_of_ne hne).2 (hs y (by simp [hy])))
  rw [List.length_erase_of_mem hx] at h1
  have:=List.length_pos_of_mem hx
  simp
  omega
theorem least_of {p:Nat->Bool}:∀ n,p n=true->1<=n->∃ m,1<=m/\m<=n/\p m=true/\∀ k,1<=k->k < m->p k=false:=by
 intro n
 induction n using Nat.strongRecOn with
 |_ n ih=>
  intro h hn
  by_cases hk:∃ k,1<=k/\k < n/\p k=true
  ·obtain ⟨k,h1,h2,h3⟩:=hk
   obtain ⟨m,a,b,c⟩:=ih k h2 h3 h1
   exact ⟨m,a,by omega,c⟩
  ·exact ⟨n,hn,Nat.le_refl _,h,fun k h1 h2=>by
    cases e:p k with
    |false=>rfl
    |true=>exact absurd ⟨k,h1,h2,e⟩ hk⟩
theorem exists_first (l:List Str) (hl:l.length<=1048576):∃ N,First l N:=by
 have key:∃ n,1<=n/\n<=l.length+35/\good l n=true:=by
  refine Classical.byContradiction fun hno=>?_
  have h:∀ n,1<=n->n<=l.length+35->wordN n∈kws++l:=by
   intro n h1 h2
   have hg:good l n=false:=by
    cases e:good l n with
    |false=>rfl
    |true=>exact absurd ⟨n,h1,h2,e⟩ hno
   rw [good,name_word h1 (by omega)] at hg
   rw [List.mem_append]
   cases hk:kws.contains (wordN n) with
   |true=>exact .inl (by simpa using hk)
   |false=>
    rw [hk] at hg
    exact .inr (by simpa using hg)
  have h2:=nodup_len ((List.range (l.length+35)).map fun i=>wordN (i+1)) (kws++l) (by
   rw [List.nodup_iff_pairwise_ne,List.pairwise_map]
   refine List.Pairwise.imp ?_ (List.nodup_iff_pairwise_ne.1 List.nodup_range)
   intro a b hab e
   have:=wordN_inj _ _ e
   omega) (by
   intro x hx
   simp only [List.mem_map,List.mem_range] at hx
   obtain ⟨i,hi,rfl⟩:=hx
   exact h (i+1) (by omega) (by omega))
  have hk:kws.length=34:=rfl
  simp only [List.length_map,List.length_range,List.length_append,hk] at h2
  omega
 obtain ⟨n,h1,h2,h3⟩:=key
 obtain ⟨m,a,b,c,d⟩:=least_of (p:=good l) n h3 h1
 exact ⟨m,a,c,d,by omega⟩
end Go.Abs
