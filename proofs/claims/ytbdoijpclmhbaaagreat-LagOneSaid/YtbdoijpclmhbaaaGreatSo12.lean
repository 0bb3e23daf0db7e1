/- The program's rounds: when one changes nothing. -/
import Derived.Test.YtbdoijpclmhbaaaGreatSo11
open Go Go.Abs
namespace Go.Abs
set_option maxRecDepth 100000
theorem rndL_row {p:Pgm} {ring:Bool} {d:Nat}:∀ {g:List Nat} {E:List (List Lg)},d∉g->(rndL p ring g E)[d]? = E[d]?
 |[],_,_=>rfl
 |x::g,E,h=>by
  rw [show rndL p ring (x::g) E=rndL p ring g (setL p ring E x) from rfl,rndL_row fun hc=>h (List.mem_cons_of_mem _ hc)]
  unfold setL
  exact List.getElem?_set_ne (by rintro rfl;exact h (List.mem_cons_self ..))
theorem still_step {p:Pgm} {ring:Bool} {g:List Nat} {k d:Nat} {E:List (List Lg)} (hn:g.Nodup) (hd:g[k]? = some d) (hl:d < (rndL p ring (g.take k) E).length) :
  rndL p ring (g.take (k+1)) E=E↔rndL p ring (g.take k) E=E/\rowL p ring (rndL p ring (g.take k) E) d=(rndL p ring (g.take k) E).getD d []:=by
 have hnd:d∉g.take k:=fun hc=>by
  obtain ⟨hk,rfl⟩:=List.getElem?_eq_some_iff.1 hd
  obtain ⟨j,hj,he⟩:=List.mem_iff_getElem.1 hc
  rw [List.length_take] at hj
  rw [List.getElem_take] at he
  have:=(List.getElem_inj hn).1 he
  omega
 have hrow:=rndL_row (p:=p) (ring:=ring) (E:=E) hnd
 rw [rndL_take hd]
 unfold setL
 generalize rowL p ring (rndL p ring (g.take k) E) d=l at *
 generalize rndL p ring (g.take k) E=F at *
 rw [List.getD_eq_getElem?_getD,List.getElem?_eq_getElem hl]
 constructor
 ·intro h
  have h1:(F.set d l)[d]? = some l:=by rw [List.getElem?_set_self hl]
  rw [h,<-hrow,List.getElem?_eq_getElem hl] at h1
  have h2:F[d]=l:=by simpa using h1
  refine ⟨?_,h2.symm⟩
  rw [<-h,<-h2,List.set_getElem_self]
 ·rintro ⟨rfl,h⟩
  simp only [Option.getD_some] at h
  rw [h,List.set_getElem_self]
theorem order_flat (tos:List (List Nat)):(orderR tos).flatten.Nodup:=by
 have:=order_apart (tos:=tos) tos.length DoneIs.nil
 rw [List.nil_append] at this
 exact this
theorem flat_take {gs:List (List Nat)} (h:gs.flatten.Nodup) {g:Nat} {r:List Nat} (hg:gs[g]? = some r) {d:Nat} (hd:d∈r):d∉(gs.take g).flatten:=fun hc=>by
 have hlt:=(List.getElem?_eq_some_iff.1 hg).1
 have e:gs=gs.take g++(r::gs.drop (g+1)):=by
  have:=List.getElem_cons_drop hlt
  rw [(List.getElem?_eq_some_iff.1 hg).2] at this
  rw [this,List.take_append_drop]
 rw [e,List.flatten_append,List.nodup_append] at h
 exact h.2.2 d hc d (by rw [List.flatten_cons];exact List.mem_append_left _ hd) rfl
theorem lags3_still {p:Pgm} (hp:progR p=true) {g r:Nat} (hg:g < (orderR (tosR p)).length) (h:lags3 p (orderR (tosR p)) g r ((orderR (tosR p)).getD g []).length=lags3 p (orderR (tosR p)) g r 0):lags3 p (orderR (tosR p)) g r 0=lagsTo p ((orderR (tosR p)).take (g+1)):=by
 have hgr:(orderR (tosR p))[g]? = some ((orderR (tosR p)).getD g []):=by rw [List.getD_eq_getElem?_getD,List.getElem?_eq_getElem hg];rfl
 have h1:=(order_small hp).2 _ (List.mem_of_getElem? hgr)
 have h2:=lags_so hp g
 have h3:=(progR_small hp).len
 rw [<-lags3_group hg]
 unfold lags3 at h ⊢
 rw [List.take_zero,List.take_length] at h
 rw [List.take_zero]
 exact grp_still hp h1.2.2 h2.wide (fun d hd=>h2.rest d (flat_take (order_flat _) hgr hd)) (by have:=nodup_lt h1.2.2.nodup h1.2.1;omega) h
theorem lags3_must {p:Pgm} (hp:progR p=true) {g r:Nat} (hg:g < (orderR (tosR p)).length) (hr:((orderR (tosR p)).getD g []).length<=r):lags3 p (orderR (tosR p)) g r ((orderR (tosR p)).getD g []).length=lags3 p (orderR (tosR p)) g r 0:=by
 have hgr:(orderR (tosR p))[g]? = some ((orderR (tosR p)).getD g []):=by rw [List.getD_eq_getElem?_getD,List.getElem?_eq_getElem hg];rfl
 have h1:=(order_small hp).2 _ (List.mem_of_getElem? hgr)
 have h2:=lags_so hp g
 unfold lags3
 rw [List.take_zero,List.take_length]
 exact grp_must hp h1.2.2 h2.wide (fun d hd=>h2.rest d (flat_take (order_flat _) hgr hd)) hr
end Go.Abs

/- The lags fulfil their equations. -/
open Go Go.Abs
namespace Go.Abs
set_option maxRecDepth 100000
theorem rndL_len {p:Pgm} {ring:Bool}:∀ {g:List Nat} {E:List (List Lg)},(rndL p ring g E).length=E.length
 |[],_=>rfl
 |x::g,E=>by
  rw [show rndL p ring (x::g) E=rndL p ring g (setL p ring E x) from rfl,rndL_len]
  unfold setL
  exact List.length_set ..
theorem grp_is {tos:List (List Nat)} {d:Nat} (hd:d < tos.length):GrpIs tos (grpR tos d):=by
 obtain ⟨f,r,hfr⟩:∃ f r,grpR tos d=f::r:=by
  cases hg:grpR tos d with
  |nil=>have:=grp_self hd;rw [hg] at this;cases this
  |cons f r=>exact ⟨f,r,rfl⟩
 have hring:∀ k∈grpR tos d,reachB tos k k=reachB tos d d:=fun k hk=>by
  obtain ⟨_,h⟩:=(mem_grp hd).1 hk
  rcases h with rfl|⟨h1,h2⟩
  ·rfl
  ·rw [reachB_iff.2 (h1.trans h2),reachB_iff.2 (h2.trans h1)]
 have hr:ringB tos (grpR tos d)=reachB tos d d:=by
  rw [<-hring f (hfr▸List.mem_cons_self ..),hfr];rfl
 refine ⟨fun k hk=>grp_lt hk,⟨f,r,hfr⟩,grp_nodup d,fun k hk=>by rw [hr];exact hring k hk,fun h=>?_⟩
 rw [hr] at h
 exact ⟨d,grp_alone hd fun hc=>by rw [reachB_iff.2 hc] at h;cases h⟩
theorem ref_reach {p:Pgm} (hp:progR p=true) {d:Nat} (hd:d < p.defs.length) {x:Exp} (hx:x∈allE (expAt p d)) (hop:x.op=2\/x.op=3):Reach (tosR p) d (idxN (p.defs.map Dfn.name) x.name):=by
 have hgd:=progR_good hp
 refine .one ?_
 obtain ⟨y,hy⟩:=at_lt hd
 rw [hgd.tos.at' d y hy]
 unfold stepsN
 rw [List.mem_map]
 refine ⟨x,List.mem_filter.2 ⟨by rwa [expAt_at hy] at hx,?_⟩,?_⟩
 ·unfold namesDef
  rcases hop with h|h<;>rw [h]<;>rfl
 ·rw [(countR_parts (progR_count hp)).2.2.1]
theorem ref_lt {p:Pgm} (hp:progR p=true) {d:Nat} (hd:d < p.defs.length) {x:Exp} (hx:x∈allE (expAt p d)) (hop:x.op=2\/x.op=3):idxN (p.defs.map Dfn.name) x.name < p.defs.length:=by
 have:=((progR_node hp hd x hx).nodeB.2.1 hop).2
 have h2:=idxN_lt this
 rwa [List.length_map] at h2
theorem still_all {p:Pgm} {ring:Bool} {g:List Nat} {E:List (List Lg)} (hn:g.Nodup) (hl:∀ d∈g,d < E.length) (h:rndL p ring g E=E):∀ d∈g,setL p ring E d=E:=by
 have hall:∀ j k,k+j=g.length->rndL p ring (g.take k) E=E:=by
  intro j
  induction j with
  |zero=>intro k hk;rw [List.take_of_length_le (by omega)];exact h
  |succ j ih=>
   intro k hk
   obtain ⟨d,hd⟩:=at_lt (l:=g) (i:=k) (by omega)
   have h1:=ih (k+1) (by omega)
   refine ((still_step hn hd ?_).1 h1).1
   have h2:=rndL_len (p:=p) (ring:=ring) (g:=g.take k) (E:=E)
   rw [h2]
   exact hl d (List.mem_of_getElem? hd)
 intro d hd
 obtain ⟨k,hk,rfl⟩:=List.mem_iff_getElem.1 hd
 have h1:=hall (g.length-k) k (by omega)
 have h2:=hall (g.length-(k+1)) (k+1) (by omega)
 have h3:=((still_step hn (List.getElem?_eq_getElem hk) (by rw [h1];exact hl _ hd)).1 h2).2
 rw [h1] at h3
 unfold setL
 rw [h3,List.getD_eq_getElem?_getD,List.getElem?_eq_getElem (hl _ hd)]
 exact List.set_getElem_self ..
def EqAt (p:Pgm) (D:List (List Lg)) (d:Nat):Prop:=∀ s,s < p.srcs.length->colD D s d=ringL (reachB (tosR p) d d) (expG p.srcs (p.defs.map Dfn.name) (colD D s) s (expAt p d))
structure LagInv (p:Pgm) (done:List Nat) (D:List (List Lg)):Prop where
 wide:Wide p D
 zero:∀ d,d∉done->∀ s,colD D s d=Lg.z
 is:DoneIs (tosR p) done
 down:∀ d∈done,∀ k,k < p.defs.length->Reach (tosR p) d k->k∈done
 eq:∀ d∈done,EqAt p D d
theorem LagInv.step {p:Pgm} (hp:progR p=true) {done:List Nat} {D:List (List Lg)} (h:LagInv p done D) {d:Nat} (hd:d < p.defs.length) (hr:readyR (tosR p) done d=true) :
  LagInv p (done++grpR (tosR p) d) (rndsL p (ringB (tosR p) (grpR (tosR p) d)) (grpR (tosR p) d) (p.defs.length+1) D):=by
 have htl:(tosR p).length=p.defs.length:=(progR_good hp).steps.2.1
 obtain ⟨hn,hk⟩:=ready_iff.1 hr
 have hgi:GrpIs (tosR p) (grpR (tosR p) d):=grp_is (by omega)
 have hap:∀ k∈grpR (tosR p) d,k∉done:=fun k hk=>h.is.apart (by omega) hn hk
 have hz:∀ e∈grpR (tosR p) d,∀ s,colD D s e=Lg.z:=fun e he s=>h.zero e (hap e he) s
 have hgl:(grpR (tosR p) d).length<=p.defs.length+1:=by
  have:=nodup_lt hgi.nodup hgi.lt
  omega
 have hstill:=grp_must hp hgi h.wide hz hgl
 have hw:Wide p (rndsL p (ringB (tosR p) (grpR (tosR p) d)) (grpR (tosR p) d) (p.defs.length+1) D):=h.wide.rnds _ _ _
 have hdn:∀ e∈done++grpR (tosR p) d,∀ k,k < p.defs.length->Reach (tosR p) e k->k∈done++grpR (tosR p) d:=fun e he k hkl hrk=>by
  rcases List.mem_append.1 he with he|he
  ·exact List.mem_append_left _ (h.down e he k hkl hrk)
  ·obtain ⟨_,h2⟩:=(mem_grp (by omega)).1 he
   have h3:Reach (tosR p) d k:=by
    rcases h2 with rfl|⟨h2,_⟩
    ·exact hrk
    ·exact h2.trans hrk
   exact List.mem_append.2 (hk k (by omega) h3)
 refine ⟨hw,fun e he s=>?_,h.is.step (by omega) hn,hdn,fun e he s hs=>?_⟩
 ·rw [List.mem_append,not_or] at he
  rw [colD_rnds he.2]
  exact h.zero e he.1 s
 ·rcases List.mem_append.1 he with hed|heg
  ·have hne:e∉grpR (tosR p) d:=fun hc=>hap e hc hed
   have hel:e < p.defs.length:=by have:=h.is.lt e hed;omega
   rw [colD_rnds hne,h.eq e hed s hs]
   congr 1
   refine expG_cong _ _ s _ fun x hx hop=>?_
   have h1:=h.down e hed _ (ref_lt hp hel hx hop) (ref_reach hp hel hx hop)
   rw [colD_rnds fun hc=>hap _ hc h1]
  ·have h1:=still_all hgi.nodup (fun k hk=>by rw [hw.len];have:=hgi.lt k hk;omega) hstill e heg
   have h2:=col_set hw (ringB (tosR p) (grpR (tosR p) d)) (d:=e) (by have:=hgi.lt e heg;omega) hs e
   rw [h1,if_pos rfl] at h2
   rw [hgi.ring e heg]
   exact h2
theorem lags_inv {p:Pgm} (hp:progR p=true):∀ (f:Nat) (done:List Nat) (D:List (List Lg)),LagInv p done D->(tosR p).length<=done.length+f ->
  ∃ done',(tosR p).length<=done'.length/\LagInv p done' ((orderTo (tosR p) f done).foldl (fun D g=>rndsL p (ringB (tosR p) g) g (p.defs.length+1) D) D)
 |0,done,D,h,hl=>⟨done,by omega,h⟩
 |f+1,done,D,h,hl=>by
  have htl:(tosR p).length=p.defs.length:=(progR_good hp).steps.2.1
  by_cases hfull:(tosR p).length<=done.length
  ·rw [orderTo_end h.is hfull]
   exact ⟨done,hfull,h⟩
  ·obtain ⟨d,hx,hd,hn⟩:=next_some (tos:=tosR p) (done:=done) (by omega)
   obtain ⟨_,hr,_⟩:=next_inv hx
   rw [orderTo,hx]
   simp only [List.foldl_cons]
   refine lags_inv hp f _ _ (h.step hp (by omega) hr) ?_
   have:1<=(grpR (tosR p) d).length:=List.length_pos_of_mem (grp_self hd)
   rw [List.length_append];omega
theorem lags_eq {p:Pgm} (hp:progR p=true) {d:Nat} (hd:d < p.defs.length):EqAt p (lagsR p) d:=by
 have htl:(tosR p).length=p.defs.length:=(progR_good hp).steps.2.1
 obtain ⟨done,h1,h2⟩:=lags_inv hp (tosR p).length [] (zeroL p) ⟨Wide.zero p,fun d _ s=>colD_zero p s d, .nil,(fun d h=>by cases h),(fun d h=>by cases h)⟩ (by simp)
 exact h2.eq d (h2.is.all h1 (by omega))
end Go.Abs

/- What a node is made of: the items of an expression by the bags of its Kids. -/
open Go Go.Abs
namespace Go.Abs
set_option maxRecDepth 100000
structure BagIs (b:List Bi):Prop where
 srt:Srt b
 ok:∀ y∈b,y.Ok
 tin:∀ y∈b,Tin y.r.a
def Trm.zz:Trm := .mk 1 0 []
def lastP (r:Rc) (x:Bi):Bool:=x.r.k==r.k&&decide (x.r.a<=r.a)
def bestS (o:Option Bi) (x:Bi):Option Bi:=match o with
 |none=>some x
 |some y=>if decide (x.r.a > y.r.a)||(x.r.a==y.r.a&&decide (x.r.v > y.r.v)) then some x else some y
def lastF (b:List Bi) (r:Rc):Option Bi:=(b.filter (lastP r)).foldl bestS none
def filtB (op n:Int) (calcs:List Trm) (k1:List Bi) (x:Bi):Option Bi:=
 if op=5 then (if calcZ x.r 0 (calcs.getD 0 Trm.zz) != 0 then some x else none)
 else if op=6 then some ⟨⟨x.r.a,calcZ x.r 0 (calcs.getD 0 Trm.zz),calcZ x.r 0 (calcs.getD 1 Trm.zz)⟩,x.n⟩
 else if op=13 then (match lastF k1 x.r with
  |none=>none
  |some y=>some ⟨⟨x.r.a,x.r.k,calcZ x.r y.r.v (calcs.getD 0 Trm.zz)⟩,x.n⟩)
 else if op=14 then (if (nearF k1 x.r n).isEmpty then some x else none)
 else some ⟨x.r,1⟩
def nodeF (sb db:Str->List Bi) (op:Int) (name:Str) (n f:Int) (calcs:List Trm) (ks:List (List Bi)):List Bi:=
 if op=1 then sb name else if op=2 then db name else if op=3 then laterF (db name) n
 else if op=4 then ks.getD 0 []++ks.getD 1 []
 else if op=7 then laterF (ks.getD 0 []) n
 else if op=8\/op=9\/op=10 then foldsF op n f (ks.getD 0 [])
 else if op=11 then restsF n f (ks.getD 0 [])
 else if op=12 then pairsF n (calcs.getD 0 Trm.zz) (ks.getD 0 []) (ks.getD 1 [])
 else (ks.getD 0 []).filterMap (filtB op n calcs (ks.getD 1 []))
def spanF (op n t:Int) (i:Nat):Int×Int:=
 if op=7 then (t-n,t-n) else if op=8 then (t-(n-1),t) else if op=9\/op=12 then (t-n,t)
 else if op=10\/op=11 then (-1000,t) else if op=13 then (if i=1 then (-1000,t) else (t,t)) else if op=14 then (t-n*i,t+n*i) else (t,t)
structure NIs (op n:Int):Prop where
 in50 : -50<=n/\n<=50
 one:op=8\/op=11->1<=n
 pos:op≠7->0<=n
/-! spans -/
def EqC (lo hi:Int) (u v:List Bi):Prop:=cutB u lo hi=cutB v lo hi
theorem filter_cut {P:Bi->Bool} {lo hi:Int} {b:List Bi} (h:∀ x∈b,P x=true->lo<=x.r.a/\x.r.a<=hi):(cutB b lo hi).filter P=b.filter P:=by
 unfold cutB
 rw [List.filter_filter]
 refine List.filter_congr fun x hx=>?_
 cases hp:P x with
 |false=>rfl
 |true=>rw [Bool.true_and,decide_eq_true (h x hx hp).1,decide_eq_true (h x hx hp).2];rfl
theorem EqC.filter {lo hi:Int} {u v:List Bi} (h:EqC lo hi u v) {P:Bi->Bool} (hu:∀ x∈u,P x=true->lo<=x.r.a/\x.r.a<=hi) (hv:∀ x∈v,P x=true->lo<=x.r.a/\x.r.a<=hi):u.filter P=v.filter P:=by
 rw [<-filter_cut hu,<-filter_cut hv,h]
theorem EqC.keyed {lo hi l2 h2 k:Int} {u v:List Bi} (h:EqC lo hi u v) (hl:lo<=l2/\h2<=hi):keyedF u k l2 h2=keyedF v k l2 h2:=by
 refine h.filter (fun x _ hp=>?_) (fun x _ hp=>?_) <;>
 ·rw [Bool.and_eq_true,Bool.and_eq_true,decide_eq_true_eq,decide_eq_true_eq] at hp;omega
/-! one kind after the other -/
theorem cut_map {f:Bi->Bi} {lo hi:Int} (b:List Bi):cutB (b.map f) lo hi=(b.filter fun x=>decide ((f x).r.a>=lo)&&decide ((f x).r.a<=hi)).map f:=by
 unfold cutB
 rw [List.filter_map];rfl
theorem later_at {t n:Int} (hn : -50<=n/\n<=50) {u v:List Bi} (hu:∀ y∈u,Tin y.r.a) (hv:∀ y∈v,Tin y.r.a) (h:EqC (t-n) (t-n) u v):cutB (laterF u n) t t=cutB (laterF v n) t t:=by
 unfold laterF
 rw [cut_map,cut_map,h.filter]
 all_goals
  intro x hx hp
  rw [Bool.and_eq_true,decide_eq_true_eq,decide_eq_true_eq] at hp
  first
  |have:=hu x hx
   unfold Tin at this
   simp only at hp
   rw [w64_id (by omega) (by omega)] at hp;omega
  |have:=hv x hx
   unfold Tin at this
   simp only at hp
   rw [w64_id (by omega) (by omega)] at hp;omega
theorem cut_app {lo hi:Int} (a b:List Bi):cutB (a++b) lo hi=cutB a lo hi++cutB b lo hi:=List.filter_append ..
theorem cut_fm {g:Bi->Option Bi} (hg:∀ x y,g x=some y->y.r.a=x.r.a) {lo hi:Int}:∀ b:List Bi,cutB (b.filterMap g) lo hi=(cutB b lo hi).filterMap g
 |[]=>rfl
 |x::b=>by
  have ih:=cut_fm hg (lo:=lo) (hi:=hi) b
  unfold cutB at ih ⊢
  cases hx:g x with
  |none=>
   rw [List.filterMap_cons_none hx,ih,List.filter_cons]
   split
   ·rw [List.filterMap_cons_none hx]
   ·rfl
  |some y=>
   rw [List.filterMap_cons_some hx,List.filter_cons,List.filter_cons,hg x y hx,ih]
   split
   ·rw [List.filterMap_cons_some hx]
   ·rfl
theorem hasB_iff {o:List Bi} {x:Bi}:hasB o x=true↔x∈o:=by
 unfold hasB
 rw [List.any_eq_true]
 exact ⟨fun ⟨y,hy,h⟩=>Bi.same_iff.1 h▸hy,fun h=>⟨x,h,Bi.same_iff.2 rfl⟩⟩
theorem filter_addB {P:Bi->Bool} {o:List Bi} {x:Bi}:(addB o x).filter P=if P x=true then addB (o.filter P) x else o.filter P:=by
 unfold addB
 by_cases hx:P x=true
 ·rw [if_pos hx]
  by_cases hm:x∈o
  ·rw [if_pos (hasB_iff.2 hm),if_pos (hasB_iff.2 (List.mem_filter.2 ⟨hm,hx⟩))]
  ·rw [if_neg fun h=>hm (hasB_iff.1 h),if_neg fun h=>hm (List.mem_filter.1 (hasB_iff.1 h)).1,List.filter_append,List.filter_cons,if_pos hx];rfl
 ·rw [if_neg hx]
  split
  ·rfl
  ·rw [List.filter_append,List.filter_cons,if_neg hx];simp
theorem filter_adds {P:Bi->Bool}:∀ (l o:List Bi),(l.foldl addB o).filter P=(l.filter P).foldl addB (o.filter P)
 |[],o=>rfl
 |x::l,o=>by
  rw [List.foldl_cons,filter_adds l,filter_addB,List.filter_cons]
  split<;>rfl
theorem win_is {op n a:Int} (hn:NIs op n) (h:op=8\/op=9\/op=10) (ha:Tin a):(spanF op n (winF op n a).2 0).1<=(winF op n a).1/\(winF op n a).1<=a/\a<=(winF op n a).2/\Tin (winF op n a).2\/(spanF op n (winF op n a).2 0).1<=(winF op n a).1/\(winF op n a).1<=a/\a<=(winF op n a).2:=by
 have h50:=hn.in50
 have hp:=hn.pos
 unfold Tin at *
 right
 rcases h with rfl|rfl|rfl
 ·have h1:=hn.one (.inl rfl)
  have e:a.tmod n=a % n:=Int.tmod_eq_emod_of_nonneg ha.1
  have m1:=Int.emod_nonneg a (show n≠0 by omega)
  have m2:=Int.emod_lt_of_pos a (show 0 < n by omega)
  have hw:winF 8 n a=(a-a % n,a-a % n+n-1):=by
   have hle:a % n<=50:=by omega
   unfold winF
   rw [if_pos (show ((8:Int)==8)=true from rfl),e,w64_id (n:=a-a % n) (by omega) (by omega),w64_id (n:=a-a % n+n) (by omega) (by omega),w64_id (by omega) (by omega)]
  rw [hw]
  simp [spanF]
  omega
 ·have hw:winF 9 n a=(a-n,a):=by
   unfold winF
   rw [if_neg (show ¬ ((9:Int)==8)=true by decide),if_pos (show ((9:Int)==9)=true from rfl),w64_id (by have:=hp (by decide);omega) (by omega)]
  rw [hw]
  have:=hp (by decide)
  simp [spanF]
  omega
 ·have hw:winF 10 n a=(0,a):=rfl
  rw [hw]
  simp [spanF]
  omega
theorem folds_at {op n f t:Int} (hn:NIs op n) (h:op=8\/op=9\/op=10) {u v:List Bi} (hu:∀ y∈u,Tin y.r.a) (hv:∀ y∈v,Tin y.r.a) (he:EqC (spanF op n t 0).1 t u v):cutB (foldsF op n f u) t t=cutB (foldsF op n f v) t t:=by
 have hw:=fun (a:Int) (ha:Tin a) (ht:(winF op n a).2=t)=>ht▸(win_is hn h ha).elim (fun h=>(⟨h.1,h.2.1,h.2.2.1⟩:_/\_/\_)) id
 have hF:u.filter (fun x=>decide ((winF op n x.r.a).2>=t)&&decide ((winF op n x.r.a).2<=t))=v.filter (fun x=>decide ((winF op n x.r.a).2>=t)&&decide ((winF op n x.r.a).2<=t)):=by
  refine he.filter (fun x hx hp=>?_) (fun x hx hp=>?_)
  all_goals
   rw [Bool.and_eq_true,decide_eq_true_eq,decide_eq_true_eq] at hp
   first
   |have:=hw x.r.a (hu x hx) (by omega);omega
   |have:=hw x.r.a (hv x hx) (by omega);omega
 unfold foldsF cutB
 rw [filter_adds,filter_adds]
 congr 1
 rw [List.filter_map,List.filter_map]
 show (u.filter fun x=>decide ((winF op n x.r.a).2>=t)&&decide ((winF op n x.r.a).2<=t)).map _=(v.filter fun x=>decide ((winF op n x.r.a).2>=t)&&decide ((winF op n x.r.a).2<=t)).map _
 rw [<-hF]
 refine List.map_congr_left fun x hx=>?_
 obtain ⟨hx,hp⟩:=List.mem_filter.1 hx
 rw [Bool.and_eq_true,decide_eq_true_eq,decide_eq_true_eq] at hp
 have:=hw x.r.a (hu x hx) (by omega)
 unfold foldB
 rw [he.keyed (by omega)]
theorem restLow_at {n k t:Int} {u v:List Bi} (hu:∀ y∈u,Tin y.r.a) (hn:0<=n/\n<=50) (he:EqC (-1000) t u v):∀ (m:Nat) (low:Int),low<=t->Tin low->restLow n u k m low=restLow n v k m low/\restLow n u k m low<=t
 |0,low,h,_=>⟨rfl,h⟩
 |m+1,low,h,ht=>by
  unfold Tin at ht
  have hk:keyedF u k (w64 (low-n)) (w64 (low-1))=keyedF v k (w64 (low-n)) (w64 (low-1)):=by
   rw [w64_id (n:=low-n) (by omega) (by omega),w64_id (n:=low-1) (by omega) (by omega)]
   exact he.keyed (by omega)
  rw [restLow,restLow,<-hk]
  cases hc:keyedF u k (w64 (low-n)) (w64 (low-1)) with
  |nil=>exact ⟨rfl,h⟩
  |cons y r=>
   have hy:=keyed_mem (b:=u) (k:=k) (y:=y) (by rw [hc];exact List.mem_cons_self ..)
   have h2:=hy.2.2
   rw [w64_id (by omega) (by omega)] at h2
   exact restLow_at hu hn he m y.r.a (by omega) (hu y hy.1)
theorem rests_at {n f t:Int} (hn:NIs 11 n) {u v:List Bi} (hu:∀ y∈u,Tin y.r.a) (hv:∀ y∈v,Tin y.r.a) (he:EqC (-1000) t u v):cutB (restsF n f u) t t=cutB (restsF n f v) t t:=by
 have h50:=hn.in50
 have h1:=hn.one (.inr rfl)
 have hwa:∀ a,Tin a->w64 (a+n)=a+n/\w64 (a+1)=a+1:=fun a ha=>by
  unfold Tin at ha
  exact ⟨w64_id (by omega) (by omega),w64_id (by omega) (by omega)⟩
 have hP:∀ x,Tin x.r.a->x.r.a+n=t->restP n u x=restP n v x/\restB n f u x=restB n f v x:=fun x hx hxt=>by
  obtain ⟨w1,w2⟩:=hwa x.r.a hx
  have hl:=restLow_at (n:=n) (k:=x.r.k) hu (by omega) he 201 x.r.a (by omega) hx
  have hx':=hx
  unfold Tin at hx'
  refine ⟨?_,?_⟩
  ·unfold restP
   rw [w1,w2,he.keyed (k:=x.r.k) (l2:=x.r.a+1) (h2:=x.r.a+n) (by omega)]
  ·unfold restB
   rw [hl.1]
   have hm:∀ low,keyedF u x.r.k low x.r.a=keyedF v x.r.k low x.r.a:=fun low=>he.filter (fun y hy hp=>?_) (fun y hy hp=>?_)
   ·rw [hm]
   ·rw [Bool.and_eq_true,Bool.and_eq_true,decide_eq_true_eq,decide_eq_true_eq] at hp
    have:=(hu y hy).1;omega
   ·rw [Bool.and_eq_true,Bool.and_eq_true,decide_eq_true_eq,decide_eq_true_eq] at hp
    have:=(hv y hy).1;omega
 have hF:u.filter (fun x=>(decide (w64 (x.r.a+n)>=t)&&decide (w64 (x.r.a+n)<=t))&&restP n u x)=v.filter (fun x=>(decide (w64 (x.r.a+n)>=t)&&decide (w64 (x.r.a+n)<=t))&&restP n v x):=by
  have e1:∀ w:List Bi,(∀ y∈w,Tin y.r.a)->w.filter (fun x=>(decide (w64 (x.r.a+n)>=t)&&decide (w64 (x.r.a+n)<=t))&&restP n v x)=w.filter (fun x=>(decide (w64 (x.r.a+n)>=t)&&decide (w64 (x.r.a+n)<=t))&&restP n u x):=fun w hw=>List.filter_congr fun x hx=>by
   cases hc:decide (w64 (x.r.a+n)>=t)&&decide (w64 (x.r.a+n)<=t) with
   |false=>rfl
   |true=>
    rw [Bool.and_eq_true,decide_eq_true_eq,decide_eq_true_eq,(hwa _ (hw x hx)).1] at hc
    rw [(hP x (hw x hx) (by omega)).1]
  rw [e1 v hv]
  refine he.filter (fun x hx hp=>?_) (fun x hx hp=>?_)
  all_goals
   rw [Bool.and_eq_true,Bool.and_eq_true,decide_eq_true_eq,decide_eq_true_eq] at hp
   first
   |have h2:=hu x hx
    rw [(hwa _ h2).1] at hp
    unfold Tin at h2;omega
   |have h2:=hv x hx
    rw [(hwa _ h2).1] at hp
    unfold Tin at h2;omega
 unfold restsF cutB
 rw [filter_adds,filter_adds]
 congr 1
 rw [List.filter_map,List.filter_map,List.filter_filter,List.filter_filter]
 show (u.filter fun x=>(decide (w64 (x.r.a+n)>=t)&&decide (w64 (x.r.a+n)<=t))&&restP n u x).map _=(v.filter fun x=>(decide (w64 (x.r.a+n)>=t)&&decide (w64 (x.r.a+n)<=t))&&restP n v x).map _
 rw [<-hF]
 refine List.map_congr_left fun x hx=>?_
 obtain ⟨hx,hp⟩:=List.mem_filter.1 hx
 rw [Bool.and_eq_true,Bool.and_eq_true,decide_eq_true_eq,decide_eq_true_eq,(hwa _ (hu x hx)).1] at hp
 exact (hP x (hu x hx) (by omega)).2
theorem flat_cut {g:Bi->List Bi} {lo hi:Int}:∀ {b:List Bi},(∀ x∈b,¬ (lo<=x.r.a/\x.r.a<=hi)->g x=[])->b.flatMap g=(cutB b lo hi).flatMap g
 |[],_=>rfl
 |x::b,h=>by
  have ih:=flat_cut (g:=g) (b:=b) fun y hy=>h y (List.mem_cons_of_mem _ hy)
  unfold cutB at ih ⊢
  rw [List.flatMap_cons,ih,List.filter_cons]
  split
  ·rw [List.flatMap_cons]
  ·rename_i hc
   rw [h x (List.mem_cons_self ..) fun hi=>hc (by rw [decide_eq_true hi.1,decide_eq_true hi.2];rfl)];rfl
def maxA (y l:Bi):Int:=if l.r.a > y.r.a then l.r.a else y.r.a
theorem pairs_at {n t:Int} {c:Trm} (hn:NIs 12 n) {u v x y:List Bi} (hu:∀ z∈u,Tin z.r.a) (hv:∀ z∈v,Tin z.r.a) (h1:EqC (t-n) t u v) (h2:EqC (t-n) t x y):cutB (pairsF n c u x) t t=cutB (pairsF n c v y) t t:=by
 have h50:=hn.in50
 have hp:=hn.pos (by decide)
 have hin:∀ (w:List Bi) (z:Bi),cutB ((nearF w z.r n).map (pairB c z)) t t=(w.filter fun l=>(decide (maxA z l>=t)&&decide (maxA z l<=t))&&(l.r.k==z.r.k&&decide (l.r.a<=w64 (z.r.a+n))&&decide (l.r.a>=w64 (z.r.a-n)))).map (pairB c z):=fun w z=>by
  rw [cut_map]
  unfold nearF
  rw [List.filter_filter];rfl
 have hw:∀ z:Bi,Tin z.r.a->w64 (z.r.a+n)=z.r.a+n/\w64 (z.r.a-n)=z.r.a-n:=fun z hz=>by
  unfold Tin at hz
  exact ⟨w64_id (by omega) (by omega),w64_id (by omega) (by omega)⟩
 have hr:∀ (w:List Bi) (z:Bi),Tin z.r.a->∀ l∈w,((decide (maxA z l>=t)&&decide (maxA z l<=t))&&(l.r.k==z.r.k&&decide (l.r.a<=w64 (z.r.a+n))&&decide (l.r.a>=w64 (z.r.a-n))))=true->(t-n<=l.r.a/\l.r.a<=t)/\t-n<=z.r.a/\z.r.a<=t:=fun w z hz l _ hp=>by
  simp only [Bool.and_eq_true,decide_eq_true_eq,(hw z hz).1,(hw z hz).2] at hp
  obtain ⟨⟨p1,p2⟩,⟨_,p3⟩,p4⟩:=hp
  unfold maxA at p1 p2
  split at p1<;>omega
 have hnil:∀ (w:List Bi) (z:Bi),Tin z.r.a->¬ (t-n<=z.r.a/\z.r.a<=t)->cutB ((nearF w z.r n).map (pairB c z)) t t=[]:=fun w z hz hc=>by
  rw [hin,List.filter_eq_nil_iff.2 fun l hl hp=>hc (hr w z hz l hl hp).2];rfl
 have hflat:∀ w b:List Bi,cutB (pairsF n c w b) t t=w.flatMap fun z=>cutB ((nearF b z.r n).map (pairB c z)) t t:=fun w b=>by
  unfold pairsF cutB
  rw [List.filter_flatMap]
 rw [hflat,hflat,flat_cut (lo:=t-n) (hi:=t) (fun z hz hc=>hnil _ z (hu z hz) hc),flat_cut (b:=v) (lo:=t-n) (hi:=t) (fun z hz hc=>hnil _ z (hv z hz) hc),<-h1]
 refine flatMap_same fun z hz=>?_
 have hz:=hu z (mem_cut.1 hz).1
 rw [hin,hin,h2.filter (fun l hl hp=>(hr x z hz l hl hp).1) (fun l hl hp=>(hr y z hz l hl hp).1)]
theorem fm_same {g h:Bi->Option Bi}:∀ {b:List Bi},(∀ x∈b,g x=h x)->b.filterMap g=b.filterMap h
 |[],_=>rfl
 |x::b,hh=>by
  rw [List.filterMap_cons,List.filterMap_cons,hh x (List.mem_cons_self ..),fm_same fun y hy=>hh y (List.mem_cons_of_mem _ hy)]
theorem filtB_a {op n:Int} {calcs:List Trm} {k1:List Bi} {x y:Bi} (h:filtB op n calcs k1 x=some y):y.r.a=x.r.a:=by
 unfold filtB at h
 split at h
 ·split at h
  ·cases h;rfl
  ·cases h
 ·split at h
  ·cases h;rfl
  ·split at h
   ·split at h
    ·cases h
    ·cases h;rfl
   ·split at h
    ·split at h
     ·cases h;rfl
     ·cases h
    ·cases h;rfl
theorem node_at {sb db sb' db':Str->List Bi} {op n f t:Int} {name:Str} {calcs:List Trm} {ks ks':List (List Bi)} (hn:NIs op n) (ht:Tin t)
  (h1:op=1->EqC t t (sb name) (sb' name)) (h2:op=2->EqC t t (db name) (db' name)) (h3:op=3->EqC (t-n) (t-n) (db name) (db' name)) (hd:∀ y∈db name,Tin y.r.a) (hd':∀ y∈db' name,Tin y.r.a)
  (hk:∀ i,∀ y∈ks.getD i [],Tin y.r.a) (hk':∀ i,∀ y∈ks'.getD i [],Tin y.r.a) (he:op≠1->op≠2->op≠3->∀ i:Nat,i < 2->EqC (spanF op n t i).1 (spanF op n t i).2 (ks.getD i []) (ks'.getD i [])) :
  cutB (nodeF sb db op name n f calcs ks) t t=cutB (nodeF sb' db' op name n f calcs ks') t t:=by
 have h50:=hn.in50
 unfold nodeF
 by_cases o1:op=1
 ·rw [if_pos o1,if_pos o1];exact h1 o1
 rw [if_neg o1,if_neg o1]
 by_cases o2:op=2
 ·rw [if_pos o2,if_pos o2];exact h2 o2
 rw [if_neg o2,if_neg o2]
 by_cases o3:op=3
 ·rw [if_pos o3,if_pos o3];exact later_at h50 hd hd' (h3 o3)
 rw [if_neg o3,if_neg o3]
 have e0:=he o1 o2 o3 0 (by decide)
 have e1:=he o1 o2 o3 1 (by decide)
 have k0:=hk 0
 have k0':=hk' 0
 have k1:=hk 1
 have k1':=hk' 1
 generalize ks.getD 0 []=a at *
 generalize ks'.getD 0 []=a' at *
 generalize ks.getD 1 []=b at *
 generalize ks'.getD 1 []=b' at *
 by_cases o4:op=4
 ·subst o4
  rw [if_pos rfl,if_pos rfl,cut_app,cut_app]
  exact congr (congrArg _ e0) e1
 rw [if_neg o4,if_neg o4]
 by_cases o7:op=7
 ·subst o7
  rw [if_pos rfl,if_pos rfl]
  exact later_at h50 k0 k0' e0
 rw [if_neg o7,if_neg o7]
 by_cases o8:op=8\/op=9\/op=10
 ·rw [if_pos o8,if_pos o8]
  refine folds_at hn o8 k0 k0' ?_
  have:(spanF op n t 0).2=t:=by rcases o8 with rfl|rfl|rfl<;>rfl
  rwa [this] at e0
 rw [if_neg o8,if_neg o8]
 by_cases o11:op=11
 ·subst o11
  rw [if_pos rfl,if_pos rfl]
  exact rests_at hn k0 k0' e0
 rw [if_neg o11,if_neg o11]
 by_cases o12:op=12
 ·subst o12
  rw [if_pos rfl,if_pos rfl]
  exact pairs_at hn k0 k0' e0 e1
 rw [if_neg o12,if_neg o12,cut_fm fun x y h=>filtB_a h,cut_fm fun x y h=>filtB_a h]
 have hs:spanF op n t 0=(t,t):=by
  unfold spanF
  rw [if_neg o7,if_neg fun h=>o8 (.inl h),if_neg (by omega),if_neg (by omega)]
  split
  ·rfl
  ·split
   ·simp
   ·rfl
 rw [hs] at e0
 rw [e0]
 refine fm_same fun x hx=>?_
 have hxt:x.r.a=t:=by have:=(mem_cut.1 hx).2;omega
 unfold filtB
 by_cases o13:op=13
 ·subst o13
  have hl:lastF b x.r=lastF b' x.r:=by
   unfold lastF
   have e1':EqC (-1000) t b b':=e1
   rw [e1'.filter (fun z hz hp=>?_) (fun z hz hp=>?_)]
   ·unfold lastP at hp
    rw [Bool.and_eq_true,decide_eq_true_eq] at hp
    have:=(k1 z hz).1;omega
   ·unfold lastP at hp
    rw [Bool.and_eq_true,decide_eq_true_eq] at hp
    have:=(k1' z hz).1;omega
  rw [if_neg (by decide),if_neg (by decide),if_pos rfl,if_neg (by decide),if_neg (by decide),if_pos rfl,hl]
 ·rw [if_neg o13,if_neg o13]
  by_cases o14:op=14
  ·subst o14
   have hp:=hn.pos (by decide)
   unfold Tin at ht
   have e1':EqC (t-n*(1:Nat)) (t+n*(1:Nat)) b b':=e1
   have hnr:nearF b x.r n=nearF b' x.r n:=by
    unfold nearF
    rw [hxt,w64_id (n:=t+n) (by omega) (by omega),w64_id (n:=t-n) (by omega) (by omega)]
    refine e1'.filter (fun z hz hp=>?_) (fun z hz hp=>?_) <;>
    ·rw [Bool.and_eq_true,Bool.and_eq_true,decide_eq_true_eq,decide_eq_true_eq] at hp;omega
   rw [hnr]
  ·rw [if_neg o14,if_neg o14]
end Go.Abs

/- What the kinds of expressions do with the lags of their Kids. -/
open Go Go.Abs
namespace Go.Abs
set_option maxRecDepth 100000
set_option maxHeartbeats 4000000
instance fnis476:FnIs CC 176:=⟨rfl,fun _=>rfl⟩
instance fnis477:FnIs CC 177:=⟨rfl,fun _=>rfl⟩
instance fnis478:FnIs CC 178:=⟨rfl,fun _=>rfl⟩
instance fnis479:FnIs CC 179:=⟨rfl,fun _=>rfl⟩
instance fnis480:FnIs CC 180:=⟨rfl,fun _=>rfl⟩
instance fnis481:FnIs CC 181:=⟨rfl,fun _=>rfl⟩
instance fnis482:FnIs CC 182:=⟨rfl,fun _=>rfl⟩
instance fnis391:FnIs CC 91:=⟨rfl,fun _=>rfl⟩
theorem Lg.thru0 {a:Lg} (h:a.Ok):a.thru false 0 0=a:=by
 have h1:=h.back
 obtain ⟨on,e,b,f⟩:=a
 unfold Lg.thru
 cases on
 ·rfl
 ·cases e
  ·simp
  ·simp only at h1;simp [h1]
theorem Lg.In.wide {a:Lg} (h:a.In 4294967295):a.In 4294967296:=⟨⟨by have:=h.back;omega,by have:=h.back;omega⟩,⟨by have:=h.ahead;omega,by have:=h.ahead;omega⟩⟩
section
variable {a:Lg} {n:Int} {i:Nat}
theorem ret476:Ret CC 176 [a.iv, .int .i64 n,natIV i] a.iv:=by
 obtain ⟨on,e,b,f⟩:=a
 refine Ret.of (fn:=Go.Proofs.Tryz.f176) (by kernel_rfl) rfl rfl ?_
 refine BB ?_
 exact W.retFinCA rfl rfl rfl rfl ⟨[],rfl⟩
theorem ret477 (hk:a.Ok) (h:a.In 4294967295) (hn : -50<=n/\n<=50):Ret CC 177 [a.iv, .int .i64 n,natIV i] (a.thru false n (-n)).iv:=by
 have h1:=ret451 (bk:=n) (ah := -n) hk h.wide (by omega) (by omega)
 generalize a.thru=A at *
 obtain ⟨on,e,b,f⟩:=a
 refine Ret.of (fn:=Go.Proofs.Tryz.f177) (by kernel_rfl) rfl rfl ?_
 refine BB ?_
 exact W.retFinCA rfl rfl rfl rfl ⟨[],rfl⟩
theorem ret478 (hk:a.Ok) (h:a.In 4294967295) (hn : -50<=n/\n<=50):Ret CC 178 [a.iv, .int .i64 n,natIV i] (a.thru false (n-1) 0).iv:=by
 have h1:=ret451 (bk:=n-1) (ah:=0) hk h.wide (by omega) (by omega)
 generalize a.thru=A at *
 obtain ⟨on,e,b,f⟩:=a
 refine Ret.of (fn:=Go.Proofs.Tryz.f178) (by kernel_rfl) rfl rfl ?_
 refine BB ?_
 exact W.retFinCA rfl rfl rfl rfl ⟨[],rfl⟩
theorem ret479 (hk:a.Ok) (h:a.In 4294967295) (hn : -50<=n/\n<=50):Ret CC 179 [a.iv, .int .i64 n,natIV i] (a.thru false n 0).iv:=by
 have h1:=ret451 (bk:=n) (ah:=0) hk h.wide (by omega) (by omega)
 generalize a.thru=A at *
 obtain ⟨on,e,b,f⟩:=a
 refine Ret.of (fn:=Go.Proofs.Tryz.f179) (by kernel_rfl) rfl rfl ?_
 refine BB ?_
 exact W.retFinCA rfl rfl rfl rfl ⟨[],rfl⟩
theorem ret480:Ret CC 180 [a.iv, .int .i64 n,natIV i] (a.thru true 0 0).iv:=by
 have h1:=ret441 (a:=a)
 generalize a.thru=A at *
 obtain ⟨on,e,b,f⟩:=a
 refine Ret.of (fn:=Go.Proofs.Tryz.f180) (by kernel_rfl) rfl rfl ?_
 refine BB ?_
 exact W.retFinCA rfl rfl rfl rfl ⟨[],rfl⟩
theorem ret481 (hk:a.Ok) (hi:i<=1):Ret CC 181 [a.iv, .int .i64 n,natIV i] (a.thru (i==1) 0 0).iv:=by
 have h1:=ret441 (a:=a)
 have h0:=Lg.thru0 hk
 have hi:i=0\/i=1:=by omega
 rcases hi with rfl|rfl
 ·rw [show (0==1)=false from rfl,h0]
  obtain ⟨on,e,b,f⟩:=a
  refine Ret.of (fn:=Go.Proofs.Tryz.f181) (by kernel_rfl) rfl rfl ?_
  refine BB ?_
  exact W.retFinCA rfl rfl rfl rfl ⟨[],rfl⟩
 ·rw [show (1==1)=true from rfl]
  clear h0
  generalize a.thru=A at *
  obtain ⟨on,e,b,f⟩:=a
  refine Ret.of (fn:=Go.Proofs.Tryz.f181) (by kernel_rfl) rfl rfl ?_
  refine BB ?_
  exact W.retFinCA rfl rfl rfl rfl ⟨[],rfl⟩
theorem ret482 (hk:a.Ok) (h:a.In 4294967295) (hn : -50<=n/\n<=50) (hi:i<=1):Ret CC 182 [a.iv, .int .i64 n,natIV i] (a.thru false (n*i) (n*i)).iv:=by
 have hi:i=0\/i=1:=by omega
 rcases hi with rfl|rfl
 all_goals
  have h1:=fun x=>ret451 (bk:=x) (ah:=x) hk h.wide
 ·have h1:=h1 (n*((0:Nat):Int)) (by omega) (by omega)
  generalize a.thru=A at *
  obtain ⟨on,e,b,f⟩:=a
  refine Ret.of (fn:=Go.Proofs.Tryz.f182) (by kernel_rfl) rfl rfl ?_
  refine BB ?_
  exact W.retFinCA rfl rfl rfl rfl ⟨[],rfl⟩
 ·have h1:=h1 (n*((1:Nat):Int)) (by omega) (by omega)
  generalize a.thru=A at *
  obtain ⟨on,e,b,f⟩:=a
  refine Ret.of (fn:=Go.Proofs.Tryz.f182) (by kernel_rfl) rfl rfl ?_
  refine BB ?_
  exact W.retFinCA rfl rfl rfl rfl ⟨[],rfl⟩
def wayF (op:Int):FuncId:=if op=7 then 177 else if op=8 then 178 else if op=9\/op=12 then 179 else if op=10\/op=11 then 180 else if op=13 then 181 else if op=14 then 182 else 176
theorem retWay {op:Int} (hk:a.Ok) (h:a.In 4294967295) (hn : -50<=n/\n<=50) (hi:i<=1):Ret CC (wayF op) [a.iv, .int .i64 n,natIV i] (kidL op n i a).iv:=by
 unfold wayF kidL
 repeat' split
 ·exact ret477 hk h hn
 ·exact ret478 hk h hn
 ·exact ret479 hk h hn
 ·exact ret480
 ·exact ret481 hk hi
 ·exact ret482 hk h hn hi
 ·exact ret476
instance fnisWay {op:Int}:FnIs CC (wayF op):=by
 unfold wayF
 repeat' split
 all_goals infer_instance
def mnI (a b:Int):Int:=if b < a then b else a
theorem mnI_eq (a b:Int):mnI a b=min a b:=by unfold mnI;split<;>omega
def needN (a:Lg) (t:Int):Int:=if a.on then mxI 0 (mnI (t+a.ahead) 200+1) else 0
theorem ret391 {t:Int} (h:a.In 4294967296) (ht:0<=t/\t<=201):Ret CC 91 [a.iv, .int .i64 t] (.int .i64 (needN a t)):=by
 have h2:=h.ahead
 obtain ⟨on,e,b,f⟩:=a
 simp only at h2
 rw [Lg.iv_mk]
 refine Ret.of (fn:=Go.Proofs.Tryz.f91) (by kernel_rfl) rfl rfl ?_
 cases on
 ·refine BB ?_
  exact W.retFin1 rfl ⟨[],rfl⟩
 ·have hm : -9223372036854775808<=mnI (t+f) 200+1/\mnI (t+f) 200+1<=9223372036854775807:=by rw [mnI_eq];omega
  unfold mnI at hm
  refine BB ?_
  exact W.retFin1 rfl ⟨[],rfl⟩
end
end Go.Abs

/- What is known of a program's lags: numbers of names, rows, ways. -/
open Go Go.Abs
namespace Go.Abs
set_option maxRecDepth 100000
set_option maxHeartbeats 4000000
def ty434:TyI:={ d:=TyD.mp 88 213,sz:=1,bytes:=8,zero:=AV.imm IV.nilmap }
instance tyis434:TyIs CC 134 ty434:=⟨by kernel_rfl⟩
def ty436:TyI:={ d:=TyD.st [(0,2),(2,1),(3,1),(4,1)],sz:=5,bytes:=88,zero:=AV.agg [AV.nils,AV.nils,AV.imm IV.nilmap,AV.nils,AV.imm IV.nilmap] }
instance tyis436:TyIs CC 136 ty436:=⟨by kernel_rfl⟩
def ty437:TyI:={ d:=TyD.ptr,sz:=1,bytes:=8,zero:=AV.imm IV.nilp }
instance tyis437:TyIs CC 137 ty437:=⟨by kernel_rfl⟩
def ty513:TyI:={ d:=TyD.fn,sz:=1,bytes:=8,zero:=AV.imm IV.nilfn }
instance tyis513:TyIs CC 213 ty513:=⟨by kernel_rfl⟩
instance fnis436:FnIs CC 136:=⟨rfl,fun _=>rfl⟩
/-! The ways. -/
def wayOps:List Int:=[4,5,6,15,7,8,9,12,10,11,13,14]
def wayKs:List IV:=wayOps.map (.int .i64)
def wayVs:List IV:=wayOps.map fun n => .fn (.func (wayF n)) []
theorem ret436:Ret CC 136 [] (.fmp wayKs wayVs):=Ret.reckon (n:=20) (by kernel_rfl)
theorem wayLook {op:Int} (h:4<=op/\op<=15):lookIs (some ty55) (some ty513) (some (wayKs,wayVs.map .imm)) (.int .i64 op) false (.imm (.fn (.func (wayF op)) [])):=by
 refine ⟨rfl, .inl ?_⟩
 rcases ops15 op with rfl|rfl|rfl|rfl|rfl|rfl|rfl|rfl|rfl|rfl|rfl|rfl|rfl|rfl|rfl|hno
 case inr.inr.inr.inr.inr.inr.inr.inr.inr.inr.inr.inr.inr.inr.inr=>omega
 all_goals first
  |omega
  |exact ⟨0,_,rfl,rfl,rfl⟩
  |exact ⟨1,_,rfl,rfl,rfl⟩
  |exact ⟨2,_,rfl,rfl,rfl⟩
  |exact ⟨3,_,rfl,rfl,rfl⟩
  |exact ⟨4,_,rfl,rfl,rfl⟩
  |exact ⟨5,_,rfl,rfl,rfl⟩
  |exact ⟨6,_,rfl,rfl,rfl⟩
  |exact ⟨7,_,rfl,rfl,rfl⟩
  |exact ⟨8,_,rfl,rfl,rfl⟩
  |exact ⟨9,_,rfl,rfl,rfl⟩
  |exact ⟨10,_,rfl,rfl,rfl⟩
  |exact ⟨11,_,rfl,rfl,rfl⟩
/-! The numbers of names. -/
def numKs (p:Pgm):List IV:=(p.srcs++p.defs.map Dfn.name).map sv
def numVs (p:Pgm):List IV:=(List.range p.srcs.length++List.range p.defs.length).map natIV
theorem numSrc {p:Pgm} {s:Str} (hs:s∈p.srcs):lookIs (some ty9) (some ty3) (some (numKs p,(numVs p).map .imm)) (sv s) false (.imm (natIV (idxN p.srcs s))):=by
 refine ⟨rfl, .inl ⟨idxN p.srcs s,_,?_,?_,rfl⟩⟩
 ·unfold numKs
  rw [keyFind_sv,List.findIdx?_append]
  have:=findIdx_contains s p.srcs
  have hc:p.srcs.contains s=true:=by simpa using hs
  rw [hc] at this
  obtain ⟨j,hj⟩:=Option.isSome_iff_exists.1 this
  unfold idxN
  rw [hj];rfl
 ·have:=idxN_lt hs
  unfold numVs
  rw [List.getElem?_map,List.getElem?_map,List.getElem?_append_left (by simpa using this),List.getElem?_range this]
  rfl
theorem numDef {p:Pgm} {s:Str} (hs:s∈p.defs.map Dfn.name) (hn:s∉p.srcs):lookIs (some ty9) (some ty3) (some (numKs p,(numVs p).map .imm)) (sv s) false (.imm (natIV (idxN (p.defs.map Dfn.name) s))):=by
 refine ⟨rfl, .inl ⟨p.srcs.length+idxN (p.defs.map Dfn.name) s,_,?_,?_,rfl⟩⟩
 ·unfold numKs
  rw [keyFind_sv,List.findIdx?_append]
  have h0:=findIdx_contains s p.srcs
  have hc:p.srcs.contains s=false:=by simpa using hn
  rw [hc] at h0
  have h1:=findIdx_contains s (p.defs.map Dfn.name)
  have hc:(p.defs.map Dfn.name).contains s=true:=List.contains_iff_mem.2 hs
  rw [hc] at h1
  obtain ⟨j,hj⟩:=Option.isSome_iff_exists.1 h1
  unfold idxN
  rw [hj,Option.isSome_eq_false_iff.1 h0 |> fun h=>(Option.isNone_iff_eq_none.1 h)]
  simp [Nat.add_comm]
 ·have:=idxN_lt hs
  rw [List.length_map] at this
  unfold numVs
  rw [List.getElem?_map,List.getElem?_map,List.getElem?_append_right (by simp),List.length_range,Nat.add_sub_cancel_left,List.getElem?_range this]
  rfl
def KnV (p:Pgm) (lo hi:Nat) (G:Nat->Obj) (kv:AV) (D:List (List Lg)):Prop:=
 kv = .imm (.fptr [.lst (p.srcs.map sv), .lst (p.defs.map Dfn.iv), .fmp (numKs p) (numVs p), .lst (D.map lagsIV), .fmp wayKs wayVs] 0) \/
 ∃ kq nq dq,(kq < hi/\nq < hi/\dq < hi)/\kv = .ptr kq 0/\G kq = .box [.imm (.lst (p.srcs.map sv)), .imm (.lst (p.defs.map Dfn.iv)), .map nq, .row dq D.length, .imm (.fmp wayKs wayVs)] false /\
  G nq = .mp (numKs p) ((numVs p).map .imm) false/\RowsL 153 132 dq lo hi G D
theorem KnV.frame {p:Pgm} {lo hi lo' hi':Nat} {G G':Nat->Obj} {kv:AV} {D:List (List Lg)} (h:KnV p lo hi G kv D) (h0:lo'<=lo) (hh:hi<=hi') (hG:∀ o,o < hi->G' o=G o):KnV p lo' hi' G' kv D:=by
 rcases h with h|⟨kq,nq,dq,⟨h1,h2,h3⟩,h4,h5,h6,h7⟩
 ·exact .inl h
 ·exact .inr ⟨kq,nq,dq,⟨by omega,by omega,by omega⟩,h4,by rw [hG kq h1];exact h5,by rw [hG nq h2];exact h6,h7.frame (hG dq h3) h0 hh fun o _ ho _=>hG o ho⟩
theorem cal450 {op n fold:Int} {name:Str} {calcs:List Trm} {kids:List Exp} {eb:Nat} {fr:Bool} {a:Lg} {i:Nat} {G:Nat->Obj} {nx:Nat} (hk:a.Ok) (ha:a.In 4294967295) (hn : -50<=n/\n<=50) (he:G eb = .box ((Exp.mk op name n fold calcs kids).iv.cells.map .imm) fr) (hlt:eb < nx) :
  Cal CC 150 [.imm (natIV i), .imm a.iv, .ptr eb 0] G nx fun v G' nx'=>v = .imm (a.thru false n (-n)).iv/\nx<=nx'/\∀ o,o < nx->G' o=G o:=by
 have h1:=ret451 (bk:=n) (ah := -n) hk ha.wide (by omega) (by omega)
 generalize a.thru=A at *
 obtain ⟨on,e,b,f⟩:=a
 rw [Lg.iv_mk] at *
 refine Cal.of (fn:=Go.Proofs.Tryz.f150) (by kernel_rfl) rfl rfl ?_
 refine BN ?_
 exact W.retFinCA rfl (upd_same ..) rfl rfl ⟨rfl,by omega,fun o ho=>at_upd⟩
theorem cal452 {p:Pgm} {E:List (List Lg)} {kv lv:AV} {L:List Lg} {op n fold:Int} {name:Str} {calcs:List Trm} {kids:List Exp} {kb eb lb ib lo hi hi2 i s:Nat} {fr:Bool} {a:Lg} {G:Nat->Obj} {nx:Nat} (hL:(L.getD s Lg.z).Ok) (hLi:(L.getD s Lg.z).In 4294967295) (hn : -50<=n/\n<=50) (hop:4<=op/\op<=15) (hi1:i<=1) (hs:s < L.length)
  (hk:KnV p lo hi G kv E) (hk1:G kb = .box [kv] false) (he:G eb = .box ((Exp.mk op name n fold calcs kids).iv.cells.map .imm) fr) (hl:RowV 153 0 hi2 G lv L) (hl1:G lb = .box [lv] false) (hib:G ib = .box [.imm (natIV i)] false) (hlt:kb < nx/\eb < nx/\lb < nx/\ib < nx/\hi<=nx/\hi2<=nx) :
  Cal CC 152 [.imm (natIV s), .imm a.iv, .ptr kb 0, .ptr eb 0, .ptr lb 0, .ptr ib 0] G nx fun v G' nx'=>v = .imm (a.both (kidL op n i (L.getD s Lg.z))).iv/\nx<=nx'/\∀ o,o < nx->G' o=G o:=by
 have hway:=retWay (op:=op) (i:=i) hL hLi hn hi1
 have hwl:=wayLook hop
 have h453:=ret453 (a:=a) (b:=kidL op n i (L.getD s Lg.z))
 refine Cal.of (fn:=Go.Proofs.Tryz.f152) (by kernel_rfl) rfl rfl ?_
 rcases hk with rfl|⟨kq,nq,dq,⟨h1,h2,h3⟩,rfl,h5,h6,h7⟩
 all_goals
  refine BN ?_
  refine D.lagAt (hl.frame (Nat.le_refl _) (Nat.le_refl _) fun o _ ho _=>at_upd) hs rfl ⟨rfl,rfl⟩ rfl rfl rfl rfl fun a2 rd1 rd2=>?_
  refine BB ?_
  exact W.retFinCA rfl (upd_same ..) rfl rfl ⟨rfl,by omega,fun o ho=>at_upd⟩
end Go.Abs

/- A list of what becomes of each element of another one. -/
open Go Go.Abs
namespace Go.Abs
set_option maxRecDepth 100000
set_option maxHeartbeats 4000000
theorem mapIdx_take {α β:Type} {g:Nat->α->β} {l:List α} {i:Nat} {x:α} (h:l[i]? = some x):(l.take (i+1)).mapIdx g=(l.take i).mapIdx g++[g i x]:=by
 have hlt:=(List.getElem?_eq_some_iff.1 h).1
 rw [List.take_add_one,h]
 simp only [Option.toList,List.mapIdx_concat,List.length_take,Nat.min_eq_left (Nat.le_of_lt hlt)]
section
variable {f:FuncId} {cap:List AV} {fv v:AV} {l:List Lg} {g:Nat->Lg->IV} {lo hi nx:Nat} {G:Nat->Obj}
theorem cal439 (hfn:fnOf fv=some (.func f,cap)) (hb:CC.byref f=true) (hg:∀ i x,(AV.imm (g i x)).fits 4=true) (hr:RowV 153 lo hi G v l) (hh:hi<=nx) (hl:l.length<=1000)
  (hf:∀ i x,l[i]? = some x->∀ G' nx',nx<=nx'->(∀ o,o < nx->G' o=G o)->Cal CC f ([.imm (natIV i), .imm x.iv]++cap) G' nx' fun v G2 nx2=>v = .imm (g i x)/\nx'<=nx2/\∀ o,o < nx'->G2 o=G' o) :
  Cal CC 139 [v,fv] G nx fun v' G' nx'=>Own 153 4 nx nx' (l.mapIdx g) G' v'/\nx<=nx'/\∀ o,o < nx->G' o=G o:=by
 have hlv:∀ G',(∀ o,o < nx->G' o=G o)->lenA G' (.sl 153) v=some l.length:=fun G' hG'=>by
  rcases hr with rfl|⟨q,fr,_,hq,rfl,hGq⟩
  ·show some _=_;rw [List.length_map,List.length_map]
  ·simp [lenA,elems,hG' q (by omega),hGq]
 refine Cal.of (fn:=Go.Proofs.Tryz.f139) (by kernel_rfl) rfl rfl ?_
 refine BN ?_
 refine R.op0 (O.len rfl (hlv G fun _ _=>rfl)) rfl ?_
 refine BN ?_
 refine W.loop (X:=Nat×AV) (fun s=>[(0,v),(1,fv),(5,s.2),(8,v),(9, .imm (.int .i64 l.length)),(10, .imm (.int .i64 s.1))])
  (fun s nx1 G1=>s.1<=l.length/\nx<=nx1/\Own 153 4 nx nx1 ((l.take s.1).mapIdx g) G1 s.2/\∀ o,o < nx->G1 o=G o) (fun s=>l.length-s.1) (0, .nils) .auto ⟨Nat.zero_le _,by omega, .inl ⟨rfl,rfl⟩,fun _ _=>rfl⟩ ?_
 rintro ⟨i,w⟩ nx1 G1 ⟨hi1,hnx,ho,hG1⟩
 dsimp only at hi1 ho ⊢
 have hr1:=hr.frame (Nat.le_refl _) (Nat.le_refl _) fun o _ ho _=>hG1 o (Nat.lt_of_lt_of_le ho hh)
 refine BN ?_
 refine W.cond rfl (fun h1=>?_) (fun h1=>?_)
 ·have hlt:i < l.length:=by have:=of_decide_eq_true h1;omega
  have hx:=List.getElem?_eq_getElem hlt
  have hgd:l.getD i Lg.z=l[i]:=by rw [List.getD_eq_getElem?_getD,hx];rfl
  have hmu:l.length-(i+1) < l.length-i:=by omega
  have htk:=mapIdx_take (g:=g) hx
  have hc:=hf i _ hx
  have hgf:=hg i l[i]
  have htl:((l.take i).mapIdx g).length<=1000:=by rw [List.length_mapIdx,List.length_take];omega
  refine BN ?_
  refine R.lagAt hr1 hlt rfl ⟨rfl,rfl⟩ rfl rfl rfl rfl fun a=>?_
  rw [hgd]
  refine BN ?_
  refine R.callB rfl hfn hb rfl rfl ((hc _ _ (by omega) fun o ho=>Eq.trans at_upd (hG1 o ho)).mono fun v2 G2 nx2 hv=>?_)
  obtain ⟨rfl,hn2,hG2⟩:=hv
  refine BN ?_
  refine R.op1 (O.buildX (xs:=[.imm (g i l[i])]) rfl inferInstance rfl rfl (by decide) rfl (by show ([AV.imm (g i l[i])].all (AV.fits 4))=true;simp [hgf]) (by decide)) rfl ?_
  refine R.app1 ho at_upd (by simp only [most];omega) (fun v' G' ho' hG'=>?_) (hG:=fun o h1 h2=>Eq.trans (upd_ne _ _ _ _ (by omega)) (Eq.trans (hG2 o (by omega)) at_upd))
  refine BN ?_
  refine W.skipLop (i+1,v') hmu .auto ⟨hlt,by omega,?_,fun o ho=>?_⟩
  ·show Own _ _ _ _ ((l.take (i+1)).mapIdx g) _ _
   rw [htk]
   exact ho'.up (by omega)
  ·rw [hG' o ho]
   exact Eq.trans (upd_ne _ _ _ _ (by omega)) (Eq.trans (hG2 o (by omega)) (Eq.trans at_upd (hG1 o ho)))
 ·have hge:l.length<=i:=by have:=of_decide_eq_false h1;omega
  rw [List.take_of_length_le hge] at ho
  refine BN ?_
  exact W.retFin1 rfl ⟨ho.up (by omega),by omega,hG1⟩
theorem cal443 (hfn:fnOf fv=some (.func f,cap)) (hb:CC.byref f=true) (hg:∀ i x,(AV.imm (g i x)).fits 4=true) (hr:RowV 153 lo hi G v l) (hh:hi<=nx) (hl:l.length<=1000)
  (hf:∀ i x,l[i]? = some x->∀ G' nx',nx<=nx'->(∀ o,o < nx->G' o=G o)->Cal CC f ([.imm (natIV i), .imm x.iv]++cap) G' nx' fun v G2 nx2=>v = .imm (g i x)/\nx'<=nx2/\∀ o,o < nx'->G2 o=G' o) :
  Cal CC 143 [v,fv] G nx fun v' G' nx'=>Own 147 4 nx nx' (l.mapIdx g) G' v'/\nx<=nx'/\∀ o,o < nx->G' o=G o:=by
 have hlv:∀ G',(∀ o,o < nx->G' o=G o)->lenA G' (.sl 153) v=some l.length:=fun G' hG'=>by
  rcases hr with rfl|⟨q,fr,_,hq,rfl,hGq⟩
  ·show some _=_;rw [List.length_map,List.length_map]
  ·simp [lenA,elems,hG' q (by omega),hGq]
 refine Cal.of (fn:=Go.Proofs.Tryz.f143) (by kernel_rfl) rfl rfl ?_
 refine BN ?_
 refine R.op0 (O.len rfl (hlv G fun _ _=>rfl)) rfl ?_
 refine BN ?_
 refine W.loop (X:=Nat×AV) (fun s=>[(0,v),(1,fv),(5,s.2),(8,v),(9, .imm (.int .i64 l.length)),(10, .imm (.int .i64 s.1))])
  (fun s nx1 G1=>s.1<=l.length/\nx<=nx1/\Own 147 4 nx nx1 ((l.take s.1).mapIdx g) G1 s.2/\∀ o,o < nx->G1 o=G o) (fun s=>l.length-s.1) (0, .nils) .auto ⟨Nat.zero_le _,by omega, .inl ⟨rfl,rfl⟩,fun _ _=>rfl⟩ ?_
 rintro ⟨i,w⟩ nx1 G1 ⟨hi1,hnx,ho,hG1⟩
 dsimp only at hi1 ho ⊢
 have hr1:=hr.frame (Nat.le_refl _) (Nat.le_refl _) fun o _ ho _=>hG1 o (Nat.lt_of_lt_of_le ho hh)
 refine BN ?_
 refine W.cond rfl (fun h1=>?_) (fun h1=>?_)
 ·have hlt:i < l.length:=by have:=of_decide_eq_true h1;omega
  have hx:=List.getElem?_eq_getElem hlt
  have hgd:l.getD i Lg.z=l[i]:=by rw [List.getD_eq_getElem?_getD,hx];rfl
  have hmu:l.length-(i+1) < l.length-i:=by omega
  have htk:=mapIdx_take (g:=g) hx
  have hc:=hf i _ hx
  have hgf:=hg i l[i]
  have htl:((l.take i).mapIdx g).length<=1000:=by rw [List.length_mapIdx,List.length_take];omega
  refine BN ?_
  refine R.lagAt hr1 hlt rfl ⟨rfl,rfl⟩ rfl rfl rfl rfl fun a=>?_
  rw [hgd]
  refine BN ?_
  refine R.callB rfl hfn hb rfl rfl ((hc _ _ (by omega) fun o ho=>Eq.trans at_upd (hG1 o ho)).mono fun v2 G2 nx2 hv=>?_)
  obtain ⟨rfl,hn2,hG2⟩:=hv
  refine BN ?_
  refine R.op1 (O.buildX (xs:=[.imm (g i l[i])]) rfl inferInstance rfl rfl (by decide) rfl (by show ([AV.imm (g i l[i])].all (AV.fits 4))=true;simp [hgf]) (by decide)) rfl ?_
  refine R.app1 ho at_upd (by simp only [most];omega) (fun v' G' ho' hG'=>?_) (hG:=fun o h1 h2=>Eq.trans (upd_ne _ _ _ _ (by omega)) (Eq.trans (hG2 o (by omega)) at_upd))
  refine BN ?_
  refine W.skipLop (i+1,v') hmu .auto ⟨hlt,by omega,?_,fun o ho=>?_⟩
  ·show Own _ _ _ _ ((l.take (i+1)).mapIdx g) _ _
   rw [htk]
   exact ho'.up (by omega)
  ·rw [hG' o ho]
   exact Eq.trans (upd_ne _ _ _ _ (by omega)) (Eq.trans (hG2 o (by omega)) (Eq.trans at_upd (hG1 o ho)))
 ·have hge:l.length<=i:=by have:=of_decide_eq_false h1;omega
  rw [List.take_of_length_le hge] at ho
  refine BN ?_
  exact W.retFin1 rfl ⟨ho.up (by omega),by omega,hG1⟩
theorem cal389 (hfn:fnOf fv=some (.func f,cap)) (hb:CC.byref f=true) (hg:∀ i x,(AV.imm (g i x)).fits 1=true) (hr:RowV 153 lo hi G v l) (hh:hi<=nx) (hl:l.length<=1000)
  (hf:∀ i x,l[i]? = some x->∀ G' nx',nx<=nx'->(∀ o,o < nx->G' o=G o)->Cal CC f ([.imm (natIV i), .imm x.iv]++cap) G' nx' fun v G2 nx2=>v = .imm (g i x)/\nx'<=nx2/\∀ o,o < nx'->G2 o=G' o) :
  Cal CC 89 [v,fv] G nx fun v' G' nx'=>Own 4 1 nx nx' (l.mapIdx g) G' v'/\nx<=nx'/\∀ o,o < nx->G' o=G o:=by
 have hlv:∀ G',(∀ o,o < nx->G' o=G o)->lenA G' (.sl 153) v=some l.length:=fun G' hG'=>by
  rcases hr with rfl|⟨q,fr,_,hq,rfl,hGq⟩
  ·show some _=_;rw [List.length_map,List.length_map]
  ·simp [lenA,elems,hG' q (by omega),hGq]
 refine Cal.of (fn:=Go.Proofs.Tryz.f89) (by kernel_rfl) rfl rfl ?_
 refine BN ?_
 refine R.op0 (O.len rfl (hlv G fun _ _=>rfl)) rfl ?_
 refine BN ?_
 refine W.loop (X:=Nat×AV) (fun s=>[(0,v),(1,fv),(5,s.2),(8,v),(9, .imm (.int .i64 l.length)),(10, .imm (.int .i64 s.1))])
  (fun s nx1 G1=>s.1<=l.length/\nx<=nx1/\Own 4 1 nx nx1 ((l.take s.1).mapIdx g) G1 s.2/\∀ o,o < nx->G1 o=G o) (fun s=>l.length-s.1) (0, .nils) .auto ⟨Nat.zero_le _,by omega, .inl ⟨rfl,rfl⟩,fun _ _=>rfl⟩ ?_
 rintro ⟨i,w⟩ nx1 G1 ⟨hi1,hnx,ho,hG1⟩
 dsimp only at hi1 ho ⊢
 have hr1:=hr.frame (Nat.le_refl _) (Nat.le_refl _) fun o _ ho _=>hG1 o (Nat.lt_of_lt_of_le ho hh)
 refine BN ?_
 refine W.cond rfl (fun h1=>?_) (fun h1=>?_)
 ·have hlt:i < l.length:=by have:=of_decide_eq_true h1;omega
  have hx:=List.getElem?_eq_getElem hlt
  have hgd:l.getD i Lg.z=l[i]:=by rw [List.getD_eq_getElem?_getD,hx];rfl
  have hmu:l.length-(i+1) < l.length-i:=by omega
  have htk:=mapIdx_take (g:=g) hx
  have hc:=hf i _ hx
  have hgf:=hg i l[i]
  have htl:((l.take i).mapIdx g).length<=1000:=by rw [List.length_mapIdx,List.length_take];omega
  refine BN ?_
  refine R.lagAt hr1 hlt rfl ⟨rfl,rfl⟩ rfl rfl rfl rfl fun a=>?_
  rw [hgd]
  refine BN ?_
  refine R.callB rfl hfn hb rfl rfl ((hc _ _ (by omega) fun o ho=>Eq.trans at_upd (hG1 o ho)).mono fun v2 G2 nx2 hv=>?_)
  obtain ⟨rfl,hn2,hG2⟩:=hv
  refine BN ?_
  refine R.op1 (O.buildX (xs:=[.imm (g i l[i])]) rfl inferInstance rfl rfl (by decide) rfl (by show ([AV.imm (g i l[i])].all (AV.fits 1))=true;simp [hgf]) (by decide)) rfl ?_
  refine R.app1 ho at_upd (by simp only [most];omega) (fun v' G' ho' hG'=>?_) (hG:=fun o h1 h2=>Eq.trans (upd_ne _ _ _ _ (by omega)) (Eq.trans (hG2 o (by omega)) at_upd))
  refine BN ?_
  refine W.skipLop (i+1,v') hmu .auto ⟨hlt,by omega,?_,fun o ho=>?_⟩
  ·show Own _ _ _ _ ((l.take (i+1)).mapIdx g) _ _
   rw [htk]
   exact ho'.up (by omega)
  ·rw [hG' o ho]
   exact Eq.trans (upd_ne _ _ _ _ (by omega)) (Eq.trans (hG2 o (by omega)) (Eq.trans at_upd (hG1 o ho)))
 ·have hge:l.length<=i:=by have:=of_decide_eq_false h1;omega
  rw [List.take_of_length_le hge] at ho
  refine BN ?_
  exact W.retFin1 rfl ⟨ho.up (by omega),by omega,hG1⟩
theorem cal393 (hfn:fnOf fv=some (.func f,cap)) (hb:CC.byref f=true) (hg:∀ i x,(AV.imm (g i x)).fits 1=true) (hr:RowV 153 lo hi G v l) (hh:hi<=nx) (hl:l.length<=1000)
  (hf:∀ i x,l[i]? = some x->∀ G' nx',nx<=nx'->(∀ o,o < nx->G' o=G o)->Cal CC f ([.imm (natIV i), .imm x.iv]++cap) G' nx' fun v G2 nx2=>v = .imm (g i x)/\nx'<=nx2/\∀ o,o < nx'->G2 o=G' o) :
  Cal CC 93 [v,fv] G nx fun v' G' nx'=>Own 3 1 nx nx' (l.mapIdx g) G' v'/\nx<=nx'/\∀ o,o < nx->G' o=G o:=by
 have hlv:∀ G',(∀ o,o < nx->G' o=G o)->lenA G' (.sl 153) v=some l.length:=fun G' hG'=>by
  rcases hr with rfl|⟨q,fr,_,hq,rfl,hGq⟩
  ·show some _=_;rw [List.length_map,List.length_map]
  ·simp [lenA,elems,hG' q (by omega),hGq]
 refine Cal.of (fn:=Go.Proofs.Tryz.f93) (by kernel_rfl) rfl rfl ?_
 refine BN ?_
 refine R.op0 (O.len rfl (hlv G fun _ _=>rfl)) rfl ?_
 refine BN ?_
 refine W.loop (X:=Nat×AV) (fun s=>[(0,v),(1,fv),(5,s.2),(8,v),(9, .imm (.int .i64 l.length)),(10, .imm (.int .i64 s.1))])
  (fun s nx1 G1=>s.1<=l.length/\nx<=nx1/\Own 3 1 nx nx1 ((l.take s.1).mapIdx g) G1 s.2/\∀ o,o < nx->G1 o=G o) (fun s=>l.length-s.1) (0, .nils) .auto ⟨Nat.zero_le _,by omega, .inl ⟨rfl,rfl⟩,fun _ _=>rfl⟩ ?_
 rintro ⟨i,w⟩ nx1 G1 ⟨hi1,hnx,ho,hG1⟩
 dsimp only at hi1 ho ⊢
 have hr1:=hr.frame (Nat.le_refl _) (Nat.le_refl _) fun o _ ho _=>hG1 o (Nat.lt_of_lt_of_le ho hh)
 refine BN ?_
 refine W.cond rfl (fun h1=>?_) (fun h1=>?_)
 ·have hlt:i < l.length:=by have:=of_decide_eq_true h1;omega
  have hx:=List.getElem?_eq_getElem hlt
  have hgd:l.getD i Lg.z=l[i]:=by rw [List.getD_eq_getElem?_getD,hx];rfl
  have hmu:l.length-(i+1) < l.length-i:=by omega
  have htk:=mapIdx_take (g:=g) hx
  have hc:=hf i _ hx
  have hgf:=hg i l[i]
  have htl:((l.take i).mapIdx g).length<=1000:=by rw [List.length_mapIdx,List.length_take];omega
  refine BN ?_
  refine R.lagAt hr1 hlt rfl ⟨rfl,rfl⟩ rfl rfl rfl rfl fun a=>?_
  rw [hgd]
  refine BN ?_
  refine R.callB rfl hfn hb rfl rfl ((hc _ _ (by omega) fun o ho=>Eq.trans at_upd (hG1 o ho)).mono fun v2 G2 nx2 hv=>?_)
  obtain ⟨rfl,hn2,hG2⟩:=hv
  refine BN ?_
  refine R.op1 (O.buildX (xs:=[.imm (g i l[i])]) rfl inferInstance rfl rfl (by decide) rfl (by show ([AV.imm (g i l[i])].all (AV.fits 1))=true;simp [hgf]) (by decide)) rfl ?_
  refine R.app1 ho at_upd (by simp only [most];omega) (fun v' G' ho' hG'=>?_) (hG:=fun o h1 h2=>Eq.trans (upd_ne _ _ _ _ (by omega)) (Eq.trans (hG2 o (by omega)) at_upd))
  refine BN ?_
  refine W.skipLop (i+1,v') hmu .auto ⟨hlt,by omega,?_,fun o ho=>?_⟩
  ·show Own _ _ _ _ ((l.take (i+1)).mapIdx g) _ _
   rw [htk]
   exact ho'.up (by omega)
  ·rw [hG' o ho]
   exact Eq.trans (upd_ne _ _ _ _ (by omega)) (Eq.trans (hG2 o (by omega)) (Eq.trans at_upd (hG1 o ho)))
 ·have hge:l.length<=i:=by have:=of_decide_eq_false h1;omega
  rw [List.take_of_length_le hge] at ho
  refine BN ?_
  exact W.retFin1 rfl ⟨ho.up (by omega),by omega,hG1⟩
end
end Go.Abs

/- The program: how an expression depends on each source. -/
open Go Go.Abs
namespace Go.Abs
set_option maxRecDepth 100000
set_option maxHeartbeats 4000000
theorem kvMap {G:Nat->Obj} {q:Nat} {ks:List IV} {vs:List AV} {fr:Bool} (h:G q = .mp ks vs fr):mapKV G (.map q)=some (ks,vs):=by simp only [mapKV,h]
theorem getD_map {L:List Lg} {n:Nat} (hl:L.length=n) (f:Lg->Lg):(List.range n).map (fun s=>f (L.getD s Lg.z))=L.map f:=by
 refine List.ext_getElem? fun s=>?_
 simp only [List.getElem?_map]
 by_cases hs:s < n
 ·rw [List.getElem?_range hs,List.getElem?_eq_getElem (by omega)]
  simp [List.getD_eq_getElem?_getD,List.getElem?_eq_getElem (show s < L.length by omega)]
 ·rw [List.getElem?_eq_none (by simp;omega),List.getElem?_eq_none (by omega)];rfl
theorem mapIdx_map {L:List Lg} (f:Lg->Lg):L.mapIdx (fun _ x=>(f x).iv)=(L.map f).map Lg.iv:=by
 refine List.ext_getElem? fun s=>?_
 simp [List.getElem?_mapIdx,Function.comp_def]
theorem cal382 {p:Pgm} (hp:p.Fits) (hpr:progR p=true) {E:List (List Lg)} {K:Int} (hK:0<=K/\K<=4000000000) (hW:Wide p E) (hI:InL K E):∀ (m:Nat) (e:Exp),(allE e).length<=m->m<=1000->(∀ x∈allE e,NodeP p x) ->
  ∀ {G:Nat->Obj} {nx lo hi:Nat} {kv:AV},KnV p lo hi G kv E->hi<=nx ->
  Cal CC 82 [kv, .imm e.iv] G nx fun v G' nx'=>RowL 153 nx nx' G' v (allL p E e)/\nx<=nx'/\∀ q,q < nx->G' q=G q
 |0, .mk op name n fold calcs kids,h,_,_,_,_,_,_,_,_,_=>by rw [allE] at h;simp at h
 |m+1, .mk op name n fold calcs kids,h,hm,hN,G,nx,lo,hi,kv,hR,hh=>by
  have hb:=hN (.mk op name n fold calcs kids) (by rw [allE];exact List.mem_cons_self ..)
  have hn50 : -50<=n/\n<=50:=hb.b.n
  have hsm:=progR_small hpr
  have h6:=hsm.len
  have h4:=hsm.srcs
  have hpt:=progR_parts hpr
  have hsp:1<=p.srcs.length:=hpt.2.1.1
  have hnd:(p.srcs++p.defs.map Dfn.name).Nodup:=hpt.1
  have hDl:=hW.len
  have hm':m<=1000:=by omega
  have ih:=fun e h1 h2 G nx lo hi kv=>@cal382 p hp hpr E K hK hW hI m e h1 hm' h2 G nx lo hi kv
  unfold allL at *
  have hsm2':((List.map sv p.srcs).length:Int)=(p.srcs.length:Int):=by rw [List.length_map]
  rcases Classical.em (op=1) with rfl|h1
  ·have hs:=hb.src rfl
   have hs:name∈p.srcs:=hs
   have hlt:=idxN_lt hs
   have bA:((1:Int)==1)=true:=rfl
   refine Cal.of (fn:=Go.Proofs.Tryz.f82) (by kernel_rfl) rfl rfl ?_
   rcases hR with rfl|⟨kq,nq,dq,⟨k1,k2,k3⟩,rfl,k5,k6,k7⟩
   all_goals
    refine BN ?_
    refine R.op1 (O.makeL (n:=p.srcs.length) (fun _=>Lg.z) rfl inferInstance ⟨rfl,rfl,by decide⟩ rfl rfl hsm2' (by omega)) rfl ?_
    refine BN ?_
    refine D.op0 (O.lookA (kv:=some (numKs p,(numVs p).map .imm)) rfl inferInstance inferInstance rfl rfl (by first|exact rfl|exact kvMap at_upd) (numSrc hs)) rfl rfl ?_
    refine D.op0 (O.addrRX rfl inferInstance rfl rfl at_upd mixL_ivlen (by omega) rfl) rfl rfl ?_
    refine BN ?_
    refine D.opN1 (O.storeRS (by decide) rfl rfl rfl at_upd mixL_ivlen (mixL_ivat0 hlt) rfl rfl) rfl ?_
    refine BB ?_
    refine W.retFin1 rfl ⟨⟨nx+3+6,false,by omega,by omega,by simp,?_⟩,by omega,fun q hq=>at_upd⟩
    have hx:∀ s,expG p.srcs (p.defs.map Dfn.name) (colD E s) s (.mk 1 name n fold calcs kids)=if idxN p.srcs name=s then ⟨true,false,0,0⟩ else Lg.z:=fun s=>by rw [expG,if_pos rfl]
    simp only [hx]
    rw [upd_same,Int.toNat_natCast]
    exact congrArg (fun x=>Obj.row 153 4 x false) (mixL_one (f:=fun _=>Lg.z) (a:=⟨true,false,0,0⟩) hlt)
  ·have bA:(op==1)=false:=by simpa using h1
   rcases Classical.em (op=2\/op=3) with h23|h23
   ·have hs:=(hb.ref h23).2
    have hs:name∈p.defs.map Dfn.name:=hs
    have hns:name∉p.srcs:=fun hc=>(List.nodup_append.1 hnd).2.2 name hc name hs rfl
    have hnum:=fun (_:True)=>numDef hs hns
    have hlt:=idxN_lt hs
    rw [List.length_map] at hlt
    have hx:∀ s,expG p.srcs (p.defs.map Dfn.name) (colD E s) s (.mk op name n fold calcs kids)=(colD E s (idxN (p.defs.map Dfn.name) name)).thru false n (-n):=fun s=>by rw [expG,if_neg h1,if_pos h23]
    simp only [hx]
    generalize idxN (p.defs.map Dfn.name) name=j at *
    obtain ⟨L,hL⟩:∃ L,E[j]? = some L:=at_lt (by omega)
    have hcol:∀ s,colD E s j=L.getD s Lg.z:=fun s=>(colD_at hL s).symm
    simp only [hcol]
    have hLl:L.length=p.srcs.length:=hW.row L (List.mem_of_getElem? hL)
    rw [getD_map hLl fun a=>a.thru false n (-n)]
    have hLm:=List.mem_of_getElem? hL
    have hLk:∀ a∈L,a.Ok:=fun a ha=>hW.ok L hLm a ha
    have hLi:∀ a∈L,a.In 4294967295:=fun a ha=>(hI L hLm a ha).mono (by omega)
    have hne:L.map (fun a=>a.thru false n (-n))≠[]:=fun hc=>by rw [List.map_eq_nil_iff.1 hc,List.length_nil] at hLl;omega
    have b23:(op==2)=true\/((op==2)=false/\(op==3)=true):=by rcases h23 with rfl|rfl<;>simp
    refine Cal.of (fn:=Go.Proofs.Tryz.f82) (by kernel_rfl) rfl rfl ?_
    rcases hR with rfl|⟨kq,nq,dq,⟨k1,k2,k3⟩,rfl,k5,k6,k7⟩<;>rcases b23 with b2|⟨b2,b3⟩
    all_goals
     refine BN ?_
     refine R.op1 (O.makeL (n:=p.srcs.length) (fun _=>Lg.z) rfl inferInstance ⟨rfl,rfl,by decide⟩ rfl rfl hsm2' (by omega)) rfl ?_
     refine BN ?_
     refine D.op0 (O.lookA (kv:=some (numKs p,(numVs p).map .imm)) rfl inferInstance inferInstance rfl rfl (by first|exact rfl|exact kvMap at_upd) (hnum trivial)) rfl rfl ?_
     refine D.rowAt (E:=E) (lo:=lo) (hi:=hi) (et:=153) (by first|exact .inl rfl|exact .inr ⟨dq,k3,rfl,k7.frame at_upd (Nat.le_refl _) (Nat.le_refl _) fun o _ ho _=>at_upd⟩) hL rfl ⟨rfl,rfl⟩ rfl rfl rfl rfl fun a w rd1 rd2 hw=>?_
     refine BN ?_
     refine D.callB rfl rfl rfl rfl rfl (by kernel_rfl) ((cal439 (g:=fun _ x=>(x.thru false n (-n)).iv) rfl rfl (fun _ _=>rfl) hw (by omega) (by omega) fun i x hx G' nx' h5 h6=>cal450 (hLk x (List.mem_of_getElem? hx)) (hLi x (List.mem_of_getElem? hx)) hn50 ((h6 _ (by omega)).trans at_upd) (by omega)).mono fun v G2 nx2 hv=>?_)
     obtain ⟨ho,hn2,hG2⟩:=hv
     rw [mapIdx_map fun a=>a.thru false n (-n)] at ho
     refine BN ?_
     exact W.retFin1 rfl ⟨(ho.rowL hne).frame (by omega) (by omega) fun _ _ _ _=>rfl,by omega,fun q hq=>(hG2 q (by omega)).trans at_upd⟩
   ·have b2:(op==2)=false:=by simpa using fun h=>h23 (.inl h)
    have b3:(op==3)=false:=by simpa using fun h=>h23 (.inr h)
    have hx:∀ s,expG p.srcs (p.defs.map Dfn.name) (colD E s) s (.mk op name n fold calcs kids)=kidsG p.srcs (p.defs.map Dfn.name) (colD E s) s op n kids 0 Lg.z:=fun s=>by rw [expG,if_neg h1,if_neg h23]
    simp only [hx]
    have hkl:kids.length<=2:=hb.b.kids
    have hop:=hb.b.op
    have hop:1<=op/\op<=15:=hop
    have hop4:4<=op/\op<=15:=by omega
    have hkm:(Exp.ivs kids).length=kids.length:=ivs_len kids
    have hle:(allEs kids).length<=m:=by rw [allE,List.length_cons] at h;omega
    have hNk:∀ x∈allEs kids,NodeP p x:=fun x hx=>hN x (by rw [allE];exact List.mem_cons_of_mem _ hx)
    generalize p.defs.map Dfn.name=names at *
    refine Cal.of (fn:=Go.Proofs.Tryz.f82) (by kernel_rfl) rfl rfl ?_
    have hR0:=hR
    rcases hR with rfl|⟨kq,nq,dq,⟨k1,k2,k3⟩,rfl,k5,k6,k7⟩
    all_goals
     refine BN ?_
     refine R.op1 (O.makeL (n:=p.srcs.length) (fun _=>Lg.z) rfl inferInstance ⟨rfl,rfl,by decide⟩ rfl rfl hsm2' (by omega)) rfl ?_
     refine BN ?_
     refine W.loop (X:=Nat×AV) (fun s=>[(2, .ptr (nx+0) 0),(3, .ptr (nx+1) 0),(5,s.2),(50, .imm (.lst (Exp.ivs kids))),(51, .imm (.int .i64 (Exp.ivs kids).length)),(52, .imm (.int .i64 s.1))])
      (fun s nx1 G1=>nx+10<=nx1/\s.1<=kids.length/\G1 (nx+0) = .box [_] false/\G1 (nx+1) = .box ((Exp.mk op name n fold calcs kids).iv.cells.map .imm) false /\
       RowL 153 nx nx1 G1 s.2 ((List.range p.srcs.length).map fun c=>kidsG p.srcs names (colD E c) c op n (kids.take s.1) 0 Lg.z)/\∀ o,o < nx->G1 o=G o)
      (fun s=>kids.length-s.1) (0, .row (nx+3+6) p.srcs.length) .auto ⟨by omega,Nat.zero_le _,at_upd,at_upd,⟨nx+3+6,false,by omega,by omega,by simp,?_⟩,fun o ho=>at_upd⟩ ?_
     ·refine (upd_same ..).trans ?_
      rw [mixL_zero]
      simp only [List.take_zero,kidsG]
     rintro ⟨i,u⟩ nx1 G1 ⟨hnx,hi1,g0,g1,hu,hG1⟩
     dsimp only at hi1 hu ⊢
     refine BN ?_
     refine W.cond rfl (fun h2=>?_) (fun h2=>?_)
     ·have hlt:i < kids.length:=by have:=of_decide_eq_true h2;omega
      obtain ⟨x,hx⟩:=at_lt hlt
      have hxi:=ivs_at hx
      have hmu:kids.length-(i+1) < kids.length-i:=by omega
      have hxm:=List.mem_of_getElem? hx
      have hxl:=allE_kid hxm
      have hih:=fun (G2:Nat->Obj) nx2 (h:nx<=nx2) (h':∀ o,o < nx->G2 o=G o)=>ih x (by omega) (fun y hy=>hNk y (allEs_mem hxm hy)) G2 nx2 lo nx _ (hR0.frame (Nat.le_refl _) hh fun o ho=>h' o (by omega)) (by omega)
      have htk:=fun s=>kidsG_take (srcs:=p.srcs) (names:=names) (v:=colD E s) (s:=s) (op:=op) (n:=n) hx
      have hxin:∀ s,(expG p.srcs names (colD E s) s x).In 4294967295:=fun s=>(expG_in p.srcs names hK.1 (hI.col hK.1 s) s x fun y hy=>(hNk y (allEs_mem hxm hy)).b).mono (by omega)
      have hxok:∀ s,(expG p.srcs names (colD E s) s x).Ok:=fun s=>expG_ok p.srcs names (hW.col s) s x
      generalize hX:(fun s=>expG p.srcs names (colD E s) s x)=X at *
      have hX':∀ s,expG p.srcs names (colD E s) s x=X s:=fun s=>congrFun hX s
      simp only [hX'] at htk hxin hxok
      have hXs:∀ s,s < p.srcs.length->((List.range p.srcs.length).map X).getD s Lg.z=X s:=fun s hs=>by simp [List.getD_eq_getElem?_getD,hs]
      obtain ⟨o',s',n',f',c',k'⟩:=x
      refine BN ?_
      refine R.callB rfl rfl rfl rfl rfl ((hih _ _ (by omega) fun o ho=>Eq.trans at_upd (hG1 o ho)).mono fun v G2 nx2 hv=>?_)
      obtain ⟨hv,hnx2,hG2⟩:=hv
      refine BN ?_
      have c1:∀ o,o < nx1->G2 o=G1 o:=fun o ho=>(hG2 o (by omega)).trans at_upd
      have c6:G2 (nx1+1+3) = .box [.imm (natIV i)] false:=(hG2 _ (by omega)).trans at_upd
      obtain ⟨ov,frv,hv1,hv2,rfl,hv3⟩:=hv
      refine BN ?_
      refine R.callB rfl rfl rfl rfl rfl ((cal439 (l:=(List.range p.srcs.length).map fun c=>kidsG p.srcs names (colD E c) c op n (kids.take i) 0 Lg.z) (lo:=nx) (hi:=nx1) (g:=fun s a=>(a.both (kidL op n i (X s))).iv) rfl rfl (fun _ _=>rfl)
       (.inr (hu.frame (Nat.le_refl _) (Nat.le_refl _) fun o _ ho _=>(upd_ne _ _ _ _ (by omega)).trans ((upd_ne _ _ _ _ (by omega)).trans (c1 o ho)))) (by omega) (by simp;omega) fun s a hx G' nx' h5 h6=>?_).mono fun v4 G4 nx4 hv=>?_)
      ·have hs:s < p.srcs.length:=by have:=(List.getElem?_eq_some_iff.1 hx).1;simpa using this
       have hc:=cal452 (p:=p) (E:=E) (op:=op) (n:=n) (fold:=fold) (name:=name) (calcs:=calcs) (kids:=kids) (kb:=nx+0) (eb:=nx+1) (lb:=nx1+1+7+3) (ib:=nx1+1+3) (lo:=lo) (hi:=hi) (lv := .row ov ((List.range p.srcs.length).map X).length) (hi2:=nx2) (i:=i) (s:=s) (L:=(List.range p.srcs.length).map X) (a:=a) (fr:=false) (G:=G') (nx:=nx')
        (by rw [hXs s hs];exact hxok s) (by rw [hXs s hs];exact hxin s) hn50 hop4 (by omega) (by simpa using hs)
        (hR0.frame (Nat.le_refl _) (Nat.le_refl _) fun o ho=>(h6 o (by omega)).trans ((upd_ne _ _ _ _ (by omega)).trans ((upd_ne _ _ _ _ (by omega)).trans ((c1 o (by omega)).trans (hG1 o (by omega))))))
        ((h6 _ (by omega)).trans ((upd_ne _ _ _ _ (by omega)).trans ((upd_ne _ _ _ _ (by omega)).trans ((c1 _ (by omega)).trans g0))))
        ((h6 _ (by omega)).trans ((upd_ne _ _ _ _ (by omega)).trans ((upd_ne _ _ _ _ (by omega)).trans ((c1 _ (by omega)).trans g1))))
        (.inr ⟨ov,frv,Nat.zero_le _,hv2,rfl,(h6 _ (by omega)).trans ((upd_ne _ _ _ _ (by omega)).trans ((upd_ne _ _ _ _ (by omega)).trans hv3))⟩)
        ((h6 _ (by omega)).trans (upd_same ..)) ((h6 _ (by omega)).trans ((upd_ne _ _ _ _ (by omega)).trans ((upd_ne _ _ _ _ (by omega)).trans c6))) (by omega)
       rw [hXs s hs] at hc
       exact hc
      ·obtain ⟨ho,hn4,hG4⟩:=hv
       have hlst:((List.range p.srcs.length).map fun c=>kidsG p.srcs names (colD E c) c op n (kids.take i) 0 Lg.z).mapIdx (fun s a=>(a.both (kidL op n i (X s))).iv)=((List.range p.srcs.length).map fun c=>kidsG p.srcs names (colD E c) c op n (kids.take (i+1)) 0 Lg.z).map Lg.iv:=by
        refine List.ext_getElem? fun s=>?_
        simp only [List.getElem?_mapIdx,List.getElem?_map,Option.map_map]
        by_cases hs:s < p.srcs.length
        ·rw [List.getElem?_range hs]
         simp only [Option.map_some,Function.comp,htk]
        ·rw [List.getElem?_eq_none (by simpa using hs)];rfl
       rw [hlst] at ho
       have hne:((List.range p.srcs.length).map fun c=>kidsG p.srcs names (colD E c) c op n (kids.take (i+1)) 0 Lg.z)≠[]:=fun hc=>by have:=congrArg List.length hc;rw [List.length_map,List.length_range,List.length_nil] at this;omega
       refine BN ?_
       refine W.skipLop (i+1,v4) hmu .auto ⟨by omega,hlt,?_,?_,(ho.rowL hne).frame (by omega) (by omega) fun _ _ _ _=>rfl,fun o ho=>?_⟩
       ·exact (hG4 _ (by omega)).trans ((upd_ne _ _ _ _ (by omega)).trans ((upd_ne _ _ _ _ (by omega)).trans ((c1 _ (by omega)).trans g0)))
       ·exact (hG4 _ (by omega)).trans ((upd_ne _ _ _ _ (by omega)).trans ((upd_ne _ _ _ _ (by omega)).trans ((c1 _ (by omega)).trans g1)))
       ·exact (hG4 _ (by omega)).trans ((upd_ne _ _ _ _ (by omega)).trans ((upd_ne _ _ _ _ (by omega)).trans ((c1 _ (by omega)).trans (hG1 o ho))))
     ·have hge:kids.length<=i:=by have:=of_decide_eq_false h2;omega
      rw [List.take_of_length_le hge] at hu
      obtain ⟨ou,fru,hu1,hu2,rfl,hu3⟩:=hu
      refine BN ?_
      exact W.retFin1 rfl ⟨⟨ou,fru,by omega,by omega,rfl,hu3⟩,by omega,hG1⟩
end Go.Abs

/- The rings of a program: each definition that reaches itself is in one, once. -/
open Go Go.Abs
namespace Go.Abs
set_option maxRecDepth 100000
theorem ringTo_mem {tos:List (List Nat)} {i s:Nat} (hi:i < tos.length) (hr:Reach tos i i):s∈ringTo (reachR tos) i tos.length↔s < tos.length/\Reach tos i s/\Reach tos s i:=by
 rw [<-ring_eq hi hr,List.mem_filter,List.mem_filter,List.mem_range,reachB_iff,reachB_iff,and_assoc]
theorem ringTo_nodup (m:List (List Bool)) (i n:Nat):(ringTo m i n).Nodup:=by
 unfold ringTo
 exact List.nodup_range.sublist List.filter_sublist
theorem count_one {l:List Nat} {s:Nat} (h:l.Nodup) (hs:s∈l):l.count s=1:=by
 have h1:=List.nodup_iff_count.1 h s
 have h2:=List.count_pos_iff.2 hs
 omega
theorem count_nodup {l:List Nat} {s:Nat} (h:l.Nodup):(s∈l->l.count s=1)/\(s∉l->l.count s=0):=
 ⟨fun h'=>count_one h h',fun h'=>List.count_eq_zero.2 h'⟩
theorem count_rings {tos:List (List Nat)} {s:Nat} (hs:s < tos.length):∀ i,i<=tos.length->(InRing tos i s->(ringsTo (reachR tos) i).flatten.count s=1)/\(¬ InRing tos i s->(ringsTo (reachR tos) i).flatten.count s=0):=by
 intro i
 induction i with
 |zero=>
  intro _
  exact ⟨fun ⟨_,h,_⟩=>by omega,fun _=>rfl⟩
 |succ i ih=>
  intro hi
  obtain ⟨ih1,ih0⟩:=ih (by omega)
  rw [ringsTo_succ]
  by_cases hr:ringIs (reachR tos) i=true
  ·rw [if_pos hr,reachR_len]
   obtain ⟨h1,h2⟩:=(ringIs_iff (by omega)).1 hr
   rw [List.flatten_append,List.count_append,show [ringTo (reachR tos) i tos.length].flatten=ringTo (reachR tos) i tos.length by simp]
   obtain ⟨c1,c0⟩:=count_nodup (s:=s) (ringTo_nodup (reachR tos) i tos.length)
   rw [ringTo_mem (by omega) h1] at c1 c0
   rw [InRing.step h1]
   by_cases hA:InRing tos i s
   ·have hB:¬ (s < tos.length/\Reach tos i s/\Reach tos s i):=by
     rintro ⟨_,h3,h4⟩
     obtain ⟨i',g1,g2,g3,g4⟩:=hA
     exact h2 ⟨i',g1,g2,g3.trans h4,h3.trans g4⟩
    rw [ih1 hA,c0 hB]
    exact ⟨fun _=>rfl,fun h=>absurd (.inl hA) h⟩
   ·rw [ih0 hA]
    by_cases hB:s < tos.length/\Reach tos i s/\Reach tos s i
    ·rw [c1 hB]
     exact ⟨fun _=>rfl,fun h=>absurd (.inr hB.2) h⟩
    ·rw [c0 hB]
     refine ⟨fun h=>?_,fun _=>rfl⟩
     rcases h with h|h
     ·exact absurd h hA
     ·exact absurd ⟨hs,h⟩ hB
  ·rw [if_neg hr,List.append_nil]
   have hsk:¬ Reach tos i i\/InRing tos i i:=by
    rw [ringIs_iff (by omega)] at hr
    by_cases h:Reach tos i i
    ·exact .inr (Classical.byContradiction fun h'=>hr ⟨h,h'⟩)
    ·exact .inl h
   rw [InRing.skip hsk]
   exact ⟨ih1,ih0⟩
theorem rings_count {tos:List (List Nat)} {s:Nat} (hs:s < tos.length):(ringsTo (reachR tos) tos.length).flatten.count s=if reachB tos s s then 1 else 0:=by
 obtain ⟨h1,h0⟩:=count_rings hs tos.length (Nat.le_refl _)
 by_cases h:reachB tos s s=true
 ·rw [if_pos h]
  exact h1 ⟨s,hs,reachB_iff.1 h,reachB_iff.1 h,reachB_iff.1 h⟩
 ·rw [if_neg h]
  refine h0 ?_
  rintro ⟨i',_,_,h3,h4⟩
  exact h (reachB_iff.2 (h4.trans h3))
end Go.Abs

/- The groups of definitions, in their order, as the program finds them. -/
open Go Go.Abs
namespace Go.Abs
set_option maxRecDepth 100000
set_option maxHeartbeats 4000000
theorem O.slNilT {C:Cfg} {id:Nat} {l:Env} {G:Nat->Obj} {nx:Nat} {df:List (AV×List AV)} {pk:Pk} {t t2 e:TypeId} {x y:Operand} {k:TyI} [hk:TyIs C t k] (hb:k.d = .sl e) (hx:lookO l x=some .nils) (hy:lookO l y=some .nils):OpV C id l G nx df pk (.binOp .eql t x y t2) (.imm (.bool true)) []:=
 O.of fun t L ht=>by simp only [opA,ht.ev hx,ht.ev hy,binA,eqAV,hk.is,hb,eqOp,Option.map_some]
theorem O.slNilF {C:Cfg} {id:Nat} {l:Env} {G:Nat->Obj} {nx:Nat} {df:List (AV×List AV)} {pk:Pk} {t t2 e:TypeId} {x y:Operand} {k:TyI} {a:IV} {r:List IV} [hk:TyIs C t k] (hb:k.d = .sl e) (hx:lookO l x=some (.imm (.lst (a::r)))) (hy:lookO l y=some .nils):OpV C id l G nx df pk (.binOp .eql t x y t2) (.imm (.bool false)) []:=
 O.of fun t L ht=>by simp only [opA,ht.ev hx,ht.ev hy,binA,eqAV,hk.is,hb,eqOp,Option.map_some]
instance fnis483:FnIs CC 183:=⟨rfl,fun _=>rfl⟩
theorem look_hd' {l:Env} {d:Nat} {v:AV}:lookO ((d,v)::l) (.tmp d)=some v:=by
 show look _ _=_
 unfold look
 rw [Nat.beq_refl]
theorem nodup_count:∀ {l:List Nat},(∀ x∈l,l.count x<=1)->l.Nodup
 |[],_=>List.nodup_nil
 |a::l,h=>by
  refine List.nodup_cons.2 ⟨fun ha=>?_,nodup_count fun x hx=>?_⟩
  ·have h1:=h a (List.mem_cons_self ..)
   rw [List.count_cons_self] at h1
   have:=List.count_pos_iff.2 ha
   omega
  ·have h1:=h x (List.mem_cons_of_mem _ hx)
   have:=List.count_le_count_cons (a:=x) (b:=a) (l:=l)
   omega
theorem rings_nodup {tos:List (List Nat)}:(ringsR (reachR tos)).flatten.Nodup:=by
 refine nodup_count fun x hx=>?_
 obtain ⟨r,hr,hxr⟩:=List.mem_flatten.1 hx
 have hxl:x < tos.length:=by
  have:=ringsTo_lt r hr x hxr
  rwa [reachR_len] at this
 have:=rings_count (tos:=tos) hxl
 unfold ringsR
 rw [reachR_len,this]
 split<;>omega
theorem rings_grp {tos:List (List Nat)} {r:List Nat} (hr:r∈ringsR (reachR tos)) {k:Nat} (hk:k∈r):r=grpR tos k:=by
 obtain ⟨f,r',hf,_,e⟩:=groups_is (List.mem_append_left _ hr)
 rw [e] at hk ⊢
 exact (grp_same hf hk).symm
theorem InIs.append {tos:List (List Nat)} {lo hi:Nat} {G:Nat->Obj} {ks ks2:List Nat} {vs vs2:List AV} (h:InIs tos lo hi G ks vs) (h2:InIs tos lo hi G ks2 vs2):InIs tos lo hi G (ks++ks2) (vs++vs2) where
 len:=by rw [List.length_append,List.length_append,h.len,h2.len]
 row:=fun i k w hk hw=>by
  by_cases hi:i < ks.length
  ·rw [List.getElem?_append_left hi] at hk
   rw [List.getElem?_append_left (by rw [h.len];exact hi)] at hw
   exact h.row i k w hk hw
  ·rw [List.getElem?_append_right (by omega)] at hk
   rw [List.getElem?_append_right (by rw [h.len];omega),h.len] at hw
   exact h2.row _ k w hk hw
theorem InIs.one {tos:List (List Nat)} {lo hi k:Nat} {G:Nat->Obj} {w:AV} (h:RowF lo hi G w (grpR tos k)):InIs tos lo hi G [k] [w]:=⟨rfl,fun i k' w' h1 h2=>by
 cases i with
 |zero=>cases h1;cases h2;exact h
 |succ i=>simp at h1⟩
noncomputable def grpV (tos:List (List Nat)) (ks:List Nat):List AV:=ks.map fun k => .imm (natsIV (grpR tos k))
theorem grp_snoc (tos:List (List Nat)) (A:List Nat) (k:Nat) {w:IV} (hw:w=natsIV (grpR tos k)):Obj.mp (A.map natIV++[natIV k]) (grpV tos A++[.imm w]) false = .mp ((A++[k]).map natIV) (grpV tos (A++[k])) false:=by
 subst hw;unfold grpV;simp
theorem InIs.grp (tos:List (List Nat)) (lo hi:Nat) (G:Nat->Obj) (ks:List Nat):InIs tos lo hi G ks (grpV tos ks):=⟨by simp [grpV],fun i k w h1 h2=>by
 unfold grpV at h2
 rw [List.getElem?_map,h1] at h2
 cases h2
 exact .inl rfl⟩
theorem InIs.first {tos:List (List Nat)} {A B:List Nat} {ws:List AV} {d:Nat} (hd:d∈A):lookIs (some ty3) (some ty30) (some ((A++B).map natIV,grpV tos A++ws)) (natIV d) false (.imm (natsIV (grpR tos d))):=by
 have hc:A.contains d=true:=List.contains_iff_mem.2 hd
 rw [<-findIdx_contains'] at hc
 obtain ⟨j,hj⟩:=Option.isSome_iff_exists.1 hc
 have hlt:=findIdx_lt' hj
 refine ⟨rfl, .inl ⟨j,_,?_,?_,rfl⟩⟩
 ·rw [natKey,List.findIdx?_append,hj];rfl
 ·unfold grpV
  rw [List.getElem?_append_left (by simpa using hlt),List.getElem?_map,findIdx_at' hj];rfl
def loneN (A:List Nat) (d:Nat):List Nat:=(List.range d).filter fun k => !A.contains k
theorem loneN_succ (A:List Nat) (d:Nat):loneN A (d+1)=loneN A d++(if d∈A then [] else [d]):=by
 unfold loneN
 rw [List.range_succ,List.filter_append]
 congr 1
 by_cases h:d∈A<;>simp [h]
theorem loneN_not (A:List Nat) (d:Nat):d∉loneN A d:=fun h=>by
 have:=List.mem_range.1 (List.mem_filter.1 h).1
 omega
theorem RowF.soft {lo hi hi':Nat} {G G':Nat->Obj} {w:AV} {g:List Nat} (h:RowF lo hi G w g) (hh:hi<=hi') (hG:∀ o,lo<=o->o < hi->G' o=G o\/G' o=(G o).freeze):RowF lo hi' G' w g:=by
 rcases h with h|⟨o,fr,h0,h1,h2,h3⟩
 ·exact .inl h
 ·rcases hG o h0 h1 with h4|h4
  ·exact .inr ⟨o,fr,h0,by omega,h2,by rw [h4];exact h3⟩
  ·exact .inr ⟨o,true,h0,by omega,h2,by rw [h4,h3];rfl⟩
theorem InIs.soft {tos:List (List Nat)} {lo hi hi':Nat} {G G':Nat->Obj} {ks:List Nat} {vs:List AV} (h:InIs tos lo hi G ks vs) (hh:hi<=hi') (hG:∀ o,lo<=o->o < hi->G' o=G o\/G' o=(G o).freeze):InIs tos lo hi' G' ks vs:=
 ⟨h.len,fun i k w h1 h2=>(h.row i k w h1 h2).soft hh hG⟩
theorem RowF.len {lo hi:Nat} {G:Nat->Obj} {w:AV} {g:List Nat} {e:TypeId} (h:RowF lo hi G w g):lenA G (.sl e) w=some g.length:=by
 rcases h with rfl|⟨o,fr,_,_,rfl,h3⟩
 ·show some _=_;rw [List.length_map,List.length_map]
 ·simp [lenA,elems,h3]
section
variable {nt:Nat} {ol r:List Oper} {base i:Nat} {l:Env} {G:Nat->Obj} {nx:Nat} {df:List (AV×List AV)} {pk:Pk} {Φ:Out->Prop} {x y:Operand} {ty1 ty2:TypeId} {pos1 pos2:String} {af1 af2:Array Edge} {d d1 d2 lo hi j k:Nat} {w:AV} {g:List Nat} {ats:Array TypeId}
theorem R.natAt (hr:RowF lo hi G w g) (hk:g[j]? = some k) (hx:lookO l x=some w) (hy:lookO l y=some (.imm (.int .i64 j))) (hd1:Nat.ble (d1+1) nt=true) (hd2:Nat.ble (d2+1) nt=true)
  (next:∀ a,R CC nt ol base (i+1+1) r ((d2, .imm (natIV k))::(d1,a)::l) G nx df pk Φ) :
  R CC nt ol base i (⟨some d1, .indexAddr 44 x y,ty1,pos1,af1,none⟩::⟨some d2, .load 3 (.tmp d1),ty2,pos2,af2,none⟩::r) l G nx df pk Φ:=by
 have hs:=(List.getElem?_eq_some_iff.1 hk).1
 rcases hr with rfl|⟨o,fr,_,_,rfl,hG⟩
 ·have hi:=at_map natIV hk
  exact R.op0 (O.addrX rfl inferInstance hx hy (by omega) hi rfl) hd1 (R.op0 (O.load1 look_hd' hi rfl rfl rfl) hd2 (next _))
 ·have hi:((g.map natIV).map AV.imm)[(j:Int).toNat]? = some (.imm (natIV k)):=by rw [Int.toNat_natCast,List.getElem?_map,List.getElem?_map,hk];rfl
  exact R.op0 (O.addrRX rfl inferInstance hx hy hG (by simp) (by omega) rfl) hd1 (R.op0 (O.loadRX look_hd' hG (by simp) hi rfl rfl rfl) hd2 (next _))
theorem R.cloneN (hrow:RowF lo hi G w g) (hg:g.length<=1000) (hx:lookO l x=some w) (hd:Nat.ble (d+1) nt=true) (hid:hi<=base+i)
  (next:∀ G',G' (base+i) = .row 3 1 ((g.map natIV).map .imm) false->(∀ o,o≠base+i->G' o=G o\/(lo<=o/\o < hi/\G' o=(G o).freeze))->R CC nt ol base (i+1) r ((d, .row (base+i) g.length)::l) G' nx df pk Φ) :
  R CC nt ol base i (⟨some d, .call { callee := .value (.func 205),args := #[x],argTypes:=ats },ty1,pos1,af1,none⟩::r) l G nx df pk Φ:=by
 have horc:CC.orc 205 [.lst (g.map natIV)]=some (.own 3 1 (g.map natIV)):=by
  show (if _ then _ else _)=_
  rw [if_pos ⟨natKeys_int g,by rw [List.length_map];omega⟩]
 have hl:(g.map natIV).length=g.length:=List.length_map ..
 rw [<-hl] at next
 have hxs:looks l [x]=some [w]:=by simp [looks,hx]
 rcases hrow with rfl|⟨o,fr,h0,h1,rfl,h3⟩
 ·exact R.op1 (O.callOwnI rfl horc hxs rfl) hd (next _ (upd_same ..) fun o ho => .inl (upd_ne _ _ _ _ ho))
 ·refine R.opU (O.callOwn rfl horc hxs (peeks_one (peek_row1 h3 (by simp)) peeks_nil)) hd (next _ ?_ fun q hq=>?_)
  ·exact (updL_frz1 (q:=o)).trans (if_pos rfl)
  ·by_cases e:q=o
   ·subst e
    exact .inr ⟨h0,h1,updL_frz1.trans ((if_neg hq).trans (if_pos rfl))⟩
   ·exact .inl (updL_frz1.trans ((if_neg hq).trans (if_neg e)))
end
theorem ret483 {p:Pgm} (hp:p.Fits) (hpr:progR p=true):Ret CC 183 [p.iv] (.lst ((orderR (tosR p)).map natsIV)):=by
 have hg:=progR_good hpr
 have hn:(tosR p).length=p.defs.length:=hg.steps.2.1
 have hd6:=hg.defs
 have h17:=ret17 p hp
 have hra:ringsA p=ringsOf p:=by unfold ringsA;rw [if_pos hpr]
 rw [hra,if_pos hpr] at h17
 have h503:=@cal503 p hp
 refine Ret.of (fn:=Go.Proofs.Tryz.f183) (by kernel_rfl) rfl rfl ?_
 have hfn:=rings_nodup (tos:=tosR p)
 have hrg:=fun r hr k hk=>rings_grp (tos:=tosR p) (r:=r) hr (k:=k) hk
 have hrl:=ringsOf_len hg
 have hrs:=ringsOf_le hg
 have hrm:=fun k=>rings_mem (tos:=tosR p) (k:=k)
 change (ringsOf p).flatten.Nodup at hfn
 change ∀ r∈ringsOf p,∀ k∈r,r=grpR (tosR p) k at hrg
 change ∀ k,(∃ r∈ringsOf p,k∈r)↔_ at hrm
 generalize ringsOf p=rings at *
 generalize tosR p=tos at *
 obtain ⟨srcs,defs⟩:=p
 have hrml:(rings.map natsIV).length=rings.length:=List.length_map ..
 refine BB ?_
 refine W.loop (X:=Nat) (fun i=>[(1, .ptr 0 0),(5, .ptr 10 0),(23, .imm (.lst (rings.map natsIV))),(24, .imm (.int .i64 (rings.map natsIV).length)),(25, .imm (.int .i64 i))])
  (fun i nx G=>11<=nx/\i<=rings.length/\G 0 = .box [.imm (.lst (srcs.map sv)), .imm (.lst (defs.map Dfn.iv))] false/\G 10 = .box [.map 9] false/\G 9 = .mp ((rings.take i).flatten.map natIV) (grpV tos (rings.take i).flatten) false)
  (fun i=>rings.length-i) 0 .auto ⟨by decide,Nat.zero_le _,rfl,rfl,rfl⟩ ?_
 rintro i nx G ⟨hnx,hi,g0,g10,g9⟩
 refine BB ?_
 refine W.cond rfl (fun h1=>?_) (fun h1=>?_)
 ·have h1':i < rings.length:=by have:=of_decide_eq_true h1;rw [hrml] at this;omega
  obtain ⟨r,hr⟩:=at_lt h1'
  have hri:=at_map natsIV hr
  have hrk:=hrg r (List.mem_of_getElem? hr)
  have hmu:rings.length-(i+1) < rings.length-i:=by omega
  have hr6:=hrs r (List.mem_of_getElem? hr)
  have hrml2:(r.map natIV).length=r.length:=List.length_map ..
  have htk:(rings.take (i+1)).flatten=(rings.take i).flatten++r:=by rw [List.take_add_one,hr,List.flatten_append];simp
  refine BB ?_
  refine W.loop (X:=Nat) (fun j=>[(1, .ptr 0 0),(5, .ptr 10 0),(7, .imm (natsIV r)),(23, .imm (.lst (rings.map natsIV))),(24, .imm (.int .i64 (rings.map natsIV).length)),(25, .imm (.int .i64 i)),(29, .imm (natsIV r)),(30, .imm (.int .i64 (r.map natIV).length)),(31, .imm (.int .i64 j))])
   (fun j nx G=>11<=nx/\j<=r.length/\G 0 = .box [.imm (.lst (srcs.map sv)), .imm (.lst (defs.map Dfn.iv))] false/\G 10 = .box [.map 9] false/\G 9 = .mp (((rings.take i).flatten++r.take j).map natIV) (grpV tos ((rings.take i).flatten++r.take j)) false)
   (fun j=>r.length-j) 0 .auto ⟨by omega,Nat.zero_le _,g0,g10,by simpa using g9⟩ ?_
  clear g0 g10 g9
  rintro j nx2 G2 ⟨hnx2,hj,g0,g10,g9⟩
  refine BB ?_
  refine W.cond rfl (fun h2=>?_) (fun h2=>?_)
  ·have h2':j < r.length:=by have:=of_decide_eq_true h2;rw [hrml2] at this;omega
   obtain ⟨k,hk⟩:=at_lt h2'
   have hki:=at_map natIV hk
   have hmu2:r.length-(j+1) < r.length-j:=by omega
   have hnew:((rings.take i).flatten++r.take j).contains k=false:=by
    rw [List.contains_eq_mem,decide_eq_false_iff_not]
    intro hc
    have hsp:rings.flatten=((rings.take i).flatten++r.take j)++(k::(r.drop (j+1)++(rings.drop (i+1)).flatten)):=by
     have e1:rings=rings.take i++r::rings.drop (i+1):=by
      have:=List.getElem_cons_drop h1'
      rw [(List.getElem?_eq_some_iff.1 hr).2] at this
      rw [this,List.take_append_drop]
     have e2:r=r.take j++k::r.drop (j+1):=by
      have:=List.getElem_cons_drop h2'
      rw [(List.getElem?_eq_some_iff.1 hk).2] at this
      rw [this,List.take_append_drop]
     conv=>lhs;rw [e1,List.flatten_append,List.flatten_cons,e2]
     simp [List.append_assoc]
    rw [hsp,List.nodup_append] at hfn
    exact hfn.2.2 k hc k (List.mem_cons_self ..) rfl
   have hkn:=setNew hnew
   refine BB ?_
   refine R.opN1 (O.mapNew (k:=ty561) (kk:=ty3) rfl inferInstance rfl rfl rfl g9 rfl hkn) ?_
   refine BB ?_
   refine W.skipLop (j+1) hmu2 .auto ⟨by omega,h2',?_,?_,?_⟩
   ·rw [upd_ne _ _ _ _ (by omega)];exact g0
   ·rw [upd_ne _ _ _ _ (by omega)];exact g10
   ·have e1:(rings.take i).flatten++r.take (j+1)=((rings.take i).flatten++r.take j)++[k]:=by rw [List.take_add_one,hk,<-List.append_assoc];rfl
    have ev:natsIV r=natsIV (grpR tos k):=congrArg natsIV (hrk k (List.mem_of_getElem? hk))
    rw [upd_same,e1]
    exact grp_snoc tos _ k ev
  ·have h2':¬ j < r.length:=by have:=of_decide_eq_false h2;rw [hrml2] at this;omega
   rw [List.take_of_length_le (l:=r) (by omega),<-htk] at g9
   refine BB ?_
   exact W.skipLop (i+1) hmu .auto ⟨by omega,h1',g0,g10,g9⟩
 ·have h1':¬ i < rings.length:=by have:=of_decide_eq_false h1;rw [hrml] at this;omega
  rw [List.take_of_length_le (l:=rings) (by omega)] at g9
  refine BB ?_
  have hdm:(defs.map Dfn.iv).length=defs.length:=List.length_map ..
  have hd6':defs.length<=6:=hd6
  refine W.loop (X:=Nat×List AV) (fun x=>[(1, .ptr 0 0),(5, .ptr 10 0),(42, .imm (.int .i64 (defs.map Dfn.iv).length)),(43, .imm (.int .i64 x.1))])
   (fun x nx G=>11<=nx/\x.1<=defs.length/\G 0 = .box [.imm (.lst (srcs.map sv)), .imm (.lst (defs.map Dfn.iv))] false/\G 10 = .box [.map 9] false/\G 9 = .mp ((rings.flatten++loneN rings.flatten x.1).map natIV) (grpV tos rings.flatten++x.2) false/\InIs tos 11 nx G (loneN rings.flatten x.1) x.2)
   (fun x=>defs.length-x.1) (0,[]) .auto ⟨by omega,Nat.zero_le _,g0,g10,by simpa [loneN] using g9,⟨rfl,fun i k w h=>by simp [loneN] at h⟩⟩ ?_
  clear g0 g10 g9
  rintro ⟨d,ws⟩ nx2 G2 ⟨hnx2,hd,g0,g10,g9,hin⟩
  dsimp only at hd g9 hin ⊢
  refine BN ?_
  refine W.cond rfl (fun h2=>?_) (fun h2=>?_)
  ·have hlt:d < defs.length:=by have:=of_decide_eq_true h2;omega
   have hmu:defs.length-(d+1) < defs.length-d:=by omega
   have hsucc:=loneN_succ rings.flatten d
   by_cases hdr:d∈rings.flatten
   ·rw [if_pos hdr,List.append_nil] at hsucc
    have hlk:=InIs.first (tos:=tos) (B:=loneN rings.flatten d) (ws:=ws) hdr
    obtain ⟨f,r,hfr⟩:∃ f r,grpR tos d=f::r:=by
     cases hg:grpR tos d with
     |nil=>have:=grp_self (tos:=tos) (d:=d) (by rw [hn];exact hlt);rw [hg] at this;cases this
     |cons f r=>exact ⟨f,r,rfl⟩
    rw [hfr] at hlk
    have hlk':lookIs (some ty3) (some ty30) (mapKV G2 (.map 9)) (natIV d) false (.imm (natsIV (f::r))):=by simp only [mapKV,g9];exact hlk
    refine BN ?_
    refine R.op0 (O.slNilF (a:=natIV f) (r:=r.map natIV) rfl rfl rfl) rfl ?_
    refine BN ?_
    exact W.skipLop (d+1,ws) hmu .auto ⟨by omega,hlt,g0,g10,by rw [hsucc];exact g9,by rw [hsucc];exact hin.frame (by omega) fun _ _ _=>rfl⟩
   ·rw [if_neg hdr] at hsucc
    have hdn:d∉rings.flatten++loneN rings.flatten d:=fun hc=>(List.mem_append.1 hc).elim hdr (loneN_not _ _)
    have hlk:lookIs (some ty3) (some ty30) (mapKV G2 (.map 9)) (natIV d) false .nils:=by simp only [mapKV,g9];exact InIs.miss hdn
    have hal:grpR tos d=[d]:=grp_alone (by rw [hn];exact hlt) fun hc=>hdr (by
     obtain ⟨r,hr1,hr2⟩:=(hrm d).2 ⟨by rw [hn];exact hlt,hc⟩
     exact List.mem_flatten.2 ⟨r,hr1,hr2⟩)
    have hkn:=setNew (l:=rings.flatten++loneN rings.flatten d) (k:=d) (by rw [List.contains_eq_mem];exact decide_eq_false hdn)
    refine BN ?_
    refine R.op0 (O.slNilT rfl rfl rfl) rfl ?_
    refine BN ?_
    refine R.opN1 (O.mapNew (k:=ty561) (kk:=ty3) rfl inferInstance rfl rfl rfl at_upd rfl hkn) ?_
    refine BN ?_
    refine W.skipLop (d+1,ws++[.row (nx2+1+2+4+3) 1]) hmu .auto ⟨by omega,hlt,at_upd,at_upd,?_,?_⟩
    ·rw [upd_same,hsucc,<-List.append_assoc,List.append_assoc (grpV _ _),List.map_append (l₂:=[d])]
     rfl
    ·rw [hsucc]
     refine InIs.append (hin.frame (by omega) fun o h1 h2=>?_) (InIs.one ?_)
     ·rw [upd_ne _ _ _ _ (by omega),upd_ne _ _ _ _ (by omega)]
     ·rw [hal]
      exact .inr ⟨nx2+1+2+4+3,false,by omega,by omega,rfl,(upd_ne _ _ _ _ (by omega)).trans (upd_same ..)⟩
  ·have h2':¬ d < defs.length:=by have:=of_decide_eq_false h2;omega
   have:d=defs.length:=by omega
   subst this
   generalize hks:rings.flatten++loneN rings.flatten defs.length=ks at *
   have hall:∀ d,d < defs.length->d∈ks:=fun d hd=>by
    rw [<-hks]
    by_cases hdr:d∈rings.flatten
    ·exact List.mem_append_left _ hdr
    ·refine List.mem_append_right _ ?_
     unfold loneN
     exact List.mem_filter.2 ⟨List.mem_range.2 hd,by simpa using hdr⟩
   have hIn:InIs tos 11 nx2 G2 ks (grpV tos rings.flatten++ws):=by rw [<-hks];exact (InIs.grp tos 11 nx2 G2 _).append hin
   generalize grpV tos rings.flatten++ws=vs at *
   clear hin hks hrm hrg hfn
   refine BN ?_
   refine W.loop (X:=List Nat×List (List Nat)×AV) (fun x=>[(1, .ptr 0 0),(5, .ptr 10 0),(11, .ptr (nx2+1+1) 0),(12, .fn (.func 203) [.ptr 0 0, .ptr (nx2+1+1) 0, .ptr 10 0]),(13,x.2.2)])
    (fun x nx G=>nx2+3<=nx/\G 0 = .box [.imm (.lst (srcs.map sv)), .imm (.lst (defs.map Dfn.iv))] false/\G 10 = .box [.map 9] false/\G 9 = .mp (ks.map natIV) vs false/\InIs tos 11 nx2 G ks vs/\G (nx2+1+1) = .box [.map (nx2+1+0)] false/\G (nx2+1+0)=setObj x.1 /\
     OwnV 1 44 1 (nx2+3) nx (x.2.1.map natsIV) G x.2.2/\DoneIs tos x.1/\x.2.1++orderTo tos (tos.length-x.2.1.length) x.1=orderR tos/\x.2.1.length<=x.1.length)
    (fun x=>tos.length-x.1.length) ([],[], .nils) .auto ⟨by omega,at_upd,at_upd,at_upd,hIn.frame (Nat.le_refl _) fun o h1 h2=>at_upd,upd_same ..,(upd_ne _ _ _ _ (by omega)).trans ((upd_ne _ _ _ _ (by omega)).trans (upd_same ..)), .inl ⟨rfl,rfl⟩,DoneIs.nil,rfl,Nat.le_refl _⟩ ?_
   clear g0 g10 g9 hIn
   rintro ⟨done,out,v⟩ nx3 G3 ⟨hnx3,g0,g10,g9,hin,gb,gQ,hout,hdone,hord,hle⟩
   dsimp only at gQ hout hdone hord hle ⊢
   have hdl:=hdone.len
   have hsm:(List.map sv srcs).length=srcs.length:=List.length_map ..
   refine BN ?_
   refine R.op0 (O.len (m:=done.length) rfl (by show lenA G3 (.mp _ _) (.map _)=_;simp only [lenA,gQ,setObj,List.length_map])) rfl ?_
   refine BN ?_
   refine W.cond rfl (fun h3=>?_) (fun h3=>?_)
   ·have hlt:done.length < tos.length:=by have:=of_decide_eq_true h3;rw [List.length_map] at this;have hn':tos.length=defs.length:=hn;have this:(done.length:Int) < (defs.length:Int):=this;omega
    obtain ⟨dn,hdn,_,_⟩:=next_some hlt
    refine BN ?_
    refine W.loop (X:=Nat) (fun d=>[(1, .ptr 0 0),(5, .ptr 10 0),(11, .ptr (nx2+1+1) 0),(12, .fn (.func 203) [.ptr 0 0, .ptr (nx2+1+1) 0, .ptr 10 0]),(13,v),(65, .imm (.int .i64 (defs.map Dfn.iv).length)),(66, .imm (.int .i64 d))])
     (fun d nx G=>nx3<=nx/\(∀ o,o < nx3->G o=G3 o)/\d<=defs.length/\∀ e,e < d->readyR tos done e=false) (fun d=>defs.length-d) 0 .auto ⟨by omega,fun _ _=>rfl,Nat.zero_le _,fun _ h=>absurd h (Nat.not_lt_zero _)⟩ ?_
    rintro d nx4 G4 ⟨hnx4,hG4,hd4,hno⟩
    refine BN ?_
    refine W.cond rfl (fun h4=>?_) (fun h4=>?_)
    ·have hd:d < defs.length:=by have:=of_decide_eq_true h4;omega
     have hmu4:defs.length-(d+1) < defs.length-d:=by omega
     have hdk:=hall d hd
     have hcal:=fun nx5 (h:nx4<=nx5)=>h503 (done:=done) (ks:=ks) (vs:=vs) (pb:=0) (dp:=nx2+1+1) (md:=nx2+1+0) (ip:=10) (mi:=9) (lo:=11) (hi:=nx2) (d:=d) hpr hd hdk (G:=G4) (nx:=nx5) (by omega) ((hG4 _ (by omega)).trans g0) (by omega) ((hG4 _ (by omega)).trans gb) ((hG4 _ (by omega)).trans gQ) ((hG4 _ (by omega)).trans g10) ((hG4 _ (by omega)).trans g9) (hin.frame (Nat.le_refl _) fun o _ ho=>hG4 o (by omega))
     refine BN ?_
     refine R.callB rfl rfl rfl rfl rfl ((hcal _ (by omega)).mono fun v5 G5 nx5 hv=>?_)
     obtain ⟨rfl,hn5,hG5⟩:=hv
     have c5:∀ o,o < nx3->G5 o=G3 o:=fun o ho=>(hG5 o (by omega)).trans (hG4 o ho)
     cases hr:readyR tos done d with
     |false=>
      refine BN ?_
      exact W.skipLop (d+1) hmu4 .auto ⟨by omega,c5,hd,fun e he=>by
       rcases Nat.lt_or_eq_of_le (Nat.le_of_lt_succ he) with h|rfl
       ·exact hno e h
       ·exact hr⟩
     |true=>
      have hdt:d < tos.length:=by rw [hn];exact hd
      have hnx:=next_is hdt hr hno
      have hnd:d∉done:=(ready_iff.1 hr).1
      have hin5:InIs tos 11 nx2 G5 ks vs:=hin.frame (Nat.le_refl _) fun o _ ho=>c5 o (by omega)
      obtain ⟨w,hlk,hrow⟩:=hin5.look hdk
      have hlk':lookIs (some ty3) (some ty30) (mapKV G5 (.map 9)) (natIV d) false w:=by simp only [mapKV,c5 9 (by omega),g9];exact hlk
      have hgl:(grpR tos d).length<=6:=by
       have:=nodup_lt (grp_nodup (tos:=tos) d) (fun k hk=>grp_lt hk)
       omega
      have hg0:0 < (grpR tos d).length:=List.length_pos_of_mem (grp_self hdt)
      have g105:=(c5 10 (by omega)).trans g10
      refine BN ?_
      refine R.cloneN hrow (by omega) rfl rfl (by omega) fun G6 h61 h62=>?_
      have c6:∀ o,o < nx3->nx2<=o\/o < 11->G6 o=G3 o:=fun o ho ho2=>(h62 o (by omega)).elim (fun h=>h.trans (c5 o ho)) fun h=>by omega
      have hl1:out.length+1<=1000:=by omega
      refine BN ?_
      refine R.appOwnV (d':=1) (lo:=nx2+3) (hi:=nx3) (ws:=[.row (nx5+4) (grpR tos d).length]) (ys:=[natsIV (grpR tos d)]) rfl rfl rfl (hout.frame (Nat.le_refl _) fun o h1 h2=>(upd_ne _ _ _ _ (by omega)).trans (c6 o h2 (.inl (by omega)))) rfl (by simp [elems,upd]) (by decide) (by decide) rfl rfl (by simp only [List.length_map,List.length_cons,List.length_nil,most];omega) ⟨by omega,by omega⟩ (fun G' h1 h2=>⟨?_,trivial⟩) rfl fun v' G7 ho7 h71 h72=>?_
      ·refine Rdx.row (G:=G') (e:=3) (sz:=1) (fr:=false) ((h2 _ (by omega) (by omega)).trans ((upd_ne _ _ _ _ (by omega)).trans h61)) (by simp) (All2.imms 0 _ _ _) ⟨by omega,by omega⟩
      ·have c7:∀ o,o < nx2+3->(nx2<=o\/o < 11)->G7 o=G3 o:=fun o ho ho2=>(h71 o ho).trans ((upd_ne _ _ _ _ (by omega)).trans (c6 o (by omega) ho2))
       have hsoft:∀ o,11<=o->o < nx2->G7 o=G5 o\/G7 o=(G5 o).freeze:=fun o h1 h2=>by
        rw [h71 o (by omega),upd_ne _ _ _ _ (by omega)]
        exact (h62 o (by omega)).elim .inl fun h => .inr h.2.2
       have in7:=hin5.soft (Nat.le_refl _) hsoft
       have row7:=hrow.soft (Nat.le_refl _) hsoft
       have g07:=(c7 0 (by omega) (by omega)).trans g0
       have g107:=(c7 10 (by omega) (by omega)).trans g10
       have g97:=(c7 9 (by omega) (by omega)).trans g9
       have gb7:=(c7 _ (by omega) (by omega)).trans gb
       have gQ7:=(c7 _ (by omega) (by omega)).trans gQ
       have hlk7:lookIs (some ty3) (some ty30) (mapKV G7 (.map 9)) (natIV d) false w:=by simp only [mapKV,g97];exact hlk
       have hout7:OwnV 1 44 1 (nx2+3) (nx5+8) ((out++[grpR tos d]).map natsIV) G7 v':=by
        rw [List.map_append]
        exact ho7.frame (by omega) fun _ _ _=>rfl
       have hstep:=hdone.step hdt hnd
       have hord2:(out++[grpR tos d])++orderTo tos (tos.length-(out++[grpR tos d]).length) (done++grpR tos d)=orderR tos:=by
        rw [<-hord,List.append_assoc,List.length_append]
        congr 1
        rw [show tos.length-out.length=(tos.length-(out.length+[grpR tos d].length))+1 by simp only [List.length_cons,List.length_nil];omega,orderTo,hnx]
        rfl
       have hle2:(out++[grpR tos d]).length<=(done++grpR tos d).length:=by rw [List.length_append,List.length_append];simp only [List.length_cons,List.length_nil];omega
       have hmu3:tos.length-(done++grpR tos d).length < tos.length-done.length:=by rw [List.length_append];omega
       have hap:∀ k∈grpR tos d,k∉done:=fun k hk=>hdone.apart hdt hnd hk
       have hgn:=grp_nodup (tos:=tos) d
       generalize grpR tos d=g at *
       clear hlk' hlk hrow hin5 c5 c6 h61 h62 h71 h72 hsoft hcal
       refine BN ?_
       refine R.op0 (O.len (m:=g.length) rfl (row7.len)) rfl ?_
       refine BN ?_
       refine W.loop (X:=Nat) (fun j=>[(1, .ptr 0 0),(5, .ptr 10 0),(11, .ptr (nx2+1+1) 0),(12, .fn (.func 203) [.ptr 0 0, .ptr (nx2+1+1) 0, .ptr 10 0]),(13,v'),(81,w),(82, .imm (.int .i64 g.length)),(83, .imm (.int .i64 j))])
        (fun j nx G=>nx5+8<=nx/\j<=g.length/\G (nx2+1+0)=setObj (done++g.take j)/\∀ o,o≠nx2+1+0->G o=G7 o) (fun j=>g.length-j) 0 .auto ⟨by omega,Nat.zero_le _,by simpa using gQ7,fun _ _=>rfl⟩ ?_
       rintro j nx8 G8 ⟨hnx8,hj,gQ8,hG8⟩
       refine BN ?_
       refine W.cond rfl (fun h5=>?_) (fun h5=>?_)
       ·have hjl:j < g.length:=by have:=of_decide_eq_true h5;omega
        have hmu5:g.length-(j+1) < g.length-j:=by omega
        have hk:=List.getElem?_eq_getElem hjl
        have hnew:(done++g.take j).contains g[j]=false:=by
         rw [List.contains_eq_mem,decide_eq_false_iff_not]
         intro hc
         rcases List.mem_append.1 hc with hc|hc
         ·exact hap _ (List.getElem_mem hjl) hc
         ·obtain ⟨i',hi',he⟩:=List.mem_iff_getElem.1 hc
          rw [List.length_take] at hi'
          rw [List.getElem_take] at he
          have:=(List.getElem_inj hgn).1 he
          omega
        have row8:RowF 11 nx2 G8 w g:=row7.frame (Nat.le_refl _) fun o _ ho=>hG8 o (by omega)
        have gb8:=(hG8 (nx2+1+1) (by omega)).trans gb7
        refine BN ?_
        refine R.natAt row8 hk rfl rfl rfl rfl fun a=>?_
        refine BN ?_
        refine R.opN1 (O.mapNew rfl inferInstance rfl rfl rfl gQ8 rfl (setNew hnew)) ?_
        refine BN ?_
        refine W.skipLop (j+1) hmu5 .auto ⟨by omega,hjl,?_,fun o ho=>(upd_ne _ _ _ _ ho).trans (hG8 o ho)⟩
        rw [upd_same,List.take_add_one,hk,<-List.append_assoc]
        exact (setObj_add _ _).symm
       ·have hge:j=g.length:=by have:=of_decide_eq_false h5;omega
        subst hge
        rw [List.take_length] at gQ8
        refine BN ?_
        refine W.skipLop (done++g,out++[g],v') hmu3 .auto ⟨by omega,(hG8 _ (by omega)).trans g07,(hG8 _ (by omega)).trans g107,(hG8 _ (by omega)).trans g97,in7.frame (Nat.le_refl _) fun o _ ho=>hG8 o (by omega),(hG8 _ (by omega)).trans gb7,gQ8,hout7.frame (by omega) fun o h1 h2=>hG8 o (by omega),hstep,hord2,hle2⟩
    ·have hge:defs.length<=d:=by have:=of_decide_eq_false h4;omega
     exfalso
     have h1:=next_inv hdn
     have hn':tos.length=defs.length:=hn
     rw [hno dn (by omega)] at h1
     exact absurd h1.2.1 (by decide)
   ·have hge:tos.length<=done.length:=by have:=of_decide_eq_false h3;rw [List.length_map] at this;have hn':tos.length=defs.length:=hn;have this:¬ (done.length:Int) < (defs.length:Int):=this;omega
    rw [orderTo_end hdone hge,List.append_nil] at hord
    rw [<-hord]
    refine BN ?_
    exact W.retFin1 rfl (hout.rdx.peek (by decide))
end Go.Abs

/- The program: the groups of definitions, in their order, or the error. -/
open Go Go.Abs
namespace Go.Abs
set_option maxRecDepth 100000
set_option maxHeartbeats 4000000
instance fnis437:FnIs CC 137:=⟨rfl,fun _=>rfl⟩
theorem ret437 {p:Pgm} (hp:p.Fits) (hpr:progR p=true):Ret CC 137 [p.iv] (.tup [.lst ((orderR (tosR p)).map natsIV), .int .i64 0]):=by
 have h29:=ret29 p hp
 have h483:=ret483 hp hpr
 rw [if_pos hpr] at h29
 generalize orderR (tosR p)=L at *
 obtain ⟨srcs,defs⟩:=p
 have bz:((0:Int) != 0)=false:=rfl
 refine Ret.of (fn:=Go.Proofs.Tryz.f137) (by kernel_rfl) rfl rfl ?_
 refine BB ?_
 exact W.retFin2 rfl rfl ⟨[],rfl⟩
end Go.Abs
