/- Without a definition whose expression stands in its place, the others depend on the same. -/
import Derived.Test.YtbdoijpclmhbaaaGreatLw12
open Go Go.Abs
namespace Go.Abs
set_option maxRecDepth 100000
theorem Lg.Le.thru0 (a:Lg):(a.thru false 0 0).Le a:=by
 obtain ⟨ao,ae,ab,aa⟩:=a
 simp only [Lg.thru]
 cases ao<;>simp<;>constructor<;>simp<;>cases ae<;>simp
theorem Lg.Le.thru1 (a:Lg):a.Le (a.thru false 0 0):=by
 obtain ⟨ao,ae,ab,aa⟩:=a
 simp only [Lg.thru]
 cases ao<;>simp<;>constructor<;>simp<;>cases ae<;>simp
theorem Lg.Le.ring1 (a:Lg) (r:Bool):a.Le (ringL r a):=by
 obtain ⟨ao,ae,ab,aa⟩:=a
 unfold ringL
 cases r
 ·exact .refl _
 ·simp only [Lg.thru,if_true]
  cases ao<;>simp<;>constructor<;>simp
theorem Lg.Le.ring2 {a b:Lg} {r r2:Bool} (hr:r=true->r2=true) (h:a.Le b):(ringL r a).Le (ringL r2 b):=by
 cases r with
 |false=>exact Lg.Le.trans h (.ring1 b r2)
 |true=>rw [hr rfl];exact h.ring true
theorem ring_full {a:Lg} (h:a.full=true) (r:Bool):(ringL r a).Le a:=by
 unfold Lg.full at h
 rw [Bool.and_eq_true] at h
 obtain ⟨ao,ae,ab,aa⟩:=a
 simp only at h
 obtain ⟨rfl,rfl⟩:=h
 unfold ringL
 cases r
 ·exact .refl _
 ·simp only [Lg.thru,if_true]
  constructor<;>simp
theorem ring_on {a:Lg} {r:Bool}:(ringL r a).on=a.on:=by
 unfold ringL
 cases r
 ·rfl
 ·exact Lg.thru_on
theorem ring_ever {a:Lg} (h:a.on=true):(ringL true a).full=true:=by
 unfold ringL Lg.thru Lg.full
 rw [if_pos rfl,if_pos h];simp
theorem reach_first {tos:List (List Nat)} {i j:Nat} (h:Reach tos i j):∃ b∈tos.getD i [],b=j\/Reach tos b j:=by
 induction h with
 |one h=>exact ⟨_,h, .inl rfl⟩
 |more _ hj ih=>
  obtain ⟨b,hb,h2⟩:=ih
  refine ⟨b,hb, .inr ?_⟩
  rcases h2 with rfl|h2
  ·exact .one hj
  ·exact .more h2 hj
noncomputable def colR (p:Pgm) (s e:Nat):Lg:=colD (lagsR p) s e
theorem colR_eq {p:Pgm} (hp:progR p=true) {s d:Nat} (hs:s < p.srcs.length) (hd:d < p.defs.length):colR p s d=ringL (reachB (tosR p) d d) (expG p.srcs (nmsP p) (colR p s) s (expAt p d)):=lags_eq hp hd s hs
theorem step_on {p:Pgm} (hp:progR p=true) {s i k:Nat} (hs:s < p.srcs.length) (hi:i < p.defs.length) (hk:k∈(tosR p).getD i []) (h:(colR p s k).on=true):(colR p s i).on=true:=by
 obtain ⟨y,hy,ho,rfl⟩:=(step_iff hp hi).1 hk
 rw [colR_eq hp hs hi,ring_on,expG_on _ _ _ _ _ (leafy_at hp hi),List.any_eq_true]
 refine ⟨y,hy,?_⟩
 unfold onE
 rw [h]
 rcases ho with ho|ho<;>simp [ho]
theorem reach_on {p:Pgm} (hp:progR p=true) {s i k:Nat} (hs:s < p.srcs.length) (hi:i < p.defs.length) (hk:Reach (tosR p) i k):(colR p s k).on=true->(colR p s i).on=true:=by
 induction hk with
 |one h=>exact step_on hp hs hi h
 |more hm hj ih=>exact fun h=>ih (step_on hp hs (reach_lt hp hi hm) hj h)
section
variable {p:Pgm} {d:Nat} {x:Dfn}
theorem InlIs.free (I:InlIs p d x) {e:Nat} (he:e < p.defs.length) (hed:e≠d) (hd:d∈(tosR p).getD e []):∀ z∈allE x.exp,isRef z->idxN (nmsP p) z.name≠d:=fun z hz ho hc=>by
 have hzd:z∈allE (expAt p d):=by rw [I.expd];exact hz
 have h1:=(I.ref_d I.lt hzd ho).1 hc
 obtain ⟨y,hy,hoy,hyd⟩:=(step_iff I.hp he).1 hd
 have hj:=I.dn he hed
 have hzq:z∈allE (expAt (inlP p d x) (dnN d e)):=by
  rw [I.exp hj,up_dn hed]
  exact put_rep _ (leafy_at I.hp he) y hy ((I.ref_d he hy hoy).1 hyd) z hz
 have h2:=ref_name I.hq hj hzq ho
 rw [I.names] at h2
 obtain ⟨i,hi,hie⟩:=List.mem_iff_getElem.1 h2
 have h3:((nmsP p).eraseIdx d)[i]? = some z.name:=by rw [List.getElem?_eq_getElem hi,hie]
 rw [erase_up] at h3
 exact up_ne d i ((idxN_at (nms_nodup I.hp) h3).symm.trans hc)
theorem InlIs.above_q (I:InlIs p d x):Above (inlP p d x) (fun _=>True) (fun s j=>colR p s (upN d j)) where
 refs:=fun _ _ _ _ _ _=>trivial
 le:=fun s hs j hj _=>by
  have hs':s < p.srcs.length:=hs
  have hu:=I.up hj
  have h0:=colR_eq I.hp hs' hu
  rw [h0]
  refine Lg.Le.ring2 (fun hr=>reachB_iff.2 (I.reach_from hj (reachB_iff.1 hr))) ?_
  rw [I.exp hj]
  refine expG_put Rel.le p.srcs (nmsP p) (nmsP (inlP p d x)) (colR p s) (fun j=>colR p s (upN d j)) s x.name x.exp (expAt p (upN d j)) (fun y hy ho=>?_) _ (fun y hy=>hy) (leafy_at I.hp hu) fun y hy ho=>?_
  ·have hst:d∈(tosR p).getD (upN d j) []:=(step_iff I.hp hu).2 ⟨y,hy, .inl ho.1,(I.ref_d hu hy (.inl ho.1)).2 ho⟩
   have hfree:=I.free hu (up_ne d j) hst
   rw [I.nmd,colR_eq I.hp hs' I.lt,I.expd,expG_names p.srcs (nmsP p) (nmsP (inlP p d x)) (vp:=colR p s) (vq:=fun j=>colR p s (upN d j)) s x.exp fun z hz hoz=>by
    rw [I.ref_q I.lt (by rw [I.expd];exact hz) hoz (hfree z hz hoz),up_dn (hfree z hz hoz)]]
   exact Lg.Le.trans (.ring1 _ _) (.thru1 _)
  ·have hor:isRef y:=by
    rcases ho with ho|ho
    ·exact .inl ho.1
    ·exact .inr ho
   have hne:idxN (nmsP p) y.name≠d:=fun hc=>by
    have h1:=(I.ref_d hu hy hor).1 hc
    rcases ho with ho|ho
    ·exact ho.2 h1.2
    ·have:=h1.1;omega
   rw [I.ref_q hu hy hor hne,up_dn hne]
noncomputable def inlU (p:Pgm) (d:Nat) (x:Dfn) (s e:Nat):Lg:=if e=d then expG p.srcs (nmsP (inlP p d x)) (colR (inlP p d x) s) s x.exp else colR (inlP p d x) s (dnN d e)
theorem InlIs.above_p (I:InlIs p d x):Above p (fun e=>e≠d\/∃ f,f < p.defs.length/\f≠d/\d∈(tosR p).getD f []) (inlU p d x) where
 refs:=fun e he hS y hy ho=>by
  by_cases hc:idxN (p.defs.map Dfn.name) y.name=d
  ·by_cases hed:e=d
   ·rcases hS with hS|hS
    ·exact absurd hed hS
    ·exact .inr hS
   ·exact .inr ⟨e,he,hed,(step_iff I.hp he).2 ⟨y,hy,ho,hc⟩⟩
  ·exact .inl hc
 le:=fun s hs e he hS=>by
  have hs':s < (inlP p d x).srcs.length:=hs
  by_cases hed:e=d
  ·subst hed
   obtain ⟨f,hf,hfd,hfs⟩:∃ f,f < p.defs.length/\f≠e/\e∈(tosR p).getD f []:=by
    rcases hS with hS|hS
    ·exact absurd rfl hS
    ·exact hS
   have hfree:=I.free hf hfd hfs
   have hE:expG p.srcs (nmsP p) (inlU p e x s) s (expAt p e)=inlU p e x s e:=by
    rw [I.expd]
    unfold inlU
    rw [if_pos rfl]
    refine (expG_names p.srcs (nmsP p) (nmsP (inlP p e x)) s x.exp fun z hz hoz=>?_).symm
    rw [if_neg (hfree z hz hoz),I.ref_q I.lt (by rw [I.expd];exact hz) hoz (hfree z hz hoz)]
   change (ringL _ (expG p.srcs (nmsP p) (inlU p e x s) s (expAt p e))).Le _
   rw [hE]
   cases hr:reachB (tosR p) e e with
   |false=>exact .refl _
   |true=>
    obtain ⟨b,hb,hb2⟩:=reach_first (reachB_iff.1 hr)
    obtain ⟨z,hz,hoz,hzb⟩:=(step_iff I.hp I.lt).1 hb
    rw [I.expd] at hz
    have hbd:b≠e:=by rw [<-hzb];exact hfree z hz hoz
    have hbl:=step_lt I.hp I.lt hb
    obtain ⟨a,hal,had,h1,h2⟩:=(I.reach hbl hbd (hb2.resolve_left hbd)).2 rfl
    have hst:=I.step2 hal had h2 hb hbd
    have hbb:Reach (tosR (inlP p e x)) (dnN e b) (dnN e b):=by
     rcases h1 with rfl|h1
     ·exact .one hst
     ·exact .more h1 hst
    cases hon:(inlU p e x s e).on with
    |false=>
     refine ⟨fun h=>?_,fun h=>?_,fun h=>?_,fun h=>?_⟩<;>(rw [ring_on,hon] at h;cases h)
    |true=>
     refine ring_full ?_ _
     have hjb:=I.dn hbl hbd
     have hja:=I.dn hal had
     have hona:(colR (inlP p e x) s (dnN e a)).on=true:=by
      rw [colR_eq I.hq hs' hja,ring_on,expG_on _ _ _ _ _ (leafy_at I.hq hja),List.any_eq_true]
      unfold inlU at hon
      rw [if_pos rfl,expG_on _ _ _ _ _ (by have:=leafy_at I.hp I.lt;rwa [I.expd] at this),List.any_eq_true] at hon
      obtain ⟨y,hy,hyo⟩:=hon
      refine ⟨y,?_,hyo⟩
      obtain ⟨t,ht,hot,htd⟩:=(step_iff I.hp hal).1 h2
      rw [I.exp hja,up_dn had]
      exact put_rep _ (leafy_at I.hp hal) t ht ((I.ref_d hal ht hot).1 htd) y hy
     have honb:(colR (inlP p e x) s (dnN e b)).on=true:=by
      rcases h1 with h1|h1
      ·rw [<-h1];exact hona
      ·exact reach_on I.hq hs' hjb h1 hona
     have hfull:(colR (inlP p e x) s (dnN e b)).full=true:=by
      have h3:=colR_eq I.hq hs' hjb
      rw [reachB_iff.2 hbb] at h3
      rw [h3] at honb ⊢
      exact ring_ever (by rwa [ring_on] at honb)
     unfold inlU
     rw [if_pos rfl]
     refine expG_full _ _ _ _ _ (by have:=leafy_at I.hp I.lt;rwa [I.expd] at this) z hz hoz ?_
     rw [I.ref_q I.lt (by rw [I.expd];exact hz) hoz (hfree z hz hoz),hzb]
     exact hfull
  ·have hj:=I.dn he hed
   have h0:=colR_eq I.hq hs' hj
   have hu:inlU p d x s e=colR (inlP p d x) s (dnN d e):=by unfold inlU;rw [if_neg hed]
   rw [hu,h0]
   refine Lg.Le.ring2 (fun hr=>reachB_iff.2 ((I.reach he hed (reachB_iff.1 hr)).1 hed)) ?_
   rw [I.exp hj,up_dn hed]
   refine expG_put Rel.ge p.srcs (nmsP p) (nmsP (inlP p d x)) (inlU p d x s) (colR (inlP p d x) s) s x.name x.exp (expAt p e) (fun y hy ho=>?_) _ (fun y hy=>hy) (leafy_at I.hp he) fun y hy ho=>?_
   ·rw [I.nmd]
    have:inlU p d x s d=expG p.srcs (nmsP (inlP p d x)) (colR (inlP p d x) s) s x.exp:=by unfold inlU;rw [if_pos rfl]
    rw [this]
    exact .thru0 _
   ·have hor:isRef y:=by
     rcases ho with ho|ho
     ·exact .inl ho.1
     ·exact .inr ho
    have hne:idxN (nmsP p) y.name≠d:=fun hc=>by
     have h1:=(I.ref_d he hy hor).1 hc
     rcases ho with ho|ho
     ·exact ho.2 h1.2
     ·have:=h1.1;omega
    rw [I.ref_q he hy hor hne]
    unfold inlU
    rw [if_neg hne]
theorem Lg.ok_wide {p:Pgm} (hp:progR p=true) (s e:Nat):(colR p s e).Ok:=(lagsR_far hp).1.col s e
theorem InlIs.same (I:InlIs p d x) {s j:Nat} (hs:s < p.srcs.length):colR (inlP p d x) s j=colR p s (upN d j):=by
 refine Lg.Le.anti (Lg.ok_wide I.hq s j) (Lg.ok_wide I.hp s _) (lags_least I.hq I.above_q s hs j trivial) ?_
 have h:=lags_least I.hp I.above_p s hs (upN d j) (.inl (up_ne d j))
 unfold inlU at h
 rw [if_neg (up_ne d j),dn_up] at h
 exact h
theorem colD_erase {L:List (List Lg)} {d s j:Nat}:colD (L.eraseIdx d) s j=colD L s (upN d j):=by
 unfold colD
 rw [List.getD_eq_getElem?_getD (l:=L.eraseIdx d),erase_up,<-List.getD_eq_getElem?_getD]
theorem lags_inl (I:InlIs p d x):lagsR (inlP p d x)=(lagsR p).eraseIdx d:=by
 have hw:=(lagsR_far I.hp).1
 have hwq:=(lagsR_far I.hq).1
 have hlen:((lagsR p).eraseIdx d).length=(inlP p d x).defs.length:=by
  rw [List.length_eraseIdx_of_lt (by rw [hw.len];exact I.lt),hw.len]
  have:=I.len
  omega
 refine Wide.ext hwq ⟨hlen,fun r hr=>hw.row r (List.mem_of_mem_eraseIdx hr),fun r hr a ha=>hw.ok r (List.mem_of_mem_eraseIdx hr) a ha⟩ fun s hs j=>?_
 by_cases hj:j < (inlP p d x).defs.length
 ·rw [colD_erase]
  exact I.same hs
 ·have h1:∀ L:List (List Lg),L.length<=j->colD L s j=Lg.z:=fun L hL=>by
   unfold colD
   rw [List.getD_eq_getElem?_getD (l:=L),List.getElem?_eq_none hL];rfl
  rw [h1 _ (by rw [hwq.len];omega),h1 _ (by rw [hlen];omega)]
end
end Go.Abs

/- Which programs are alike. -/
open Go Go.Abs
namespace Go.Abs
set_option maxRecDepth 100000
set_option maxHeartbeats 4000000
theorem canonR_ok {p:Pgm} (h:progR p=true):canonR p=(canonP p,0):=by unfold canonR;rw [h];rfl
end Go.Abs

/- A program under other names is formed, and depends in the same way. -/
open Go Go.Abs
namespace Go.Abs
set_option maxRecDepth 100000
section
variable {S:List Str} {to:Str->Str}
theorem ren_beq (inj:∀ x∈S,∀ y∈S,to x=to y->x=y) {s a:Str} (hs:s∈S) (ha:a∈S):(to s==to a)=(s==a):=by
 by_cases h:s=a
 ·rw [h,beq_self_eq_true,beq_self_eq_true]
 ·rw [beq_eq_false_iff_ne.2 h,beq_eq_false_iff_ne.2 fun h2=>h (inj s hs a ha h2)]
theorem ren_cont (inj:∀ x∈S,∀ y∈S,to x=to y->x=y) {s:Str} (hs:s∈S):∀ {l:List Str},(∀ y∈l,y∈S)->(l.map to).contains (to s)=l.contains s
 |[],_=>rfl
 |a::l,hl=>by
  rw [List.map_cons,List.contains_cons,List.contains_cons,ren_beq inj hs (hl a (List.mem_cons_self ..)),ren_cont inj hs fun y hy=>hl y (List.mem_cons_of_mem _ hy)]
theorem ren_find (inj:∀ x∈S,∀ y∈S,to x=to y->x=y) {s:Str} (hs:s∈S):∀ {l:List Str},(∀ y∈l,y∈S)->((l.map to).findIdx? fun x=>to s==x)=l.findIdx? fun x=>s==x
 |[],_=>rfl
 |a::l,hl=>by
  rw [List.map_cons,List.findIdx?_cons,List.findIdx?_cons,ren_beq inj hs (hl a (List.mem_cons_self ..)),ren_find inj hs fun y hy=>hl y (List.mem_cons_of_mem _ hy)]
theorem ren_idx (inj:∀ x∈S,∀ y∈S,to x=to y->x=y) {s:Str} (hs:s∈S) {l:List Str} (hl:∀ y∈l,y∈S):idxN (l.map to) (to s)=idxN l s:=by
 unfold idxN;rw [ren_find inj hs hl]
theorem ren_from (inj:∀ x∈S,∀ y∈S,to x=to y->x=y) {s:Str} (hs:s∈S):∀ {l:List Str} (i:Nat),(∀ y∈l,y∈S)->idxFrom (l.map to) (to s) i=idxFrom l s i
 |[],_,_=>rfl
 |a::l,i,hl=>by
  rw [List.map_cons,idxFrom,idxFrom,ren_beq inj (hl a (List.mem_cons_self ..)) hs,ren_from inj hs (i+1) fun y hy=>hl y (List.mem_cons_of_mem _ hy)]
theorem renL_len (l:List Exp):(renL to l).length=l.length:=by rw [renL_map,List.length_map]
mutual
theorem allE_ren (to:Str->Str):∀ e,allE (renE to e)=(allE e).map (renE to)
 | .mk op name n fold calcs kids=>by rw [renE,allE,allE,List.map_cons,renE,allEs_ren to kids]
theorem allEs_ren (to:Str->Str):∀ l,allEs (renL to l)=(allEs l).map (renE to)
 |[]=>by rw [renL,allEs];rfl
 |x::r=>by rw [renL,allEs,allEs,List.map_append,allE_ren to x,allEs_ren to r]
end
theorem headIs_ren (inj:∀ x∈S,∀ y∈S,to x=to y->x=y) (nil:to []=[]) (h0:[]∈S) {srcs defs:List Str} (hs:∀ y∈srcs,y∈S) (hd:∀ y∈defs,y∈S) (ahead:Nat) (s:Shp) (op:Int) {name:Str} (hn:name∈S) (n fold:Int) (nc nk:Nat) :
  headIs (srcs.map to) (defs.map to) ahead s op (to name) n fold nc nk=headIs srcs defs ahead s op name n fold nc nk:=by
 have h1:(to name==[])=(name==[]):=by
  have:=ren_beq inj hn h0
  rwa [nil] at this
 have h2:nameIs (srcs.map to) (defs.map to) ahead op (to name)=nameIs srcs defs ahead op name:=by
  unfold nameIs
  rw [ren_cont inj hn hs,ren_cont inj hn hd,<-List.map_take,ren_cont inj hn fun y hy=>hd y (List.mem_of_mem_take hy)]
 unfold headIs
 rw [h1,h2]
mutual
theorem expR_ren (inj:∀ x∈S,∀ y∈S,to x=to y->x=y) (nil:to []=[]) (h0:[]∈S) {srcs defs:List Str} (hs:∀ y∈srcs,y∈S) (hd:∀ y∈defs,y∈S) (ahead:Nat):∀ (e:Exp) (depth left:Int),(∀ x∈allE e,x.name∈S) ->
  expR (srcs.map to) (defs.map to) ahead (renE to e) depth left=expR srcs defs ahead e depth left
 | .mk op name n fold calcs kids,depth,left,h=>by
  have hn:name∈S:=h (.mk op name n fold calcs kids) (by rw [allE];exact List.mem_cons_self ..)
  rw [renE,expR,expR]
  cases shapeR op with
  |none=>rfl
  |some s=>
   dsimp only
   rw [renL_len,headIs_ren inj nil h0 hs hd ahead s op hn,expRs_ren inj nil h0 hs hd ahead kids _ _ _ fun x hx=>h x (by rw [allE];exact List.mem_cons_of_mem _ hx)]
theorem expRs_ren (inj:∀ x∈S,∀ y∈S,to x=to y->x=y) (nil:to []=[]) (h0:[]∈S) {srcs defs:List Str} (hs:∀ y∈srcs,y∈S) (hd:∀ y∈defs,y∈S) (ahead:Nat):∀ (l:List Exp) (depth left n:Int),(∀ x∈allEs l,x.name∈S) ->
  expRs (srcs.map to) (defs.map to) ahead (renL to l) depth left n=expRs srcs defs ahead l depth left n
 |[],_,_,_,_=>by rw [renL,expRs,expRs]
 |k::r,depth,left,n,h=>by
  have h1:∀ x∈allE k,x.name∈S:=fun x hx=>h x (by rw [allEs];exact List.mem_append_left _ hx)
  have h2:∀ x∈allEs r,x.name∈S:=fun x hx=>h x (by rw [allEs];exact List.mem_append_right _ hx)
  rw [renL,expRs,expRs,expR_ren inj nil h0 hs hd ahead k _ _ h1,expRs_ren inj nil h0 hs hd ahead r _ _ _ h2]
end
theorem countL_ren (inj:∀ x∈S,∀ y∈S,to x=to y->x=y) (nil:to []=[]) (h0:[]∈S) {srcs defs:List Str} (hs:∀ y∈srcs,y∈S) (hd:∀ y∈defs,y∈S):∀ (ds:List Dfn) (i:Nat) (n:Int),(∀ d∈ds,∀ x∈allE d.exp,x.name∈S) ->
  countL (srcs.map to) (defs.map to) (ds.map (renD to)) i n=countL srcs defs ds i n
 |[],_,_,_=>rfl
 |d::r,i,n,h=>by
  have h1:=h d (List.mem_cons_self ..)
  rw [List.map_cons,countL,countL,show (renD to d).exp=renE to d.exp from rfl,expR_ren inj nil h0 hs hd i d.exp _ _ h1,countL_ren inj nil h0 hs hd r _ _ fun x hx=>h x (List.mem_cons_of_mem _ hx)]
mutual
theorem expG_ren (inj:∀ x∈S,∀ y∈S,to x=to y->x=y) {srcs names:List Str} (hs:∀ y∈srcs,y∈S) (hd:∀ y∈names,y∈S) (v:Nat->Lg) (s:Nat):∀ e,(∀ x∈allE e,x.name∈S)->expG (srcs.map to) (names.map to) v s (renE to e)=expG srcs names v s e
 | .mk op name n fold calcs kids,h=>by
  have hn:name∈S:=h (.mk op name n fold calcs kids) (by rw [allE];exact List.mem_cons_self ..)
  rw [renE,expG,expG,ren_idx inj hn hs,ren_idx inj hn hd,kidsG_ren inj hs hd v s op n kids 0 _ fun x hx=>h x (by rw [allE];exact List.mem_cons_of_mem _ hx)]
theorem kidsG_ren (inj:∀ x∈S,∀ y∈S,to x=to y->x=y) {srcs names:List Str} (hs:∀ y∈srcs,y∈S) (hd:∀ y∈names,y∈S) (v:Nat->Lg) (s:Nat) (op n:Int):∀ (l:List Exp) (i:Nat) (o:Lg),(∀ x∈allEs l,x.name∈S)->kidsG (srcs.map to) (names.map to) v s op n (renL to l) i o=kidsG srcs names v s op n l i o
 |[],_,_,_=>by rw [renL,kidsG,kidsG]
 |k::r,i,o,h=>by
  have h1:∀ x∈allE k,x.name∈S:=fun x hx=>h x (by rw [allEs];exact List.mem_append_left _ hx)
  have h2:∀ x∈allEs r,x.name∈S:=fun x hx=>h x (by rw [allEs];exact List.mem_append_right _ hx)
  rw [renL,kidsG,kidsG,expG_ren inj hs hd v s k h1,kidsG_ren inj hs hd v s op n r _ _ h2]
end
end
theorem diff_of {l:List Str} (hn:l.Nodup) (ho:∀ s∈l,nameOk s=true):diff l=true:=by
 unfold diff
 refine List.all_eq_true.2 fun i hi=>?_
 have hi:=List.mem_range.1 hi
 have hg:l.getD i []=l[i]:=by rw [List.getD_eq_getElem?_getD,List.getElem?_eq_getElem hi];rfl
 rw [hg,ho _ (List.getElem_mem hi),Bool.true_and,Bool.not_eq_true',Bool.eq_false_iff]
 intro hc
 have hm:l[i]∈l.take i:=by simpa using hc
 obtain ⟨j,hj,he⟩:=List.mem_iff_getElem.1 hm
 rw [List.getElem_take] at he
 rw [List.length_take] at hj
 exact List.pairwise_iff_getElem.1 hn j i (by omega) hi (by omega) he
structure RenIs (p q:Pgm) (to:Str->Str):Prop where
 hp:progR p=true
 srcs:q.srcs=p.srcs.map to
 defs:q.defs=p.defs.map (renD to)
 nil:to []=[]
 inj:∀ x∈[]::oldN p,∀ y∈[]::oldN p,to x=to y->x=y
 ok:∀ s∈oldN p,nameOk (to s)=true
section
variable {p q:Pgm} {to:Str->Str}
theorem RenIs.sin (_I:RenIs p q to):∀ y∈p.srcs,y∈[]::oldN p:=fun y hy=>List.mem_cons_of_mem _ (List.mem_append_left _ hy)
theorem RenIs.din (_I:RenIs p q to):∀ y∈nmsP p,y∈[]::oldN p:=fun y hy=>List.mem_cons_of_mem _ (List.mem_append_right _ hy)
theorem RenIs.ein (I:RenIs p q to):∀ d∈p.defs,∀ x∈allE d.exp,x.name∈[]::oldN p:=fun d hd x hx=>by
 obtain ⟨i,hi⟩:=List.mem_iff_getElem?.1 hd
 rcases ((progR_parts I.hp).2.2.2.2.2 i d hi x hx).named with h|h
 ·rw [h];exact List.mem_cons_self ..
 ·exact List.mem_cons_of_mem _ h
theorem RenIs.len (I:RenIs p q to):q.srcs.length=p.srcs.length/\q.defs.length=p.defs.length:=by rw [I.srcs,I.defs,List.length_map,List.length_map];exact ⟨rfl,rfl⟩
theorem RenIs.nms (I:RenIs p q to):nmsP q=(nmsP p).map to:=by
 unfold nmsP
 rw [I.defs,List.map_map,List.map_map];rfl
theorem RenIs.dn (I:RenIs p q to):defNames q=(defNames p).map to:=by
 unfold defNames
 rw [I.defs,<-List.map_take,List.map_map,List.map_map];rfl
theorem RenIs.dnp (I:RenIs p q to):defNames p=nmsP p:=(countR_parts (progR_count I.hp)).2.2.1
theorem RenIs.count (I:RenIs p q to):countR q=countR p:=by
 have hc:=countR_parts (progR_count I.hp)
 have hd:diff (q.srcs++defNames q)=true:=by
  have ho:p.srcs++defNames p=oldN p:=by rw [I.dnp];rfl
  rw [I.srcs,I.dn,<-List.map_append,ho]
  have hn:(oldN p).Nodup:=by rw [<-ho];exact diff_nodup hc.2.1
  refine diff_of (List.pairwise_map.2 (List.Pairwise.imp_of_mem (fun {a b} ha hb hne he=>hne (I.inj a (List.mem_cons_of_mem _ ha) b (List.mem_cons_of_mem _ hb) he)) hn)) fun s hs=>?_
  obtain ⟨y,hy,rfl⟩:=List.mem_map.1 hs
  exact I.ok y hy
 unfold countR
 rw [hd,hc.2.1,I.len.1,I.len.2,I.dn,I.srcs,I.defs,I.dnp,countL_ren I.inj I.nil (List.mem_cons_self ..) I.sin I.din p.defs 0 0 I.ein]
theorem RenIs.steps (I:RenIs p q to):stepsR q=stepsR p:=by
 unfold stepsR
 rw [I.defs,List.map_map]
 refine List.map_congr_left fun d hd=>?_
 show stepsL (defNames q) (allE (renE to d.exp))=_
 unfold stepsL
 rw [allE_ren,List.filter_map,List.map_map,I.dn]
 have hf:namesDef ∘ renE to=namesDef:=by
  funext x;cases x;rfl
 rw [hf]
 refine List.map_congr_left fun x hx=>?_
 have hx:=(List.mem_filter.1 hx).1
 have hn:=I.ein d hd x hx
 show idxFrom _ (renE to x).name 0=_
 have:(renE to x).name=to x.name:=by cases x;rfl
 rw [this]
 exact ren_from I.inj hn 0 (by rw [I.dnp];exact I.din)
theorem RenIs.tos (I:RenIs p q to):tosR q=tosR p:=by unfold tosR;rw [I.steps]
theorem RenIs.fore (I:RenIs p q to) (k:Nat):foreAt q.defs k=foreAt p.defs k:=by
 unfold foreAt
 rw [I.defs,List.getElem?_map]
 cases p.defs[k]? with
 |none=>rfl
 |some d=>
  show aheadE (renE to d.exp)=aheadE d.exp
  unfold aheadE
  rw [allE_ren,List.any_map]
  congr 1
  funext x;cases x;rfl
theorem RenIs.prog (I:RenIs p q to):progR q=true:=by
 have h:=I.hp
 unfold progR at h ⊢
 have hr:ringsOf q=ringsOf p:=by unfold ringsOf;rw [I.tos]
 rw [I.count,hr]
 simp only [I.fore]
 exact h
theorem RenIs.exp (I:RenIs p q to) (d:Nat):expAt q d=renE to (expAt p d):=by
 unfold expAt
 rw [I.defs,List.getElem?_map]
 cases p.defs[d]? with
 |none=>rw [renE,renL,I.nil];rfl
 |some x=>rfl
theorem RenIs.enames (I:RenIs p q to) (d:Nat):∀ x∈allE (expAt p d),x.name∈[]::oldN p:=fun x hx=>by
 unfold expAt at hx
 cases hd:p.defs[d]? with
 |none=>
  rw [hd] at hx
  simp only [allE,allEs,List.mem_cons,List.not_mem_nil,or_false] at hx
  rw [hx];exact List.mem_cons_self ..
 |some y=>
  rw [hd] at hx
  exact I.ein y (List.mem_of_getElem? hd) x hx
theorem RenIs.row (I:RenIs p q to) (ring:Bool) (D:List (List Lg)) (d:Nat):rowL q ring D d=rowL p ring D d:=by
 unfold rowL allL
 rw [I.len.1,I.exp]
 congr 1
 refine List.map_congr_left fun s _=>?_
 have h1:q.defs.map Dfn.name=(nmsP p).map to:=I.nms
 rw [h1,I.srcs]
 exact expG_ren I.inj I.sin I.din _ s _ (I.enames d)
theorem RenIs.rnds (I:RenIs p q to) (ring:Bool) (g:List Nat) (D:List (List Lg)):∀ n,rndsL q ring g n D=rndsL p ring g n D
 |0=>rfl
 |n+1=>by
  have hs:setL q ring=setL p ring:=by
   funext D d;unfold setL;rw [I.row]
  rw [rndsL,rndsL,I.rnds ring g D n]
  unfold rndL
  rw [hs]
theorem RenIs.lags (I:RenIs p q to):lagsR q=lagsR p:=by
 unfold lagsR lagsTo zeroL
 rw [I.tos,I.len.1,I.len.2]
 congr 1
 funext D g
 exact I.rnds _ g D _
end
theorem fresh_is {l:List Str} (h:l.length<=1048576):nameOk (freshOf l)=true/\freshOf l∉l:=by
 unfold freshOf
 rw [dif_pos h]
 have:=(Classical.choose_spec (exists_first l h)).good
 unfold good at this
 rw [Bool.and_eq_true] at this
 exact ⟨this.1,by simpa using this.2⟩
theorem canonP_is {p:Pgm} (h:progR p=true):RenIs p (canonP p) (toC p):=by
 have hp:=progR_parts h
 have hlen:(oldN p).length<=10:=by rw [oldN_len];omega
 have hat:∀ s∈oldN p,∃ i,i < (oldN p).length/\(oldN p)[i]? = some s/\toC p s=freshOf (canonL i):=fun s hs=>by
  obtain ⟨i,hi⟩:=List.mem_iff_getElem?.1 hs
  exact ⟨i,(List.getElem?_eq_some_iff.1 hi).1,hi,toC_at hp.1 hi⟩
 have hf:∀ {i:Nat},i < (oldN p).length->nameOk (freshOf (canonL i))=true/\freshOf (canonL i)∉canonL i:=fun {i} hi=>fresh_is (by rw [canonL_len];omega)
 have hne:∀ {i j:Nat},j < (oldN p).length->i < j->freshOf (canonL i)≠freshOf (canonL j):=fun {i j} hj hij he=>by
  refine (hf hj).2 ?_
  rw [<-he]
  exact List.mem_of_getElem? (canonL_at hij)
 have hok:∀ s∈oldN p,nameOk (toC p s)=true:=fun s hs=>by
  obtain ⟨i,hi,_,he⟩:=hat s hs
  rw [he]
  exact (hf hi).1
 have hnil:toC p []=[]:=by
  unfold toC toR
  rw [if_neg]
  intro hc
  have:[]∈oldN p:=by simpa using hc
  exact nameOk_ne (hp.2.2.2.2.1 _ this) rfl
 refine ⟨h,?_,rfl,hnil,?_,hok⟩
 ·refine List.ext_getElem? fun i=>?_
  show (canonL p.srcs.length)[i]? = _
  rw [List.getElem?_map]
  by_cases hi:i < p.srcs.length
  ·obtain ⟨s,hs⟩:=at_lt hi
   have hs':(oldN p)[i]? = some s:=by unfold oldN;rw [List.getElem?_append_left hi];exact hs
   rw [canonL_at hi,hs,Option.map_some,toC_at hp.1 hs']
  ·rw [List.getElem?_eq_none (by omega:p.srcs.length<=i),List.getElem?_eq_none (by rw [canonL_len];omega)];rfl
 ·intro x hx y hy he
  rcases List.mem_cons.1 hx with rfl|hx
  ·rcases List.mem_cons.1 hy with rfl|hy
   ·rfl
   ·rw [hnil] at he
    exact absurd he.symm (nameOk_ne (hok y hy))
  ·rcases List.mem_cons.1 hy with rfl|hy
   ·rw [hnil] at he
    exact absurd he (nameOk_ne (hok x hx))
   ·obtain ⟨i,hi,h1,h2⟩:=hat x hx
    obtain ⟨j,hj,h3,h4⟩:=hat y hy
    rw [h2,h4] at he
    rcases Nat.lt_trichotomy i j with hij|rfl|hij
    ·exact absurd he (hne hj hij)
    ·rw [h1] at h3;exact Option.some.inj h3
    ·exact absurd he.symm (hne hi hij)
theorem canon_same {p:Pgm} (h:progR p=true):progR (canonP p)=true/\lagsR (canonP p)=lagsR p:=⟨(canonP_is h).prog,(canonP_is h).lags⟩
mutual
theorem renE_fits {to:Str->Str}:∀ {e:Exp},e.Fits->(∀ x∈allE e,(to x.name).length<=maxI)->(renE to e).Fits
 | .mk op name n fold calcs kids,h,hl=>by
  cases h with
  |mk _ _ _ _ _ _ hn hw hc hk hcs hks=>
   rw [renE]
   refine .mk _ _ _ _ _ _ (hl (.mk op name n fold calcs kids) (by rw [allE];exact List.mem_cons_self ..)) hw hc (by rw [renL_len];exact hk) hcs ?_
   exact renL_fits hks fun x hx=>hl x (by rw [allE];exact List.mem_cons_of_mem _ hx)
theorem renL_fits {to:Str->Str}:∀ {l:List Exp},(∀ k∈l,Exp.Fits k)->(∀ x∈allEs l,(to x.name).length<=maxI)->∀ k∈renL to l,Exp.Fits k
 |[],_,_,k,hk=>by rw [renL] at hk;cases hk
 |a::r,h,hl,k,hk=>by
  rw [renL] at hk
  rcases List.mem_cons.1 hk with rfl|hk
  ·exact renE_fits (h a (List.mem_cons_self ..)) fun x hx=>hl x (by rw [allEs];exact List.mem_append_left _ hx)
  ·exact renL_fits (fun y hy=>h y (List.mem_cons_of_mem _ hy)) (fun x hx=>hl x (by rw [allEs];exact List.mem_append_right _ hx)) k hk
end
theorem nameOk_len {s:Str} (h:nameOk s=true):s.length<=maxI:=by
 unfold nameOk at h
 simp only [Bool.and_eq_true,decide_eq_true_eq] at h
 unfold maxI
 omega
theorem RenIs.fits {p q:Pgm} {to:Str->Str} (I:RenIs p q to) (hp:p.Fits):q.Fits:=by
 have hl:∀ s∈[]::oldN p,(to s).length<=maxI:=fun s hs=>by
  rcases List.mem_cons.1 hs with rfl|hs
  ·rw [I.nil];unfold maxI;simp
  ·exact nameOk_len (I.ok s hs)
 refine ⟨by rw [I.len.1];exact hp.srcs,fun s hs=>?_,by rw [I.len.2];exact hp.defs,fun d hd=>?_,fun d hd=>?_⟩
 ·rw [I.srcs] at hs
  obtain ⟨y,hy,rfl⟩:=List.mem_map.1 hs
  exact hl y (I.sin y hy)
 ·rw [I.defs] at hd
  obtain ⟨y,hy,rfl⟩:=List.mem_map.1 hd
  exact hl y.name (I.din _ (List.mem_map.2 ⟨y,hy,rfl⟩))
 ·rw [I.defs] at hd
  obtain ⟨y,hy,rfl⟩:=List.mem_map.1 hd
  exact renE_fits (hp.exp y hy) fun x hx=>hl _ (I.ein y hy x hx)
theorem inl_is {p:Pgm} {d:Nat} (h:(inlR p (d:Int)).2=0):∃ x,InlIs p d x/\inlR p (d:Int)=(inlP p d x,0):=by
 unfold inlR at h ⊢
 by_cases hh:hasR p (d:Int)=true
 ·rw [if_pos hh] at h ⊢
  obtain ⟨hp,n,x,hn,hx⟩:=hasR_at hh
  obtain rfl:n=d:=by omega
  rw [show ((n:Int)).toNat=n by omega,hx] at h ⊢
  dsimp only at h ⊢
  by_cases ha:p.defs.any (asksD x.name)=true
  ·rw [if_pos ha] at h;cases h
  ·rw [if_neg ha] at h ⊢
   by_cases hq:progR (inlP p n x)=true
   ·rw [if_pos hq]
    refine ⟨x,⟨hx,hp,hq,fun e he y hy hc=>ha ?_⟩,rfl⟩
    obtain ⟨w,hw⟩:=at_lt he
    rw [expAt_at hw] at hy
    refine List.any_eq_true.2 ⟨w,List.mem_of_getElem? hw,List.any_eq_true.2 ⟨y,hy,?_⟩⟩
    unfold asksE
    simp [hc.1,hc.2]
   ·rw [if_neg hq] at h;cases h
 ·rw [if_neg hh] at h;cases h
end Go.Abs

/- Marks that are needed: both sides. -/
open Go Go.Abs
namespace Go.Abs
set_option maxRecDepth 100000
set_option maxHeartbeats 4000000
instance fnis336:FnIs CC 36:=⟨rfl,fun _=>rfl⟩
theorem own_tup {e sz lo hi:Nat} {xs:List IV} {G:Nat->Obj} {v:AV} {n:IV} (h:Own e sz lo hi xs G v):∃ ids,Go.Abs.peek G pkDepth (mkTup [v, .imm n])=some (.tup [.lst xs,n],ids):=by
 have hr:=h.rdx
 rcases h with ⟨rfl,rfl⟩|⟨o,_,_,rfl,_⟩
 ·exact ⟨[],rfl⟩
 ·exact (Rdx.tup (d:=1) (vs:=[.row o xs.length, .imm n]) (xs:=[.lst xs,n]) ⟨hr,Rdx.imm _ _ _ _,trivial⟩).peek (by decide)
noncomputable def needA (p:Pgm) (d t:Int):List Int×Int:=
 if hasR p d && !decide (t < 0) && !decide (t > 200) then (((lagsR p).getD d.toNat []).map fun a=>needN a t,0) else ([],2)
def pairIV (x:List Int×Int):IV := .tup [intsIV x.1, .int .i64 x.2]
theorem cal394 {a:Lg} {i b:Nat} {t:Int} {fr:Bool} {G:Nat->Obj} {nx:Nat} (h:a.In 4294967296) (ht:0<=t/\t<=201) (hb:G b = .box [.imm (.int .i64 t)] fr) (hlt:b < nx) :
  Cal CC 94 [.imm (natIV i), .imm a.iv, .ptr b 0] G nx fun v G' nx'=>v = .imm (.int .i64 (needN a t))/\nx<=nx'/\∀ o,o < nx->G' o=G o:=by
 have h391:=ret391 h ht
 generalize needN a t=n at *
 obtain ⟨on,e,bk,f⟩:=a
 rw [Lg.iv_mk] at *
 refine Cal.of (fn:=Go.Proofs.Tryz.f94) (by kernel_rfl) rfl rfl ?_
 refine BN ?_
 exact W.retFin1 rfl ⟨rfl,by omega,fun o ho=>at_upd⟩
theorem ret336 {p:Pgm} (hp:p.Fits) (d t:Int):Ret CC 36 [p.iv, .int .i64 d, .int .i64 t] (pairIV (needA p d t)):=by
 have h380:=ret380 hp d
 unfold needA
 cases hh:hasR p d with
 |false=>
  rw [hh] at h380
  obtain ⟨srcs,defs⟩:=p
  have bt:(!false)=true:=rfl
  refine Ret.of (fn:=Go.Proofs.Tryz.f36) (by kernel_rfl) rfl rfl ?_
  refine BB ?_
  exact W.retFin2 rfl rfl ⟨[],rfl⟩
 |true=>
  obtain ⟨hpr,n,x,rfl,hx⟩:=hasR_at hh
  have hdl:=(List.getElem?_eq_some_iff.1 hx).1
  have h376:=ret376 hp hpr
  obtain ⟨hrow,hrl,hri⟩:=lagsR_row hpr hdl
  have h4:=(progR_small hpr).srcs
  rw [Int.toNat_natCast]
  unfold knIV at h376
  generalize (lagsR p).getD n []=row at *
  generalize (lagsR p).map lagsIV=E at *
  rw [hh] at h380
  have bf:(!true)=false:=rfl
  cases h1:decide (t < 0) with
  |true=>
   refine Ret.of (fn:=Go.Proofs.Tryz.f36) (by kernel_rfl) rfl rfl ?_
   refine BB ?_
   exact W.retFin2 rfl rfl ⟨[],rfl⟩
  |false=>
   cases h2:decide (t > 200) with
   |true=>
    refine Ret.of (fn:=Go.Proofs.Tryz.f36) (by kernel_rfl) rfl rfl ?_
    refine BB ?_
    exact W.retFin2 rfl rfl ⟨[],rfl⟩
   |false=>
    have g1:=of_decide_eq_false h1
    have g2:=of_decide_eq_false h2
    refine Ret.of (fn:=Go.Proofs.Tryz.f36) (by kernel_rfl) rfl rfl ?_
    refine BB ?_
    refine R.callB rfl rfl rfl rfl rfl ((cal393 (l:=row) (lo:=0) (hi:=0) (g:=fun _ a => .int .i64 (needN a t)) rfl rfl (fun _ _=>rfl) (.inl rfl) (by omega) (by omega) fun i a hx G' nx' h5 h6=>cal394 ((hri a (List.mem_of_getElem? hx)).1.mono (by omega)) (by omega) ((h6 _ (by omega)).trans rfl) (by omega)).mono fun v G2 nx2 hv=>?_)
    obtain ⟨ho,hn2,hG2⟩:=hv
    refine BN ?_
    refine W.retFin2 rfl rfl ?_
    have he:row.mapIdx (fun _ a=>IV.int .i64 (needN a t))=(row.map fun a=>needN a t).map intIV:=by
     refine List.ext_getElem? fun s=>?_
     simp [List.getElem?_mapIdx,Function.comp_def,intIV]
    rw [he] at ho
    exact own_tup ho
end Go.Abs

/- Up to when answers are sealed by marks. -/
open Go Go.Abs
namespace Go.Abs
set_option maxRecDepth 100000
set_option maxHeartbeats 4000000
instance fnis334:FnIs CC 34:=⟨rfl,fun _=>rfl⟩
instance fnis388:FnIs CC 88:=⟨rfl,fun _=>rfl⟩
instance fnis458:FnIs CC 158:=⟨rfl,fun _=>rfl⟩
def markBad (m:Int):Bool:=decide (m < 0)||decide (m > 201)
def marksOk (marks:List Int) (n:Nat):Bool := !(marks.any markBad)&&marks.length==n
def opens (l:List Lg) (marks:List Int) (t:Int):Bool:=(List.range l.length).any fun s=>decide (needN (l.getD s Lg.z) t > marks.getD s 0)
def sealN (l:List Lg) (marks:List Int):Nat:=((List.range 201).findIdx? fun (t:Nat)=>opens l marks t).getD 201
theorem seal_is {l:List Lg} {marks:List Int} {t:Nat} (ht:t<=201) (hno:∀ s:Nat,s < t->opens l marks s=false) (hy:t=201\/opens l marks t=true):sealN l marks=t:=by
 unfold sealN
 by_cases h:t=201
 ·subst h
  rw [List.findIdx?_eq_none_iff.2 fun x hx=>hno x (List.mem_range.1 hx)];rfl
 ·have hy:=hy.resolve_left h
  have:((List.range 201).findIdx? fun (t:Nat)=>opens l marks t)=some t:=by
   rw [List.findIdx?_eq_some_iff_getElem]
   exact ⟨by rw [List.length_range];omega,by rw [List.getElem_range];exact hy,fun j hj=>by rw [List.getElem_range,hno j hj];decide⟩
  rw [this];rfl
theorem ints_ivat {a:List Int} {i:Nat} (h:i < a.length):(a.map intIV)[(i:Int).toNat]? = some (.int .i64 (a.getD i 0)):=by
 rw [Int.toNat_natCast,List.getElem?_map,List.getD_eq_getElem?_getD,List.getElem?_eq_getElem h];rfl
theorem cal387 {m:Int} {G:Nat->Obj} {nx:Nat}:Cal CC 87 [.imm (.int .i64 m)] G nx fun v G' nx'=>v = .imm (.bool (markBad m))/\nx<=nx'/\∀ o,o < nx->G' o=G o:=by
 unfold markBad
 refine Cal.of (fn:=Go.Proofs.Tryz.f87) (by kernel_rfl) rfl rfl ?_
 cases h:decide (m < 0) with
 |true=>
  refine BN ?_
  exact W.retFin1 rfl ⟨rfl,by omega,fun o ho=>rfl⟩
 |false=>
  refine BN ?_
  exact W.retFin1 rfl ⟨rfl,by omega,fun o ho=>rfl⟩
theorem any_take_end {a:List Int} {i:Nat} (hi:i < a.length) (h:markBad (a.getD i 0)=true):a.any markBad=true:=by
 rw [List.getD_eq_getElem?_getD,List.getElem?_eq_getElem hi] at h
 exact List.any_eq_true.2 ⟨a[i],List.getElem_mem hi,h⟩
theorem any_take_step {a:List Int} {i:Nat} (hi:i < a.length) (h0:(a.take i).any markBad=false) (h:markBad (a.getD i 0)=false):(a.take (i+1)).any markBad=false:=by
 rw [List.getD_eq_getElem?_getD,List.getElem?_eq_getElem hi] at h
 rw [List.take_add_one,List.getElem?_eq_getElem hi,List.any_append,h0]
 simpa using h
theorem cal457M {a:List Int} (hl:a.length<=maxI) {G:Nat->Obj} {nx:Nat}:Cal CC 157 [.imm (intsIV a), .imm (.fn (.func 87) [])] G nx fun v G' nx'=>∃ z:Int,v = .imm (.int .i64 z)/\decide (z>=0)=a.any markBad/\nx<=nx'/\∀ o,o < nx->G' o=G o:=by
 have hlm:(a.map intIV).length=a.length:=List.length_map ..
 have hl:a.length<=9223372036854775807:=hl
 refine Cal.of (fn:=Go.Proofs.Tryz.f157) (by kernel_rfl) rfl rfl ?_
 refine BN ?_
 refine W.loop (X:=Nat) (fun i=>[(0, .imm (intsIV a)),(1, .imm (.fn (.func 87) [])),(6, .imm (intsIV a)),(7, .imm (.int .i64 (a.map intIV).length)),(8, .imm (.int .i64 i))])
  (fun i nx1 G1=>i<=a.length/\nx<=nx1/\(∀ o,o < nx->G1 o=G o)/\(a.take i).any markBad=false) (fun i=>a.length-i) 0 .auto ⟨Nat.zero_le _,by omega,fun _ _=>rfl,rfl⟩ ?_
 rintro i nx1 G1 ⟨hi,hnx,hG,hno⟩
 refine BN ?_
 refine W.cond rfl (fun h1=>?_) (fun h1=>?_)
 ·have hlt:i < a.length:=by have:=of_decide_eq_true h1;rw [hlm] at this;omega
  have hxi:=ints_ivat hlt
  have hmu:a.length-(i+1) < a.length-i:=by omega
  refine BN ?_
  refine R.callB rfl rfl rfl rfl rfl (cal387.mono fun v G2 nx2 hv=>?_)
  obtain ⟨rfl,h2,h3⟩:=hv
  have hfr:∀ o,o < nx->G2 o=G o:=fun o ho=>(h3 o (by omega)).trans (hG o ho)
  cases hp:markBad (a.getD i 0) with
  |false=>
   refine BN ?_
   exact W.skipLop (i+1) hmu .auto ⟨hlt,by omega,hfr,any_take_step hlt hno hp⟩
  |true=>
   refine BN ?_
   exact W.retFin1 rfl ⟨_,rfl,by rw [any_take_end hlt hp];exact decide_eq_true (by omega),by omega,hfr⟩
 ·have hge:a.length<=i:=by have:=of_decide_eq_false h1;rw [hlm] at this;omega
  rw [List.take_of_length_le hge] at hno
  refine BN ?_
  exact W.retFin1 rfl ⟨-1,rfl,by rw [hno];rfl,by omega,hG⟩
theorem cal386M {a:List Int} (hl:a.length<=maxI) {G:Nat->Obj} {nx:Nat}:Cal CC 86 [.imm (intsIV a), .imm (.fn (.func 87) [])] G nx fun v G' nx'=>v = .imm (.bool (a.any markBad))/\nx<=nx'/\∀ o,o < nx->G' o=G o:=by
 refine Cal.of (fn:=Go.Proofs.Tryz.f86) (by kernel_rfl) rfl rfl ?_
 refine BN ?_
 refine R.callB rfl rfl rfl rfl rfl ((cal457M hl).mono fun v G2 nx2 hv=>?_)
 obtain ⟨z,rfl,h1,h2,h3⟩:=hv
 refine BN ?_
 exact W.retFin1 rfl ⟨by rw [<-h1],by omega,fun o ho=>(h3 o (by omega)).trans rfl⟩
theorem ret458 {l:List Bool} (hl:l.length<=1000):∃ z:Int,Ret CC 158 [.lst (l.map .bool), .bool true] (.int .i64 z)/\decide (z>=0)=l.any id:=by
 have hlm:(l.map IV.bool).length=l.length:=List.length_map ..
 refine ⟨match l.findIdx? id with|some i=>(i:Int)|none => -1,?_,?_⟩
 ·refine Ret.of (fn:=Go.Proofs.Tryz.f158) (by kernel_rfl) rfl rfl ?_
  refine BB ?_
  refine W.loop (X:=Nat) (fun i=>[(0, .imm (.lst (l.map .bool))),(1, .imm (.bool true)),(6, .imm (.lst (l.map .bool))),(7, .imm (.int .i64 (l.map IV.bool).length)),(8, .imm (.int .i64 i))])
   (fun i nx1 G1=>i<=l.length/\∀ j,j < i->∀ x,l[j]? = some x->x=false) (fun i=>l.length-i) 0 .auto ⟨Nat.zero_le _,fun j h=>absurd h (Nat.not_lt_zero j)⟩ ?_
  rintro i nx1 G1 ⟨hi,hno⟩
  refine BN ?_
  refine W.cond rfl (fun h1=>?_) (fun h1=>?_)
  ·have hlt:i < l.length:=by have:=of_decide_eq_true h1;rw [hlm] at this;omega
   obtain ⟨x,hx⟩:=at_lt hlt
   have hxi:=at_map IV.bool hx
   have hmu:l.length-(i+1) < l.length-i:=by omega
   cases x with
   |false=>
    refine BN ?_
    refine W.skipLop (i+1) hmu .auto ⟨hlt,fun j hj y hy=>?_⟩
    rcases Nat.lt_or_eq_of_le (Nat.le_of_lt_succ hj) with hj|rfl
    ·exact hno j hj y hy
    ·rw [hx] at hy;cases hy;rfl
   |true=>
    have:l.findIdx? id=some i:=by
     rw [List.findIdx?_eq_some_iff_getElem]
     refine ⟨hlt,(List.getElem?_eq_some_iff.1 hx).2,fun j hj=>?_⟩
     have:=hno j hj l[j] (List.getElem?_eq_getElem _)
     simp [this]
    rw [this]
    refine BN ?_
    exact W.retFin1 rfl ⟨[],rfl⟩
  ·have hge:l.length<=i:=by have:=of_decide_eq_false h1;rw [hlm] at this;omega
   have:l.findIdx? id=none:=by
    rw [List.findIdx?_eq_none_iff]
    intro x hx
    obtain ⟨j,hj⟩:=List.mem_iff_getElem?.1 hx
    exact hno j (by have:=(List.getElem?_eq_some_iff.1 hj).1;omega) x hj
   rw [this]
   refine BN ?_
   exact W.retFin1 rfl ⟨[],rfl⟩
 ·cases h:l.findIdx? id with
  |none=>
   rw [List.findIdx?_eq_none_iff] at h
   have:l.any id=false:=by rw [List.any_eq_false];exact fun x hx=>by rw [h x hx];decide
   rw [this];rfl
  |some i=>
   obtain ⟨h1,h2,_⟩:=List.findIdx?_eq_some_iff_getElem.1 h
   rw [List.any_eq_true.2 ⟨_,List.getElem_mem h1,h2⟩]
   exact decide_eq_true (by show (0:Int)<=(i:Int);omega)
theorem ret388 {l:List Bool} (hl:l.length<=1000):Ret CC 88 [.lst (l.map .bool), .bool true] (.bool (l.any id)):=by
 obtain ⟨z,h1,h2⟩:=ret458 hl
 refine Ret.of (fn:=Go.Proofs.Tryz.f88) (by kernel_rfl) rfl rfl ?_
 refine BB ?_
 refine W.retFin1 rfl ⟨[],?_⟩
 rw [<-h2];rfl
end Go.Abs

/- Up to when answers are sealed by marks: both sides. -/
open Go Go.Abs
namespace Go.Abs
set_option maxRecDepth 100000
set_option maxHeartbeats 4000000
theorem cal390 {a:Lg} {i tb mb:Nat} {t:Int} {marks:List Int} {G:Nat->Obj} {nx:Nat} (h:a.In 4294967296) (ht:0<=t/\t<=201) (hi:i < marks.length) (hb:G tb = .box [.imm (.int .i64 t)] false) (hm:G mb = .box [.imm (intsIV marks)] false) (hlt:tb < nx/\mb < nx) :
  Cal CC 90 [.imm (natIV i), .imm a.iv, .ptr tb 0, .ptr mb 0] G nx fun v G' nx'=>v = .imm (.bool (decide (needN a t > marks.getD i 0)))/\nx<=nx'/\∀ o,o < nx->G' o=G o:=by
 have h391:=ret391 h ht
 have hat:=ints_ivat hi
 generalize needN a t=n at *
 obtain ⟨on,e,bk,f⟩:=a
 rw [Lg.iv_mk] at *
 refine Cal.of (fn:=Go.Proofs.Tryz.f90) (by kernel_rfl) rfl rfl ?_
 refine BN ?_
 exact W.retFin1 rfl ⟨rfl,by omega,fun o ho=>at_upd⟩
noncomputable def sealA (p:Pgm) (marks:List Int) (d:Int):Int×Int:=if hasR p d&&marksOk marks p.srcs.length then ((sealN ((lagsR p).getD d.toNat []) marks:Nat),0) else (0,2)
def duoIV (x:Int×Int):IV := .tup [.int .i64 x.1, .int .i64 x.2]
end Go.Abs

/- Up to when answers are sealed by marks: the program. -/
open Go Go.Abs
namespace Go.Abs
set_option maxRecDepth 100000
set_option maxHeartbeats 4000000
theorem ret334 {p:Pgm} (hp:p.Fits) {marks:List Int} (hml:marks.length<=maxI) (d:Int):Ret CC 34 [p.iv,intsIV marks, .int .i64 d] (duoIV (sealA p marks d)):=by
 have h380:=ret380 hp d
 have hss:(p.srcs.map sv).length=p.srcs.length:=List.length_map ..
 have hmm:(marks.map intIV).length=marks.length:=List.length_map ..
 unfold sealA
 cases hh:hasR p d with
 |false=>
  rw [hh] at h380
  obtain ⟨srcs,defs⟩:=p
  have bt:(!false)=true:=rfl
  refine Ret.of (fn:=Go.Proofs.Tryz.f34) (by kernel_rfl) rfl rfl ?_
  refine BB ?_
  exact W.retFin2 rfl rfl ⟨[],rfl⟩
 |true=>
  obtain ⟨hpr,n,x,rfl,hx⟩:=hasR_at hh
  have hdl:=(List.getElem?_eq_some_iff.1 hx).1
  have h376:=ret376 hp hpr
  obtain ⟨hrow,hrl,hri⟩:=lagsR_row hpr hdl
  have h4:=(progR_small hpr).srcs
  rw [Int.toNat_natCast]
  unfold knIV at h376
  generalize (lagsR p).getD n []=row at *
  generalize (lagsR p).map lagsIV=E at *
  rw [hh] at h380
  have bf:(!true)=false:=rfl
  by_cases hlen:marks.length=p.srcs.length
  ·have hc:(((marks.map intIV).length:Int) != ((p.srcs.map sv).length:Int))=false:=by rw [hmm,hss,hlen];simp
   have hmk:marksOk marks p.srcs.length = !(marks.any markBad):=by unfold marksOk;rw [hlen];simp
   rw [hmk]
   refine Ret.of (fn:=Go.Proofs.Tryz.f34) (by kernel_rfl) rfl rfl ?_
   refine BB ?_
   refine R.callB rfl rfl rfl rfl rfl ((cal386M hml).mono fun v G1 nx1 hv=>?_)
   obtain ⟨rfl,hn1,hG1⟩:=hv
   have g0:G1 0 = .box [.imm (.lst (p.srcs.map sv)), .imm (.lst (p.defs.map Dfn.iv))] false:=(hG1 0 (by omega)).trans rfl
   have g1:G1 1 = .box [.imm (intsIV marks)] false:=(hG1 1 (by omega)).trans rfl
   clear hG1
   cases hb:marks.any markBad with
   |true=>
    refine BN ?_
    exact W.retFin2 rfl rfl ⟨[],rfl⟩
   |false=>
    refine BN ?_
    refine W.loop (X:=Nat) (fun t=>[(4, .ptr 1 0),(8, .imm (lagsIV row)),(9, .ptr (nx1+9+0) 0)])
     (fun t nx G=>nx1+11<=nx/\t<=201/\G 1 = .box [.imm (intsIV marks)] false/\G (nx1+9+0) = .box [.imm (.int .i64 t)] false/\∀ s:Nat,s < t->opens row marks s=false) (fun t=>201-t) 0 .auto ⟨by omega,by omega,at_upd,at_upd,fun s h=>absurd h (Nat.not_lt_zero _)⟩ ?_
    clear g0 g1
    rintro t nx2 G2 ⟨hnx2,ht,g1,gt,hno⟩
    by_cases ht2:t<=200
    ·have hd:decide ((t:Int)<=200)=true:=decide_eq_true (by omega)
     have hmu:201-(t+1) < 201-t:=by omega
     refine BN ?_
     refine R.callB rfl rfl rfl rfl rfl ((cal389 (l:=row) (lo:=0) (hi:=0) (g:=fun s a => .bool (decide (needN a t > marks.getD s 0))) rfl rfl (fun _ _=>rfl) (.inl rfl) (by omega) (by omega) fun i a hx G' nx' h5 h6=>
      cal390 (marks:=marks) ((hri a (List.mem_of_getElem? hx)).1.mono (by omega)) (by omega) (by have:=(List.getElem?_eq_some_iff.1 hx).1;omega) ((h6 _ (by omega)).trans gt) ((h6 _ (by omega)).trans g1) (by omega)).mono fun v G3 nx3 hv=>?_)
     obtain ⟨ho,hn3,hG3⟩:=hv
     have he:row.mapIdx (fun s a=>IV.bool (decide (needN a t > marks.getD s 0)))=((List.range row.length).map fun s=>decide (needN (row.getD s Lg.z) t > marks.getD s 0)).map IV.bool:=by
      refine List.ext_getElem? fun s=>?_
      simp only [List.getElem?_mapIdx,List.getElem?_map]
      by_cases hs:s < row.length
      ·rw [List.getElem?_range hs,List.getElem?_eq_getElem hs]
       simp [List.getD_eq_getElem?_getD,hs]
      ·rw [List.getElem?_eq_none (by omega),List.getElem?_eq_none (by simp;omega)];rfl
     rw [he] at ho
     have h388:=ret388 (l:=(List.range row.length).map fun s=>decide (needN (row.getD s Lg.z) t > marks.getD s 0)) (by simp;omega)
     have hany:((List.range row.length).map fun s=>decide (needN (row.getD s Lg.z) t > marks.getD s 0)).any id=opens row marks t:=by unfold opens;rw [List.any_map];rfl
     rw [hany] at h388
     obtain ⟨ids,hpk⟩:=ho.peek (k:=99)
     refine BN ?_
     refine R.op0 (O.callG rfl (peeks_one hpk (peeks_im peeks_nil)) h388 rfl) rfl ?_
     have g13:=(hG3 1 (by omega)).trans g1
     have gt3:=(hG3 (nx1+9+0) (by omega)).trans gt
     cases hop:opens row marks t with
     |true=>
      rw [seal_is (by omega) hno (.inr hop)]
      refine BN ?_
      exact W.retFin2 rfl rfl ⟨[],rfl⟩
     |false=>
      refine BN ?_
      refine W.skipLop (t+1) hmu .auto ⟨by omega,by omega,(upd_ne _ _ _ _ (by omega)).trans g13,upd_same ..,fun s hs=>?_⟩
      rcases Nat.lt_or_eq_of_le (Nat.le_of_lt_succ hs) with h4|rfl
      ·exact hno s h4
      ·exact hop
    ·have hd:decide ((t:Int)<=200)=false:=decide_eq_false (by omega)
     have ht3:t=201:=by omega
     subst ht3
     rw [seal_is (by omega) hno (.inl rfl)]
     refine BN ?_
     exact W.retFin2 rfl rfl ⟨[],rfl⟩
  ·have hc:(((marks.map intIV).length:Int) != ((p.srcs.map sv).length:Int))=true:=by rw [hmm,hss,bne_iff_ne];omega
   have hmk:marksOk marks p.srcs.length=false:=by
    unfold marksOk
    rw [show (marks.length==p.srcs.length)=false by simpa using hlen,Bool.and_false]
   rw [hmk]
   refine Ret.of (fn:=Go.Proofs.Tryz.f34) (by kernel_rfl) rfl rfl ?_
   refine BB ?_
   exact W.retFin2 rfl rfl ⟨[],rfl⟩
end Go.Abs

/- Lags as they are told, of all definitions. -/
open Go Go.Abs
namespace Go.Abs
set_option maxRecDepth 100000
set_option maxHeartbeats 4000000
instance fnis378:FnIs CC 78:=⟨rfl,fun _=>rfl⟩
instance fnis327:FnIs CC 27:=⟨rfl,fun _=>rfl⟩
theorem cal444 {a:Lg} {i:Nat} {G:Nat->Obj} {nx:Nat}:Cal CC 144 [.imm (natIV i), .imm a.iv] G nx fun v G' nx'=>v = .imm a.iv/\nx<=nx'/\∀ o,o < nx->G' o=G o:=by
 obtain ⟨on,e,b,f⟩:=a
 rw [Lg.iv_mk]
 refine Cal.of (fn:=Go.Proofs.Tryz.f144) (by kernel_rfl) rfl rfl ?_
 refine BN ?_
 exact W.retFinCA rfl (upd_same ..) rfl rfl ⟨rfl,by omega,fun o ho=>at_upd⟩
theorem ret378 {l:List Lg} (hl:l.length<=1000):Ret CC 78 [lagsIV l] (lagsIV l):=by
 refine Ret.of (fn:=Go.Proofs.Tryz.f78) (by kernel_rfl) rfl rfl ?_
 refine BB ?_
 refine R.callB rfl rfl rfl rfl rfl ((cal443 (l:=l) (lo:=0) (hi:=0) (g:=fun _ a=>a.iv) rfl rfl (fun _ _=>rfl) (.inl rfl) (by omega) hl fun i a hx G' nx' h5 h6=>cal444).mono fun v G2 nx2 hv=>?_)
 obtain ⟨ho,hn2,hG2⟩:=hv
 rw [mapIdx_map fun a=>a,List.map_id'] at ho
 refine BN ?_
 exact W.retFin1 rfl (ho.peek (k:=99))
theorem cal377 {l:List Lg} (hl:l.length<=1000) {i:Nat} {G:Nat->Obj} {nx:Nat}:Cal CC 77 [.imm (natIV i), .imm (lagsIV l)] G nx fun v G' nx'=>v = .imm (lagsIV l)/\nx<=nx'/\∀ o,o < nx->G' o=G o:=by
 have h378:=ret378 hl
 refine Cal.of (fn:=Go.Proofs.Tryz.f77) (by kernel_rfl) rfl rfl ?_
 refine BN ?_
 exact W.retFin1 rfl ⟨rfl,by omega,fun o ho=>rfl⟩
theorem cal375 {E:List (List Lg)} (hE:E.length<=1000) (hr:∀ l∈E,l.length<=1000) {G:Nat->Obj} {nx:Nat}:Cal CC 75 [.imm (.lst (E.map lagsIV)), .imm (.fn (.func 77) [])] G nx fun v G' nx'=>Own 49 1 nx nx' (E.map lagsIV) G' v/\nx<=nx':=by
 have hem:(E.map lagsIV).length=E.length:=List.length_map ..
 refine Cal.of (fn:=Go.Proofs.Tryz.f75) (by kernel_rfl) rfl rfl ?_
 refine BN ?_
 refine W.loop (X:=Nat×AV) (fun s=>[(1, .imm (.fn (.func 77) [])),(5,s.2),(8, .imm (.lst (E.map lagsIV))),(9, .imm (.int .i64 (E.map lagsIV).length)),(10, .imm (.int .i64 s.1))])
  (fun s nx1 G1=>s.1<=E.length/\nx<=nx1/\Own 49 1 nx nx1 ((E.take s.1).map lagsIV) G1 s.2) (fun s=>E.length-s.1) (0, .nils) .auto ⟨Nat.zero_le _,by omega, .inl ⟨rfl,rfl⟩⟩ ?_
 rintro ⟨i,w⟩ nx1 G1 ⟨hi1,hnx,ho⟩
 dsimp only at hi1 ho ⊢
 refine BN ?_
 refine W.cond rfl (fun h1=>?_) (fun h1=>?_)
 ·have hlt:i < E.length:=by have:=of_decide_eq_true h1;rw [hem] at this;omega
  obtain ⟨l,hx⟩:=at_lt hlt
  have hxi:=at_map lagsIV hx
  have hmu:E.length-(i+1) < E.length-i:=by omega
  have htk:(E.take (i+1)).map lagsIV=(E.take i).map lagsIV++[lagsIV l]:=by rw [List.take_add_one,hx];simp
  have hc:=fun G nx=>cal377 (hr l (List.mem_of_getElem? hx)) (i:=i) (G:=G) (nx:=nx)
  have htl:((E.take i).map lagsIV).length<=1000:=by rw [List.length_map,List.length_take];omega
  refine BN ?_
  refine R.callB rfl rfl rfl rfl rfl ((hc _ _).mono fun v2 G2 nx2 hv=>?_)
  obtain ⟨rfl,hn2,hG2⟩:=hv
  refine BN ?_
  refine R.app1 ho at_upd (by simp only [most];omega) (fun v' G' ho' hG'=>?_) (hG:=fun o h1 h2=>Eq.trans (upd_ne _ _ _ _ (by omega)) (Eq.trans (hG2 o (by omega)) at_upd))
  refine BN ?_
  refine W.skipLop (i+1,v') hmu .auto ⟨hlt,by omega,?_⟩
  show Own _ _ _ _ ((E.take (i+1)).map lagsIV) _ _
  rw [htk]
  exact ho'.up (by omega)
 ·have hge:E.length<=i:=by have:=of_decide_eq_false h1;rw [hem] at this;omega
  rw [List.take_of_length_le hge] at ho
  refine BN ?_
  exact W.retFin1 rfl ⟨ho.up (by omega),by omega⟩
noncomputable def ofA (p:Pgm):List (List Lg)×Int:=if progR p then (lagsR p,0) else ([],2)
def rowsIV (x:List (List Lg)×Int):IV := .tup [.lst (x.1.map lagsIV), .int .i64 x.2]
theorem ret327 {p:Pgm} (hp:p.Fits):Ret CC 27 [p.iv] (rowsIV (ofA p)):=by
 have h29:=ret29 p hp
 unfold ofA
 cases hpr:progR p with
 |false=>
  rw [hpr] at h29
  obtain ⟨srcs,defs⟩:=p
  have bz:((2:Int) != 0)=true:=rfl
  refine Ret.of (fn:=Go.Proofs.Tryz.f27) (by kernel_rfl) rfl rfl ?_
  refine BB ?_
  exact W.retFin2 rfl rfl ⟨[],rfl⟩
 |true=>
  rw [hpr] at h29
  have h376:=ret376 hp hpr
  obtain ⟨hW,_⟩:=lagsR_far hpr
  have h6:=(progR_small hpr).len
  have h4:=(progR_small hpr).srcs
  have hl:=hW.len
  have hr:=fun l (h:l∈lagsR p)=>hW.row l h
  unfold knIV at h376
  generalize lagsR p=E at *
  have bz:((0:Int) != 0)=false:=rfl
  refine Ret.of (fn:=Go.Proofs.Tryz.f27) (by kernel_rfl) rfl rfl ?_
  refine BB ?_
  refine R.callB rfl rfl rfl rfl rfl ((cal375 (by omega) fun l h=>by rw [hr l h];omega).mono fun v G2 nx2 hv=>?_)
  refine BN ?_
  exact W.retFin2 rfl rfl (own_tup hv.1)
end Go.Abs

/- The reference: how a node depends on each source. -/
open Go Go.Abs
namespace Go.Abs
set_option maxRecDepth 100000
set_option maxHeartbeats 4000000
mutual
theorem allE_in:∀ (e:Exp) {x:Exp},x∈allE e->(∀ y∈allE x,y∈allE e)/\(allE x).length<=(allE e).length
 | .mk op name n fold calcs kids,x,h=>by
  rw [allE] at h ⊢
  rcases List.mem_cons.1 h with rfl|h
  ·rw [allE];exact ⟨fun y hy=>hy,Nat.le_refl _⟩
  ·have:=allEs_in kids h
   exact ⟨fun y hy=>List.mem_cons_of_mem _ (this.1 y hy),by rw [List.length_cons];omega⟩
theorem allEs_in:∀ (l:List Exp) {x:Exp},x∈allEs l->(∀ y∈allE x,y∈allEs l)/\(allE x).length<=(allEs l).length
 |[],x,h=>by cases h
 |k::r,x,h=>by
  rw [allEs] at h ⊢
  rcases List.mem_append.1 h with h|h
  ·have:=allE_in k h
   exact ⟨fun y hy=>List.mem_append_left _ (this.1 y hy),by rw [List.length_append];omega⟩
  ·have:=allEs_in r h
   exact ⟨fun y hy=>List.mem_append_right _ (this.1 y hy),by rw [List.length_append];omega⟩
end
noncomputable def nodeA (p:Pgm) (d node:Int):List Lg×Int:=
 if hasR p d && !decide (node < 0) && !decide (node>=((allE (expAt p d.toNat)).length:Int)) then (allL p (lagsR p) ((allE (expAt p d.toNat)).getD node.toNat (.mk 0 [] 0 0 [] [])),0) else ([],2)
def rowIV (x:List Lg×Int):IV := .tup [lagsIV x.1, .int .i64 x.2]
end Go.Abs

/- Walks over the nodes of an expression: the lags' own. (The text of TaNodes, for another walk.) -/
open Go Go.Abs
namespace Go.Abs
set_option maxRecDepth 100000
set_option maxHeartbeats 4000000
variable {q N:Nat} {l:List Exp} {K:Kp} {J:(Nat->Obj)->Nat->Prop} {Pn:IV->(Nat->Obj)->Nat->Prop}
structure BxL (q N yb wb nx:Nat) (own:Own1) (G:Nat->Obj):Prop where
 y:G yb = .box [.yld q] false
 w:G wb = .box [.fn (.func 148) [.ptr yb 0, .ptr wb 0]] false
 yl:N<=yb/\yb < nx/\¬ own yb
 wl:N<=wb/\wb < nx/\¬ own wb
theorem BxL.fr {q N yb wb nx nx':Nat} {own own':Own1} {G G':Nat->Obj} (h:BxL q N yb wb nx own G) (hn:nx<=nx') (ho:∀ o,o < nx->own' o->own o) (hG:∀ o,N<=o->o < nx->¬ own o->G' o=G o):BxL q N yb wb nx' own' G':=
 ⟨(hG _ h.yl.1 h.yl.2.1 h.yl.2.2).trans h.y,(hG _ h.wl.1 h.wl.2.1 h.wl.2.2).trans h.w,⟨h.yl.1,by have:=h.yl.2.1;omega,fun h'=>h.yl.2.2 (ho _ h.yl.2.1 h')⟩,⟨h.wl.1,by have:=h.wl.2.1;omega,fun h'=>h.wl.2.2 (ho _ h.wl.2.1 h')⟩⟩
def WalkOKL (q N:Nat) (l:List Exp) (K:Kp) (J:(Nat->Obj)->Nat->Prop) (Pn:IV->(Nat->Obj)->Nat->Prop) (e:Exp):Prop:=
 ∀ k own yb wb nx G,From l (allE e) k->K k own G nx->BxL q N yb wb nx own G->CalP CC 148 [.imm e.iv, .ptr yb 0, .ptr wb 0] G nx (WPost N K J Pn (k+(allE e).length) (isB true) (isB false) own G nx)
theorem cal449 (hw:Walk q N l K J Pn) {e:Exp} (he:WalkOKL q N l K J Pn e) {k yb wb nx:Nat} {own:Own1} {G:Nat->Obj} (hf:From l (allE e) k) (hI:K k own G nx) (hB:BxL q N yb wb nx own G) :
  CalP CC 149 [.imm e.iv, .ptr wb 0] G nx (WPost N K J Pn (k+(allE e).length) (isB false) (isB true) own G nx):=by
 have hc:=fun nx1 G1 (h2:nx<=nx1) (h3:∀ o,o < nx->G1 o=G o)=>he k own yb wb nx1 G1 hf (hw.frame k own G nx G1 nx1 hI h2 h3) (hB.fr (nx':=nx1) h2 (fun _ _ h=>h) fun o _ h _=>h3 o h)
 have hwG:=hB.w
 have hwl:=hB.wl
 obtain ⟨op,name,n',fold,calcs,kids⟩:=e
 refine CalP.of (fn:=Go.Proofs.Tryz.f149) (by kernel_rfl) rfl rfl ?_
 refine AN ?_
 refine R.callBP rfl rfl rfl rfl rfl ((hc _ _ (by omega) (fun o h2=>at_upd)).mono fun r hr=>?_)
 have hr:=hr.trans (nx:=nx) (own:=own) (G:=G) (by omega) (fun _ _ h=>h) (fun o h1 h2 h3=>at_upd)
 cases r with
 |pan u G' nx'=>exact panTo (by exact hr)
 |ret v G' nx'=>
  obtain ⟨h1,own',h0,h2,⟨rfl,h3⟩|⟨rfl,h3⟩⟩:=hr
  ·refine AN ?_
   exact W.retFinP rfl ⟨by omega,own',h0,h2, .inl ⟨rfl,hw.frame _ _ _ _ _ _ h3 (by omega) fun _ _=>rfl⟩⟩
  ·refine AN ?_
   exact W.retFinP rfl ⟨by omega,own',h0,h2, .inr ⟨rfl,hw.frameJ _ _ _ _ h3 (by omega) fun _ _=>rfl⟩⟩
theorem cal102L (hw:Walk q N l K J Pn) {kids:List Exp} (hk:kids.length<=9223372036854775807) (he:∀ e∈kids,WalkOKL q N l K J Pn e) {k yb wb nx:Nat} {own:Own1} {G:Nat->Obj} (hf:From l (allEs kids) k) (hI:K k own G nx) (hB:BxL q N yb wb nx own G) :
  CalP CC 175 [.imm (.lst (Exp.ivs kids)), .fn (.func 149) [.ptr wb 0]] G nx (WPost N K J Pn (k+(allEs kids).length) isNeg isPos own G nx):=by
 have hlk:=ivs_len kids
 refine CalP.of (fn:=Go.Proofs.Tryz.f175) (by kernel_rfl) rfl rfl ?_
 refine AN ?_
 refine W.loop (X:=Nat×Own1) (fun x=>[(0, .imm (.lst (Exp.ivs kids))),(1, .fn (.func 149) [.ptr wb 0]),(6, .imm (.lst (Exp.ivs kids))),(7, .imm (.int .i64 (Exp.ivs kids).length)),(8, .imm (.int .i64 x.1))])
  (fun x nx1 G1=>nx<=nx1/\(∀ o,o < nx->x.2 o->own o)/\(∀ o,N<=o->o < nx->¬ own o->G1 o=G o)/\x.1<=kids.length/\K (k+(allEs (kids.take x.1)).length) x.2 G1 nx1) (fun x=>kids.length-x.1) (0,own) .auto
  ⟨by omega,fun _ _ h=>h,fun _ _ _ _=>rfl,Nat.zero_le _,hw.frame _ _ _ _ _ _ hI (by omega) fun _ _=>rfl⟩ ?_
 clear hI
 rintro ⟨i,own1⟩ nx1 G1 ⟨hx,ho1,hfr,hi,hI⟩
 dsimp only at ho1 hi hI ⊢
 rcases Bool.eq_false_or_eq_true (decide ((i:Int) < ((Exp.ivs kids).length:Int))) with hc|hc
 ·have hlt:i < kids.length:=by have:=of_decide_eq_true hc;omega
  obtain ⟨kid,hxk⟩:=at_lt hlt
  have hxi:=ivs_at hxk
  have hcl:=kid.cells_len
  have hcal:=fun nx2 (h:nx1<=nx2)=>cal449 (nx:=nx2) hw (he kid (List.mem_of_getElem? hxk)) (hf.kid hxk) (hw.frame _ _ _ _ _ _ hI h fun _ _=>rfl) (hB.fr (nx':=nx2) (by omega) ho1 hfr)
  have hmu:kids.length-(i+1) < kids.length-i:=by omega
  have htk:=allEs_take hxk
  obtain ⟨o',s',m',f',c',k'⟩:=kid
  refine AN ?_
  refine R.callBP rfl rfl rfl rfl rfl ((hcal _ (by omega)).mono fun r hr=>?_)
  have hr:=hr.trans (nx:=nx) (own:=own) (G:=G) (by omega) ho1 hfr
  cases r with
  |pan u G' nx'=>exact panTo (by exact hr)
  |ret v G' nx'=>
   obtain ⟨h1,own',h0,h2,⟨rfl,h3⟩|⟨rfl,h3⟩⟩:=hr
   ·refine AN ?_
    refine W.skipLop (i+1,own') hmu .auto ⟨by omega,h0,h2,hlt,?_⟩
    rw [htk,List.length_append,<-Nat.add_assoc];exact hw.frame _ _ _ _ _ _ h3 (by omega) fun _ _=>rfl
   ·refine AN ?_
    exact W.retFinP rfl ⟨by omega,own',h0,h2, .inr ⟨⟨_,rfl⟩,hw.frameJ _ _ _ _ h3 (by omega) fun _ _=>rfl⟩⟩
 ·have hge:kids.length<=i:=by have:=of_decide_eq_false hc;omega
  rw [List.take_of_length_le hge] at hI
  refine AN ?_
  exact W.retFinP rfl ⟨by omega,own1,ho1,hfr, .inl ⟨rfl,hw.frame _ _ _ _ _ _ hI (by omega) fun _ _=>rfl⟩⟩
theorem cal82L (hw:Walk q N l K J Pn) {kids:List Exp} (hk:kids.length<=9223372036854775807) (he:∀ e∈kids,WalkOKL q N l K J Pn e) {k yb wb nx:Nat} {own:Own1} {G:Nat->Obj} (hf:From l (allEs kids) k) (hI:K k own G nx) (hB:BxL q N yb wb nx own G) :
  CalP CC 133 [.imm (.lst (Exp.ivs kids)), .fn (.func 149) [.ptr wb 0]] G nx (WPost N K J Pn (k+(allEs kids).length) (isB false) (isB true) own G nx):=by
 have hc:=fun nx1 (h2:nx<=nx1)=>cal102L hw hk he hf (hw.frame _ _ _ _ _ _ hI h2 fun _ _=>rfl) (hB.fr (nx':=nx1) h2 (fun _ _ h=>h) fun _ _ _ _=>rfl)
 refine CalP.of (fn:=Go.Proofs.Tryz.f133) (by kernel_rfl) rfl rfl ?_
 refine AN ?_
 refine R.callBP rfl rfl rfl rfl rfl ((hc _ (by omega)).mono fun r hr=>?_)
 have hr:=hr.trans (nx:=nx) (own:=own) (G:=G) (by omega) (fun _ _ h=>h) (fun o h1 h2 h3=>rfl)
 cases r with
 |pan u G' nx'=>exact panTo (by exact hr)
 |ret v G' nx'=>
  obtain ⟨h1,own',h0,h2,⟨rfl,h3⟩|⟨⟨n,rfl⟩,h3⟩⟩:=hr
  ·refine AN ?_
   exact W.retFinP rfl ⟨by omega,own',h0,h2, .inl ⟨rfl,hw.frame _ _ _ _ _ _ h3 (by omega) fun _ _=>rfl⟩⟩
  ·refine AN ?_
   refine W.retFinP rfl ⟨by omega,own',h0,h2, .inr ⟨?_,hw.frameJ _ _ _ _ h3 (by omega) fun _ _=>rfl⟩⟩
   show AV.imm (.bool (decide ((n:Int)>=0))) = .imm (.bool true)
   rw [decide_eq_true (by omega)]
theorem walk_okL (hw:Walk q N l K J Pn) {e:Exp} (hfit:e.Fits):WalkOKL q N l K J Pn e:=by
 induction hfit with
 |mk op name n' fold calcs kids hnm hw' hc hk hcs hks ih=>
 intro k own yb wb nx G hf hI hB
 have hk':kids.length<=9223372036854775807:=hk
 have hyl:=hB.yl
 have hwl:=hB.wl
 have hyG:=hB.y
 have h0:=hf 0 _ (by rw [allE];rfl)
 have hkf:From l (allEs kids) (k+1):=fun j x hx=>by
  have:=hf (j+1) x (by rw [allE];simpa using hx)
  rwa [show k+(j+1)=k+1+j by omega] at this
 have hr:=fun nx1 G1 (h:N<=nx1) (h1:nx<=nx1) (h2:∀ o,o < nx->G1 o=G o)=>hw.round k _ own G1 nx1 h0 h (hw.frame k own G nx G1 nx1 hI h1 h2)
 have hlen:k+1+(allEs kids).length=k+(allE (.mk op name n' fold calcs kids)).length:=by rw [allE];simp;omega
 refine CalP.of (fn:=Go.Proofs.Tryz.f148) (by kernel_rfl) rfl rfl ?_
 refine AN ?_
 refine R.roundP rfl rfl rfl ((hr _ _ (by omega) (by omega) (fun o h=>at_upd)).mono fun r hr=>?_)
 cases r with
 |pan u G' nx'=>exact panTo (by exact hr)
 |ret v G' nx'=>
  obtain ⟨h1,own1,ho1,h2,hv⟩:=hr
  have hnu:¬ own (nx+0):=fun h=>by have:=hw.lt _ _ _ _ hI _ h;omega
  have hfr:∀ o,N<=o->o < nx->¬ own o->G' o=G o:=fun o h4 h5 h6=>(h2 o h4 (by omega) h6).trans at_upd
  rcases hv with ⟨rfl,h3⟩|⟨rfl,h3⟩
  ·have hb:G' (nx+0) = .box [.imm (.int .i64 op), .imm (sv name), .imm (.int .i64 n'), .imm (.int .i64 fold), .imm (.lst (Trm.ivs calcs)), .imm (.lst (Exp.ivs kids))] false:=(h2 _ (by omega) (by omega) hnu).trans at_upd
   have hc:=fun nx1 (h:nx'<=nx1)=>cal82L (nx:=nx1) hw hk' ih hkf (hw.frame _ _ _ _ _ _ h3 h fun _ _=>rfl) (hB.fr (nx':=nx1) (by omega) (fun o h4 h5=>ho1 o (by omega) h5) hfr)
   refine AN ?_
   refine R.callBP rfl rfl rfl rfl rfl ((hc _ (by omega)).mono fun r hr=>?_)
   have hr:=hr.trans (nx:=nx) (own:=own) (G:=G) (by omega) (fun o h4 h5=>ho1 o (by omega) h5) hfr
   rw [hlen] at hr
   cases r with
   |pan u G' nx'=>exact panTo (by exact hr)
   |ret v G' nx'=>
    obtain ⟨g1,own',g0,g2,⟨rfl,g3⟩|⟨rfl,g3⟩⟩:=hr
    ·refine AN ?_
     exact W.retFinP rfl ⟨by omega,own',g0,g2, .inl ⟨rfl,hw.frame _ _ _ _ _ _ g3 (by omega) fun _ _=>rfl⟩⟩
    ·refine AN ?_
     exact W.retFinP rfl ⟨by omega,own',g0,g2, .inr ⟨rfl,hw.frameJ _ _ _ _ g3 (by omega) fun _ _=>rfl⟩⟩
  ·refine AN ?_
   exact W.retFinP rfl ⟨by omega,own1,fun o h4 h5=>ho1 o (by omega) h5,hfr, .inr ⟨rfl,hw.frameJ _ _ _ _ h3 (by omega) fun _ _=>rfl⟩⟩
theorem cal447 {e:Exp} (hw:Walk q N (allE e) K J Pn) (hfit:e.Fits) {nx:Nat} {own:Own1} {G:Nat->Obj} (hn:N<=nx) (hI:K 0 own G nx) :
  CalP CC 147 [.yld q, .imm (.fptr e.iv.cells 0)] G nx fun
   | .ret _ G' nx'=>nx<=nx'/\((∃ own',K (allE e).length own' G' nx')\/J G' nx')
   | .pan u G' nx'=>Pn u G' nx':=by
 have hc:=fun k own yb wb nx G=>walk_okL hw hfit k own yb wb nx G
 have hlt:=hw.lt _ _ _ _ hI
 obtain ⟨op,name,n',fold,calcs,kids⟩:=e
 refine CalP.of (fn:=Go.Proofs.Tryz.f147) (by kernel_rfl) rfl rfl ?_
 refine AN ?_
 have hB:∀ {G1:Nat->Obj},(∀ o,nx<=o->o < nx+2->G1 o=upd (upd (upd G (nx+0) (.box [.yld q] false)) (nx+1+0) (.box ty101.zero.cells false)) (nx+1+0) (.box [.fn (.func 148) [.ptr (nx+0) 0, .ptr (nx+1+0) 0]] false) o)->BxL q N (nx+0) (nx+1+0) (nx+1+1+2+3) own G1:=fun h=>
  ⟨(h _ (by omega) (by omega)).trans at_upd,(h _ (by omega) (by omega)).trans at_upd,⟨by omega,by omega,fun h=>by have:=hlt _ h;omega⟩,⟨by omega,by omega,fun h=>by have:=hlt _ h;omega⟩⟩
 refine R.callBP rfl rfl rfl rfl rfl ((hc 0 own _ _ _ _ (fun j x hx=>by rwa [Nat.zero_add]) (hw.frame 0 own G nx _ _ hI (by omega) fun o h=>at_upd) (hB fun o h1 h2=>rfl)).mono fun r hr=>?_)
 cases r with
 |pan u G' nx'=>exact panTo (by exact hr)
 |ret v G' nx'=>
  obtain ⟨h1,own',h0,h2,h3⟩:=hr
  rw [Nat.zero_add] at h3
  refine AN ?_
  refine W.skipFinP rfl ⟨by omega,?_⟩
  rcases h3 with ⟨_,h3⟩|⟨_,h3⟩
  ·exact .inl ⟨own',h3⟩
  ·exact .inr h3
theorem W.nodesKL {f:Operand} {ps:Array Nat} {assign body:Code} {fid nt nx:Nat} {lv:Env} {G:Nat->Obj} {df:List (AV×List AV)} {pk:Pk} {Φ:Out->Prop} (e:Exp) (hfit:e.Fits)
  (K:Kp) (J:(Nat->Obj)->Nat->Prop) (Pn:IV->(Nat->Obj)->Nat->Prop)
  (hf:lookO lv f=some (.imm (.fn (.func 147) [.fptr e.iv.cells 0]))) (hpk:pk.isRnd=false) (hfn:(CC.fn fid).isSome=true) (hps:ps.toList.length=1) (hps2:(ps.toList.all fun t=>decide (t < nt))=true)
  (hK:∀ i own G n G' n',K i own G n->n<=n'->(∀ o,o < n->o≠nx->G' o=G o)->K i own G' n') (hlt:∀ i own G n,K i own G n->∀ o,own o->nx+2<=o/\o < n)
  (hJ:∀ G n G' n',J G n->n<=n'->(∀ o,o < n->o≠nx->G' o=G o)->J G' n') (h0:K 0 (fun _=>False) G nx)
  (hround:∀ (q i:Nat) x own G1 nx1 (lp0 lp1:Obj) (Φr:Out->Prop),q=nx->(allE e)[i]? = some x->q+2<=nx1->K i own G1 nx1->G1 q=lp0 ->
   (∀ {f' l' G' nx'} (own':Own1),nx1<=nx'->(∀ o,o < nx1->own' o->own o)->(∀ o,q+2<=o->o < nx1->¬ own o->G' o=G1 o)->K (i+1) own' G' nx'->G' q=lp1->W CC f' nt .skip l' G' nx' [] .rnd Φr) ->
   (∀ {l' G' nx'} (own':Own1),nx1<=nx'->(∀ o,o < nx1->own' o->own o)->(∀ o,q+2<=o->o < nx1->¬ own o->G' o=G1 o)->J G' nx'->G' q=lp1->W CC fid nt .ret l' G' nx' [] .rnd Φr) ->
   (∀ {l':Env} {u G' nx'},Pn u G' nx'->∀ t,Agree t l'->Φr (.pan u ⟨t,G',nx',[], .rnd⟩)) ->
   W CC fid nt assign (bindE lv (ps.toList.zip [.imm x.iv])) G1 nx1 [] .rnd (astQ CC q lp0 lp1 fid nt body Φr))
  (hend:∀ own G1 nx1,K (allE e).length own G1 nx1->nx<=nx1->W CC fid nt .skip lv G1 nx1 df pk Φ)
  (hret:∀ G1 nx1,J G1 nx1->nx<=nx1->W CC fid nt .ret lv G1 nx1 df pk Φ)
  (hpan:∀ u G1 nx1,Pn u G1 nx1->∀ t,Agree t lv->Φ (.pan u ⟨t,G1,nx1,df,pk⟩)):W CC fid nt (.rangeFunc f ps assign body) lv G nx df pk Φ:=by
 refine W.rangeP hf rfl rfl hpk fun t ht=>?_
 have hw:Walk nx (nx+2) (allE e) (fun i own G1 n=>nx < n/\K i own G1 n/\G1 nx = .lp t nt ps.toList assign body fid 0 none) (fun G1 n=>nx < n/\J G1 n/\G1 nx = .lp t nt ps.toList assign body fid 2 (some .ret)) Pn:=by
  refine ⟨fun i own G n G' n' ⟨h0,h1,h2⟩ hn hG=>⟨by omega,hK _ _ _ _ _ _ h1 hn fun o h _=>hG o h,(hG nx h0).trans h2⟩,fun i own G n ⟨h0,h1,h2⟩ o ho=>(hlt _ _ _ _ h1 o ho).2,fun G n G' n' ⟨h0,h1,h2⟩ hn hG=>⟨by omega,hJ _ _ _ _ h1 hn fun o h _=>hG o h,(hG nx h0).trans h2⟩,?_⟩
  rintro i x own G1 nx1 hx hn ⟨h0,h1,h2⟩
  refine RndP.of hfn h2 ht (by rw [hps];rfl) hps2 ?_
  refine W.mono (Φ:=astQ CC nx (.lp t nt ps.toList assign body fid 0 none) (.lp t nt ps.toList assign body fid 1 none) fid nt body (frdP nx fun
   | .ret v G' nx'=>nx1<=nx'/\∃ own',(∀ o,o < nx1->own' o->own o)/\(∀ o,nx+2<=o->o < nx1->¬ own o->G' o=G1 o)/\((v = .imm (.bool true)/\(nx < nx'/\K (i+1) own' G' nx'/\G' nx = .lp t nt ps.toList assign body fid 0 none))\/(v = .imm (.bool false)/\(nx < nx'/\J G' nx'/\G' nx = .lp t nt ps.toList assign body fid 2 (some .ret))))
   | .pan u G' nx'=>Pn u G' nx')) (hround nx i x own G1 nx1 (.lp t nt ps.toList assign body fid 0 none) (.lp t nt ps.toList assign body fid 1 none) _ rfl hx hn h1 h2 ?_ ?_ ?_) fun o ho=>?_
  ·intro f' l' G' nx' own' h3 h4 h5 h6 h7
   exact W.skipFrdP h7 ⟨h3,own',h4,fun o h8 h9 h10=>(upd_ne _ _ _ _ (by omega)).trans (h5 o h8 h9 h10), .inl ⟨rfl,by omega,hK _ _ _ _ _ _ h6 (Nat.le_refl _) fun o _ h=>upd_ne _ _ _ _ h,upd_same _ _ _⟩⟩
  ·intro l' G' nx' own' h3 h4 h5 h6 h7
   exact W.retFrdP h7 ⟨h3,own',h4,fun o h8 h9 h10=>(upd_ne _ _ _ _ (by omega)).trans (h5 o h8 h9 h10), .inr ⟨rfl,by omega,hJ _ _ _ _ h6 (Nat.le_refl _) fun o _ h=>upd_ne _ _ _ _ h,upd_same _ _ _⟩⟩
  ·intro l' u G' nx' h3 t _
   exact ⟨rfl,h3⟩
  ·cases o with
   |norm s=>
    obtain ⟨h3,h4⟩:=ho
    exact ⟨_,_,_,_,_,_,_,h3,h4⟩
   |_=>exact ho
 have hc:=cal447 hw hfit (nx:=nx+2) (own:=fun _=>False) (G:=upd G nx (.lp t nt ps.toList assign body fid 0 none)) (by omega) ⟨by omega,hK _ _ _ _ _ _ h0 (by omega) fun o h h'=>upd_ne _ _ _ _ h',upd_same _ _ _⟩
 obtain ⟨n,r,h1,h2⟩:=hc
 refine ⟨n,r,h1,?_⟩
 cases r with
 |pan u G' nx'=>exact hpan u G' nx' h2 t ht
 |ret v G' nx'=>
  obtain ⟨h3,⟨own',h4,h5,h6⟩|⟨h4,h5,h6⟩⟩:=h2
  ·exact ⟨_,_,_,_,_,_,_,_,h6,by decide,(hend own' _ nx' (hK _ _ _ _ _ _ h5 (Nat.le_refl _) fun o _ h=>upd_ne _ _ _ _ h) (by omega)).skipI t ht⟩
  ·exact ⟨_,_,_,_,_,_,_,_,h6,by decide,(hret _ nx' (hJ _ _ _ _ h5 (Nat.le_refl _) fun o _ h=>upd_ne _ _ _ _ h) (by omega)).retI t ht⟩
theorem W.nodesL {f:Operand} {ps:Array Nat} {assign body:Code} {fid nt nx:Nat} {lv:Env} {G:Nat->Obj} {df:List (AV×List AV)} {pk:Pk} {Φ:Out->Prop} (e:Exp) (hfit:e.Fits)
  (I:Nat->(Nat->Obj)->Prop) (J:(Nat->Obj)->Prop) (Pn:IV->(Nat->Obj)->Nat->Prop)
  (hf:lookO lv f=some (.imm (.fn (.func 147) [.fptr e.iv.cells 0]))) (hpk:pk.isRnd=false) (hfn:(CC.fn fid).isSome=true) (hps:ps.toList.length=1) (hps2:(ps.toList.all fun t=>decide (t < nt))=true)
  (hI:∀ i G G',I i G->(∀ o,o < nx->G' o=G o)->I i G') (hJ:∀ G G',J G->(∀ o,o < nx->G' o=G o)->J G') (h0:I 0 G)
  (hround:∀ (q i:Nat) x G1 nx1 (lp0 lp1:Obj) (Φr:Out->Prop),q=nx->(allE e)[i]? = some x->q+2<=nx1->I i G1->G1 q=lp0 ->
   (∀ {f' l' G' nx'},nx1<=nx'->(∀ o,q+2<=o->o < nx1->G' o=G1 o)->I (i+1) G'->G' q=lp1->W CC f' nt .skip l' G' nx' [] .rnd Φr) ->
   (∀ {l' G' nx'},nx1<=nx'->(∀ o,q+2<=o->o < nx1->G' o=G1 o)->J G'->G' q=lp1->W CC fid nt .ret l' G' nx' [] .rnd Φr) ->
   (∀ {l':Env} {u G' nx'},Pn u G' nx'->∀ t,Agree t l'->Φr (.pan u ⟨t,G',nx',[], .rnd⟩)) ->
   W CC fid nt assign (bindE lv (ps.toList.zip [.imm x.iv])) G1 nx1 [] .rnd (astQ CC q lp0 lp1 fid nt body Φr))
  (hend:∀ G1 nx1,I (allE e).length G1->nx<=nx1->W CC fid nt .skip lv G1 nx1 df pk Φ)
  (hret:∀ G1 nx1,J G1->nx<=nx1->W CC fid nt .ret lv G1 nx1 df pk Φ)
  (hpan:∀ u G1 nx1,Pn u G1 nx1->∀ t,Agree t lv->Φ (.pan u ⟨t,G1,nx1,df,pk⟩)):W CC fid nt (.rangeFunc f ps assign body) lv G nx df pk Φ:=by
 refine W.nodesKL e hfit (fun i own G1 n=>nx<=n/\(∀ o,¬ own o)/\I i G1) (fun G1 n=>nx<=n/\J G1) Pn hf hpk hfn hps hps2
  (fun i own G n G' n' ⟨h0,h1,h2⟩ hn hG=>⟨by omega,h1,hI i G G' h2 fun o h=>hG o (by omega) (by omega)⟩) (fun i own G n ⟨h0,h1,h2⟩ o ho=>(h1 o ho).elim)
  (fun G n G' n' ⟨h0,h1⟩ hn hG=>⟨by omega,hJ G G' h1 fun o h=>hG o (by omega) (by omega)⟩) ⟨Nat.le_refl _,fun _ h=>h,h0⟩ ?_ (fun own G1 nx1 ⟨_,_,h⟩ hn=>hend G1 nx1 h hn) (fun G1 nx1 ⟨_,h⟩ hn=>hret G1 nx1 h hn) hpan
 rintro q i x own G1 nx1 lp0 lp1 Φr hq hx hn ⟨h0,h1,h2⟩ hlp next stop pan
 refine hround q i x G1 nx1 lp0 lp1 Φr hq hx hn h2 hlp (fun h3 h4 h5 h6=>next (fun _=>False) h3 (fun _ _ h=>h.elim) (fun o h7 h8 _=>h4 o h7 h8) ⟨by omega,fun _ h=>h,h5⟩ h6) (fun h3 h4 h5 h6=>stop (fun _=>False) h3 (fun _ _ h=>h.elim) (fun o h7 h8 _=>h4 o h7 h8) ⟨by omega,h5⟩ h6) pan
end Go.Abs

/- The program: how a node depends on each source. -/
open Go Go.Abs
namespace Go.Abs
set_option maxRecDepth 100000
set_option maxHeartbeats 4000000
instance fnis329:FnIs CC 29:=⟨rfl,fun _=>rfl⟩
instance fnis381:FnIs CC 81:=⟨rfl,fun _=>rfl⟩
theorem ret381 (e:Exp):Ret CC 81 [e.iv] (.fn (.func 147) [.fptr e.iv.cells 0]):=by
 obtain ⟨op,name,n,fold,calcs,kids⟩:=e
 refine Ret.of (fn:=Go.Proofs.Tryz.f81) (by kernel_rfl) rfl rfl ?_
 refine BB ?_
 exact W.retFin1 rfl ⟨_,rfl⟩
theorem W.retFinC2 {C:Cfg} {fid nt nx:Nat} {l:Env} {G:Nat->Obj} {a b:Nat} {t u:TypeId} {o o2:Nat} {k k2:TyI} {fr fr2:Bool} {v w:AV} {Ψ:AV->(Nat->Obj)->Nat->Prop} [hk:TyIs C t k] [hk2:TyIs C u k2] (ha:look l a=some (.ptr o 0)) (hG:G o = .box [v] fr) (hs:k.sz=1) (hg:k.d.isAgg=false)
  (hb:look l b=some (.ptr o2 0)) (hG2:G o2 = .box [w] fr2) (hs2:k2.sz=1) (hg2:k2.d.isAgg=false) (h:Ψ (mkTup [v,w]) G nx) :
  W C fid nt .ret l G nx [] .no (fin C [.cell a t, .cell b u] Ψ):=
 .ret fun t' ht=>⟨rfl,rfl,mkTup [v,w],by
  have e3:∀ x:AV,Go.Abs.sub [x] 0 1=some [x]:=fun _=>rfl
  simp only [resultsA,resultsL,resultA,ht _ _ ha,ht _ _ hb,aLoad,hk.is,hk2.is,readAt,hG,hG2,hs,hs2,e3,hg,hg2,Bool.false_eq_true,if_false],h⟩
theorem ret329 {p:Pgm} (hp:p.Fits) (d node:Int) (hnw:node<=9223372036854775807):Ret CC 29 [p.iv, .int .i64 d, .int .i64 node] (rowIV (nodeA p d node)):=by
 have h380:=ret380 hp d
 unfold nodeA
 cases hh:hasR p d with
 |false=>
  rw [hh] at h380
  obtain ⟨srcs,defs⟩:=p
  have bt:(!false)=true:=rfl
  refine Ret.of (fn:=Go.Proofs.Tryz.f29) (by kernel_rfl) rfl rfl ?_
  refine BB ?_
  exact W.retFinC2 rfl rfl rfl rfl rfl rfl rfl rfl ⟨[],rfl⟩
 |true=>
  obtain ⟨hpr,n,x,rfl,hx⟩:=hasR_at hh
  have hdl:=(List.getElem?_eq_some_iff.1 hx).1
  have h376:=ret376 hp hpr
  obtain ⟨hW,hI⟩:=lagsR_far hpr
  have hsm:=progR_small hpr
  have h4:=hsm.srcs
  rw [Int.toNat_natCast,expAt_at hx]
  rw [hh] at h380
  have bf:(!true)=false:=rfl
  have hxi:=at_map Dfn.iv hx
  have hcnt:=hsm.cnt n
  have hnp:=progR_nodeP hpr hdl
  rw [expAt_at hx] at hcnt hnp
  have h381:=ret381 x.exp
  have hfit:=hp.exp x (List.mem_of_getElem? hx)
  cases h1:decide (node < 0) with
  |true=>
   refine Ret.of (fn:=Go.Proofs.Tryz.f29) (by kernel_rfl) rfl rfl ?_
   refine BB ?_
   exact W.retFinC2 rfl rfl rfl rfl rfl rfl rfl rfl ⟨[],rfl⟩
  |false=>
   have g1:=of_decide_eq_false h1
   obtain ⟨s,rfl⟩:=Int.eq_ofNat_of_zero_le (show 0<=node by omega)
   have hxc:=x.cells_len
   have hexp:=fun y (hy:y∈allE x.exp) G nx lo hi kv=>@cal382 p hp hpr (lagsR p) 40000000 (by omega) hW hI 1000 y (by have:=(allE_in x.exp hy).2;omega) (Nat.le_refl _) (fun z hz=>hnp z ((allE_in x.exp hy).1 z hz)) G nx lo hi kv
   rw [Int.toNat_natCast]
   obtain ⟨nm,ex⟩:=x
   simp only at *
   have hex:=ex
   obtain ⟨o',s',n',f',c',k'⟩:=ex
   refine Ret.of (fn:=Go.Proofs.Tryz.f29) (by kernel_rfl) rfl rfl ?_
   refine BB ?_
   refine W.gen' (fun G2=>G2 0 = .box [.imm (.lst (p.srcs.map sv)), .imm (.lst (p.defs.map Dfn.iv))] false/\G2 1 = .box [.imm (.int .i64 s)] false/\G2 2 = .box [.nils] false/\G2 3 = .box [.imm (.int .i64 0)] false) ⟨rfl,rfl,rfl,rfl⟩ ?_
   rintro G ⟨g0,g1,g2,g3⟩
   refine W.nodesL (.mk o' s' n' f' c' k') hfit (fun i G1=>(∀ o,o < 19->o≠1->G1 o=G o)/\i<=s/\G1 1 = .box [.imm (.int .i64 ((s:Int)-(i:Int)))] false) (fun G1=>∃ y,(allE (.mk o' s' n' f' c' k'))[s]? = some y/\G1 2 = .box [.imm (lagsIV (allL p (lagsR p) y))] false/\G1 3 = .box [.imm (.int .i64 0)] false) (fun _ _ _=>False)
    rfl rfl rfl rfl rfl ?_ ?_ ?_ ?_ ?_ ?_ ?_
   ·rintro i G1 G2 ⟨a1,a2,a3⟩ hG
    exact ⟨fun o h5 h6=>(hG o h5).trans (a1 o h5 h6),a2,(hG 1 (by omega)).trans a3⟩
   ·rintro G1 G2 ⟨y,hy,a2,a3⟩ hG
    exact ⟨y,hy,(hG 2 (by omega)).trans a2,(hG 3 (by omega)).trans a3⟩
   ·exact ⟨fun _ _ _=>rfl,Nat.zero_le _,by simpa using g1⟩
   ·rintro q i y G1 nx1 lp0 lp1 Φr hq hy hn ⟨a1,a2,a3⟩ hlp next stop _
    have hym:=List.mem_of_getElem? hy
    have hc:=hexp y hym
    obtain ⟨oy,sy,ny,fy,cy,ky⟩:=y
    refine W.regionN ?_
    refine AQ ?_
    refine R.doneAstQ at_upd ?_
    refine W.gen' (fun G2=>G2 (nx1+0) = .box [.imm (.int .i64 oy), .imm (sv sy), .imm (.int .i64 ny), .imm (.int .i64 fy), .imm (.lst (Trm.ivs cy)), .imm (.lst (Exp.ivs ky))] false/\G2 q=lp1/\∀ o,o < nx1->o≠q->G2 o=G1 o) ⟨at_upd,at_upd,fun o _ _=>at_upd⟩ ?_
    rintro G2 ⟨hbx,hlp2,hfr2⟩
    have b0:=(hfr2 0 (by omega) (by omega)).trans ((a1 0 (by omega) (by omega)).trans g0)
    have b1:=(hfr2 1 (by omega) (by omega)).trans a3
    have b2:=(hfr2 2 (by omega) (by omega)).trans ((a1 2 (by omega) (by omega)).trans g2)
    have b3:=(hfr2 3 (by omega) (by omega)).trans ((a1 3 (by omega) (by omega)).trans g3)
    rcases Bool.eq_false_or_eq_true (((s:Int)-(i:Int))==0) with hA|hA
    ·have hsi:s=i:=by have:=beq_iff_eq.1 hA;omega
     subst hsi
     have hal:(allL p (lagsR p) (.mk oy sy ny fy cy ky)).length=p.srcs.length:=by simp [allL]
     have h378:=ret378 (l:=allL p (lagsR p) (.mk oy sy ny fy cy ky)) (by omega)
     generalize hA:allL p (lagsR p) (.mk oy sy ny fy cy ky)=A at *
     refine BN ?_
     refine D.callB rfl rfl rfl rfl rfl (by kernel_rfl) ((hc G2 _ 0 0 _ (.inl rfl) (by omega)).mono fun v G3 nx3 hv=>?_)
     obtain ⟨⟨ov,frv,hv1,hv2,rfl,hv3⟩,hn3,hG3⟩:=hv
     refine D.opU (O.callFz rfl (peeks_one (peek_row1 hv3 (by simp)) peeks_nil) h378 rfl) rfl rfl ?_
     refine D.gen' (fun G4=>G4 2 = .box [.nils] false/\G4 3 = .box [.imm (.int .i64 0)] false/\G4 q=lp1/\∀ o,q+2<=o->o < nx1->G4 o=G1 o) ⟨(frz1_ne (q:=ov) (by omega)).trans ((hG3 2 (by omega)).trans b2),(frz1_ne (q:=ov) (by omega)).trans ((hG3 3 (by omega)).trans b3),(frz1_ne (q:=ov) (by omega)).trans ((hG3 q (by omega)).trans hlp2),fun o h5 h6=>(frz1_ne (q:=ov) (by omega)).trans ((hG3 o (by omega)).trans (hfr2 o h6 (by omega)))⟩ ?_
     rintro G4 ⟨d2,d3,dlp,dfr⟩
     refine BB ?_
     exact stop (by omega) (fun o h5 h6=>Eq.trans at_upd (dfr o h5 h6)) ⟨_,hy,by rw [hA];exact at_upd,at_upd⟩ (Eq.trans at_upd dlp)
    ·have hsi:s≠i:=fun h=>by subst h;simp at hA
     refine BN ?_
     exact next (by omega) (fun o h5 h6=>(upd_ne _ _ _ _ (by omega)).trans (hfr2 o h6 (by omega))) ⟨fun o h5 h6=>(upd_ne _ _ _ _ (by omega)).trans ((hfr2 o (by omega) (by omega)).trans (a1 o h5 h6)),by omega,by rw [show ((s:Int)-((i+1:Nat):Int))=(s:Int)-(i:Int) + -1 by omega];exact upd_same ..⟩ ((upd_ne _ _ _ _ (by omega)).trans hlp2)
   ·rintro G1 nx1 ⟨a1,a2,a3⟩ hn
    have hge:((s:Int)>=((allE (.mk o' s' n' f' c' k')).length:Int)):=by omega
    rw [decide_eq_true hge]
    have b2:=(a1 2 (by omega) (by omega)).trans g2
    have b3:=(a1 3 (by omega) (by omega)).trans g3
    refine BN ?_
    refine W.retFinC2 rfl at_upd rfl rfl rfl at_upd rfl rfl ⟨[],rfl⟩
   ·rintro G1 nx1 ⟨y,hy,a2,a3⟩ hn
    have hlt:=(List.getElem?_eq_some_iff.1 hy).1
    rw [decide_eq_false (show ¬ ((s:Int)>=((allE (.mk o' s' n' f' c' k')).length:Int)) by omega),show (allE (.mk o' s' n' f' c' k')).getD s (.mk 0 [] 0 0 [] [])=y by rw [List.getD_eq_getElem?_getD,hy];rfl]
    refine BN ?_
    exact W.retFinC2 rfl a2 rfl rfl rfl a3 rfl rfl ⟨[],rfl⟩
   ·rintro u G1 nx1 hf
    exact hf.elim
end Go.Abs

/- The chapter's examples of lags: what the kernel reckons of them. -/
open Go Go.Abs
namespace Go.Abs
set_option maxRecDepth 100000
instance fnisEx:FnIs CC 62:=⟨rfl,fun _=>rfl⟩
theorem Ret.inj {f:FuncId} {ivs:List IV} {x y:IV} (hx:Ret CC f ivs x) (hy:Ret CC f ivs y):x=y:=by
 obtain ⟨n,v,G,nx,pk,ids,h1,h2⟩:=hx
 obtain ⟨m,w,H,ny,qk,jds,g1,g2⟩:=hy
 have a1:=(low_mono (C:=CC) (Nat.le_max_left n m)).1 _ _ _ _ _ _ h1
 have a2:=(low_mono (C:=CC) (Nat.le_max_right n m)).1 _ _ _ _ _ _ g1
 rw [a1] at a2
 cases a2
 rw [h2] at g2
 cases g2
 rfl
def exP:Pgm:=⟨[[120],[121]],[⟨[97], .mk 15 [] 0 0 [] [.mk 1 [120] 0 0 [] []]⟩,⟨[98], .mk 4 [] 0 0 [] [.mk 9 [] 5 2 [] [.mk 2 [97] 0 0 [] []], .mk 3 [98] 3 0 [] []]⟩,⟨[99], .mk 14 [] 2 0 [] [.mk 2 [97] 0 0 [] [], .mk 1 [121] 0 0 [] []]⟩]⟩
def exL:List (List Lg):=[[⟨true,false,0,0⟩,Lg.z],[⟨true,true,0,0⟩,Lg.z],[⟨true,false,0,0⟩,⟨true,false,2,2⟩]]
theorem retEx:Ret CC 62 [] exP.iv:=Ret.reckon (n:=20) (by kernel_rfl)
theorem retExP:Ret CC 20 [exP.iv] (.bool true):=Ret.reckon (n:=60) (by kernel_rfl)
theorem retExOf:Ret CC 76 [exP.iv] (knIV exP exL):=Ret.reckon (n:=60) (by kernel_rfl)
theorem retExI:Ret CC 38 [intsIV [13,15],intsIV [13,15]] (.bool true):=Ret.reckon (n:=20) (by kernel_rfl)
end Go.Abs

/- The chapter's examples of lags hold. -/
open Go Go.Abs
namespace Go.Abs
set_option maxRecDepth 100000
set_option maxHeartbeats 4000000
instance fnis333:FnIs CC 33:=⟨rfl,fun _=>rfl⟩
theorem exE (op:Int) (name:Str) (n fold:Int) (kids:List Exp) (h1:name.length<=10) (h2 : -50<=n/\n<=50) (h3:kids.length<=10) (hk:∀ k∈kids,Exp.Fits k):Exp.Fits (.mk op name n fold [] kids):=
 .mk _ _ _ _ _ _ (by unfold maxI;omega) (by
  show (decide (IntKind.i64.min<=n)&&decide (n<=IntKind.i64.max))=true
  rw [Bool.and_eq_true,decide_eq_true_eq,decide_eq_true_eq,show IntKind.i64.min = -9223372036854775808 from rfl,show IntKind.i64.max=9223372036854775807 from rfl];omega) (Nat.zero_le _) (by unfold maxI;omega) (fun _ h=>by cases h) hk
theorem no_kids:∀ k∈([]:List Exp),Exp.Fits k:=fun _ h=>by cases h
theorem two_all {α:Type} {P:α->Prop} {x y:α} (hx:P x) (hy:P y):∀ k∈[x,y],P k:=fun k h=>by
 rcases List.mem_cons.1 h with rfl|h
 ·exact hx
 ·rw [List.mem_singleton.1 h];exact hy
theorem one_all {α:Type} {P:α->Prop} {x:α} (hx:P x):∀ k∈[x],P k:=fun k h=>by rw [List.mem_singleton.1 h];exact hx
theorem exF:exP.Fits where
 srcs:=by decide
 src:=by decide
 defs:=by decide
 name:=by decide
 exp:=by
  have l:=fun op name h1=>exE op name 0 0 [] h1 (by decide) (by decide) no_kids
  intro d hd
  rcases List.mem_cons.1 hd with rfl|hd
  ·exact exE _ _ _ _ _ (by decide) (by decide) (by decide) (one_all (l 1 [120] (by decide)))
  rcases List.mem_cons.1 hd with rfl|hd
  ·exact exE _ _ _ _ _ (by decide) (by decide) (by decide) (two_all (exE _ _ _ _ _ (by decide) (by decide) (by decide) (one_all (l 2 [97] (by decide)))) (exE _ _ _ _ _ (by decide) (by decide) (by decide) no_kids))
  rw [List.mem_singleton.1 hd]
  exact exE _ _ _ _ _ (by decide) (by decide) (by decide) (two_all (l 2 [97] (by decide)) (l 1 [121] (by decide)))
theorem exR:progR exP=true:=by
 have:=Ret.inj (ret36 exP exF) retExP
 cases hb:progR exP with
 |true=>rfl
 |false=>rw [hb] at this;cases this
theorem lag_inj {a b:Lg} (h:a.iv=b.iv):a=b:=by
 obtain ⟨o,e,x,y⟩:=a
 obtain ⟨o',e',x',y'⟩:=b
 rw [Lg.iv_mk,Lg.iv_mk] at h
 cases h;rfl
theorem map_inj' {α β:Type} {f:α->β} (hf:∀ a b,f a=f b->a=b):∀ {l m:List α},l.map f=m.map f->l=m
 |[],[],_=>rfl
 |[],_::_,h=>by cases h
 |_::_,[],h=>by cases h
 |a::l,b::m,h=>by
  rw [List.map_cons,List.map_cons,List.cons.injEq] at h
  rw [hf a b h.1,map_inj' hf h.2]
theorem exLags:lagsR exP=exL:=by
 have h:=Ret.inj (ret376 exF exR) retExOf
 unfold knIV at h
 have h2:(lagsR exP).map lagsIV=exL.map lagsIV:=by
  simp only [IV.fptr.injEq,List.cons.injEq,IV.lst.injEq] at h
  exact h.1.2.2.2.1
 exact map_inj' (fun a b hab=>map_inj' (fun _ _=>lag_inj) (by unfold lagsIV at hab;exact IV.lst.inj hab)) h2
theorem exHas {d:Int} (h:0<=d/\d < 3):hasR exP d=true:=by
 unfold hasR
 rw [exR,decide_eq_true (by omega),decide_eq_true (show d < ((exP.defs.length:Nat):Int) from h.2)];rfl
theorem Ret.eq {f:FuncId} {ivs:List IV} {x y:IV} (h:Ret CC f ivs x) (e:x=y):Ret CC f ivs y:=e▸h
theorem ret333:Ret CC 33 [] (.bool true):=by
 have hEx:=retEx
 have hOf:=ret327 exF
 have hNode:=ret329 exF 2 0 (by decide)
 have hSeal:=fun (m:List Int) (h:m.length<=maxI)=>ret334 exF h 2
 have hNeed:=ret336 exF 2 12
 have hT1:=ret339 exF 2 1 11
 have hT2:=ret339 exF 0 1 11
 unfold ofA at hOf
 unfold nodeA at hNode
 unfold sealA at hSeal
 unfold needA at hNeed
 unfold touchA at hT1 hT2
 rw [exR] at hOf
 rw [exHas (by decide)] at hNode hNeed hT1 hT2
 simp only [exHas (d:=2) (by decide)] at hSeal
 simp only [exLags] at hOf hNode hSeal hNeed hT1 hT2
 have hOf:Ret CC 27 [exP.iv] (.tup [.lst (exL.map lagsIV), .int .i64 0]):=hOf.eq (by kernel_rfl)
 have hNode:Ret CC 29 [exP.iv, .int .i64 2, .int .i64 0] (.tup [lagsIV [⟨true,false,0,0⟩,⟨true,false,2,2⟩], .int .i64 0]):=hNode.eq (by kernel_rfl)
 have hSeal1:Ret CC 34 [exP.iv,intsIV [20,15], .int .i64 2] (.tup [.int .i64 13, .int .i64 0]):=(hSeal [20,15] (by decide)).eq (by kernel_rfl)
 have hSeal2:Ret CC 34 [exP.iv,intsIV [201,199], .int .i64 2] (.tup [.int .i64 197, .int .i64 0]):=(hSeal [201,199] (by decide)).eq (by kernel_rfl)
 have hNeed:Ret CC 36 [exP.iv, .int .i64 2, .int .i64 12] (.tup [intsIV [13,15], .int .i64 0]):=hNeed.eq (by kernel_rfl)
 have hT1:Ret CC 39 [exP.iv, .int .i64 2, .int .i64 1, .int .i64 11] (.tup [.int .i64 9, .int .i64 13, .int .i64 0]):=hT1.eq (by kernel_rfl)
 have hT2:Ret CC 39 [exP.iv, .int .i64 0, .int .i64 1, .int .i64 11] (.tup [.int .i64 0, .int .i64 0, .int .i64 5]):=hT2.eq (by kernel_rfl)
 have hAll:Ret CC 31 [.lst (exL.map lagsIV), .lst (exL.map lagsIV)] (.bool true):=by
  have h:=ret331 (a:=exL) (b:=exL) (by
   have:=(lagsR_far exR).2
   rw [exLags] at this
   exact this.mono (by omega)) (by
   have:=(lagsR_far exR).2
   rw [exLags] at this
   exact this.mono (by omega)) (by decide) (fun i=>by
   rw [List.getD_eq_getElem?_getD]
   cases h:exL[i]? with
   |none=>exact Nat.zero_le _
   |some r=>
    have:=(lagsR_far exR).1
    rw [exLags] at this
    have:=this.row r (List.mem_of_getElem? h)
    show r.length<=1000
    rw [this];decide)
  exact h.eq (by rw [rowsEq_iff.2 rfl])
 have hSm:Ret CC 32 [lagsIV [⟨true,false,0,0⟩,⟨true,false,2,2⟩],lagsIV [⟨true,false,0,0⟩,⟨true,false,2,2⟩]] (.bool true):=by
  have hin:∀ x∈[(⟨true,false,0,0⟩:Lg),⟨true,false,2,2⟩],x.In 4294967296:=two_all ⟨by decide,by decide⟩ ⟨by decide,by decide⟩
  exact (ret332 hin hin (by decide)).eq (by rw [lagsEq_iff.2 rfl])
 have hInt:=retExI
 clear hSeal
 refine Ret.of (fn:=Go.Proofs.Tryz.f33) (by kernel_rfl) rfl rfl ?_
 refine BB ?_
 refine R.op0 (O.callG rfl (peeks_im (peeks_one (peek_row1 (xs:=[.int .i64 20, .int .i64 15]) at_upd rfl) (peeks_im peeks_nil))) hSeal1 rfl) rfl ?_
 refine BB ?_
 refine R.op0 (O.callG rfl (peeks_im (peeks_one (peek_row1 (xs:=[.int .i64 201, .int .i64 199]) at_upd rfl) (peeks_im peeks_nil))) hSeal2 rfl) rfl ?_
 refine BB ?_
 refine R.op0 (O.callG rfl rfl hAll rfl) rfl ?_
 refine BB ?_
 refine R.op0 (O.addrRX rfl inferInstance rfl rfl rfl rfl ⟨by decide,by decide⟩ rfl) rfl ?_
 refine BB ?_
 refine R.op0 (O.loadRX rfl rfl rfl rfl rfl rfl rfl) rfl ?_
 refine BB ?_
 refine R.op0 (O.callG rfl rfl hSm rfl) rfl ?_
 refine BB ?_
 refine R.op0 (O.callG rfl rfl hInt rfl) rfl ?_
 refine BB ?_
 exact W.retFin1 rfl ⟨[],rfl⟩
end Go.Abs

/- Programs without a definition, as the program makes them. -/
open Go Go.Abs
namespace Go.Abs
set_option maxRecDepth 100000
set_option maxHeartbeats 4000000
instance fnis21:FnIs CC 24:=⟨rfl,fun _=>rfl⟩
theorem W.retFinCC {C:Cfg} {fid nt nx:Nat} {l:Env} {G:Nat->Obj} {a b:Nat} {t u:TypeId} {o o2:Nat} {k k2:TyI} {cs:List AV} {fr fr2:Bool} {w:AV} {Ψ:AV->(Nat->Obj)->Nat->Prop} [hk:TyIs C t k] [hk2:TyIs C u k2] (ha:look l a=some (.ptr o 0)) (hG:G o = .box cs fr) (hs:Nat.beq cs.length k.sz=true) (hg:k.d.isAgg=true)
  (hb:look l b=some (.ptr o2 0)) (hG2:G o2 = .box [w] fr2) (hs2:k2.sz=1) (hg2:k2.d.isAgg=false) (h:Ψ (mkTup [mkAgg cs,w]) G nx) :
  W C fid nt .ret l G nx [] .no (fin C [.cell a t, .cell b u] Ψ):=
 .ret fun t' ht=>⟨rfl,rfl,mkTup [mkAgg cs,w],by
  have e:cs.length=k.sz:=Nat.eq_of_beq_eq_true hs
  have e2:Go.Abs.sub cs 0 k.sz=some cs:=by rw [<-e];exact sub_all cs
  have e3:Go.Abs.sub [w] 0 1=some [w]:=rfl
  simp only [resultsA,resultsL,resultA,ht _ _ ha,ht _ _ hb,aLoad,hk.is,hk2.is,readAt,hG,hG2,e2,hs2,e3,hg,hg2,if_true,Option.map_some,Bool.false_eq_true,if_false],h⟩
theorem peek_rows {G:Nat->Obj} {q1 n1 e1 s1 e2 s2 lo hi:Nat} {xs1 xs2:List IV} {fr1:Bool} {v:AV} (h1:G q1 = .row e1 s1 (xs1.map .imm) fr1) (hn1:xs1.length=n1) (ho:Own e2 s2 lo hi xs2 G v) :
  ∃ ids,Go.Abs.peek G pkDepth (.agg [.row q1 n1,v])=some (.agg [.lst xs1, .lst xs2],ids)/\∀ i∈ids,i=q1\/lo<=i:=by
 have hp:∀ x,Go.Abs.peek G 98 (.imm x)=some (x,[]):=fun x=>rfl
 have hrow:∀ {q n e s:Nat} {xs:List IV} {fr:Bool},G q = .row e s (xs.map .imm) fr->xs.length=n->Go.Abs.peek G 99 (.row q n)=some (.lst xs,[q]):=by
  intro q n e s xs fr h hn
  show Go.Abs.peek G (98+1) _=_
  unfold Go.Abs.peek
  rw [h]
  dsimp only
  rw [if_pos (by simpa using hn),peekL_imm hp]
 rcases ho with ⟨rfl,rfl⟩|⟨o,g1,g2,rfl,g4⟩
 ·refine ⟨[q1],?_,fun i hi => .inl (by simpa using hi)⟩
  have hn:Go.Abs.peek G 99 .nils=some (.lst [],[]):=rfl
  show Go.Abs.peek G (99+1) _=_
  unfold Go.Abs.peek
  rw [peekL,hrow h1 hn1,peekL,hn,peekL]
  rfl
 ·refine ⟨[q1,o],?_,fun i hi=>?_⟩
  ·show Go.Abs.peek G (99+1) _=_
   unfold Go.Abs.peek
   rw [peekL,hrow h1 hn1,peekL,hrow g4 rfl,peekL]
   rfl
  ·simp only [List.mem_cons,List.not_mem_nil,or_false] at hi
   rcases hi with rfl|rfl
   ·exact .inl rfl
   ·exact .inr g1
theorem Own.rdxF {e sz lo hi:Nat} {xs:List IV} {G G':Nat->Obj} {v:AV} (h:Own e sz lo hi xs G v) (hG:∀ o,lo<=o->o < hi->G' o=G o\/G' o=(G o).freeze):Rdx 1 G' (fun o=>lo<=o) v (.lst xs):=by
 rcases h with ⟨rfl,rfl⟩|⟨o,g1,g2,rfl,g4⟩
 ·exact .nils ..
 ·rcases hG o g1 g2 with h|h
  ·exact Rdx.row (d:=0) (e:=e) (sz:=sz) (fr:=false) (h.trans g4) (List.length_map ..) (All2.imms 0 _ _ _) g1
  ·exact Rdx.row (d:=0) (e:=e) (sz:=sz) (fr:=true) (by rw [h,g4];rfl) (List.length_map ..) (All2.imms 0 _ _ _) g1
theorem ret21 (p:Pgm) (hp:p.Fits) (d:Int):Ret CC 24 [p.iv, .int .i64 d] (.tup [(inlR p d).1.iv, .int .i64 (inlR p d).2]):=by
 have hr46:=ret46 p hp d
 unfold inlR
 have hat:=hasR_at (p:=p) (d:=d)
 cases hb:hasR p d with
 |false=>
  rw [hb] at hr46
  have bt:(!false)=true:=rfl
  simp only [Bool.false_eq_true,if_false]
  generalize lookedIV p=lk at *
  obtain ⟨srcs,defs⟩:=p
  refine Ret.of (fn:=Go.Proofs.Tryz.f24) (by kernel_rfl) rfl rfl ?_
  refine AA ?_
  exact W.retFinCC rfl rfl rfl rfl rfl rfl rfl rfl ⟨[],rfl⟩
 |true=>
  rw [hb] at hr46 hat
  obtain ⟨hpr,d,x,rfl,hx⟩:=hat rfl
  have hg:=countR_good (progR_count hpr)
  have hsm:=countR_sm (progR_count hpr)
  have hsz:=hg.size
  have hd6:=hg.defs
  have hs4:=hg.srcs
  have hfit:=hp.exp
  have hxm:=List.mem_of_getElem? hx
  have hxd:d < p.defs.length:=(List.getElem?_eq_some_iff.1 hx).1
  have hpR:=ret54 (inlP p d x) (inlP_fits hp hxm)
  unfold lookedIV at hpR
  generalize lookedIV p=lk at *
  simp only [if_true,Int.toNat_natCast,hx]
  have bf:(!true)=false:=rfl
  generalize ((inlP p d x).defs.length-1:Nat)=m1 at *
  generalize countR (inlP p d x)=m2 at *
  generalize progR (inlP p d x)=pr at *
  unfold inlP at hpR ⊢
  obtain ⟨srcs,defs⟩:=p
  simp only at *
  have hdm:(defs.map Dfn.iv).length=defs.length:=List.length_map ..
  have hxi:=at_map Dfn.iv hx
  have hxsm:=hsm x hxm
  obtain ⟨nd,⟨ox,sx,n2,fx,cx,kx⟩⟩:=x
  simp only at *
  have horc:CC.orc 50 [.lst (srcs.map sv)]=some (.own 9 1 (srcs.map sv)):=by
   show (if (srcs.map sv).all isStrIV=true/\(srcs.map sv).length<=4294967296 then some (OrcR.own 9 1 (srcs.map sv)) else none)=_
   rw [if_pos ⟨by rw [List.all_map];exact List.all_eq_true.2 fun _ _=>rfl,by simp;omega⟩]
  refine Ret.of (fn:=Go.Proofs.Tryz.f24) (by kernel_rfl) rfl rfl ?_
  refine AA ?_
  refine R.op1 (O.callOwnI rfl horc rfl rfl) rfl ?_
  refine AA ?_
  refine W.loop (X:=Nat×AV) (fun x=>[(1, .imm (natIV d)),(2, .ptr 0 0),(4, .ptr 1 0),(5, .ptr 2 0),(8, .ptr 18 0),(9, .ptr 24 0),(32, .imm (.lst (defs.map Dfn.iv))),(33, .imm (.int .i64 (defs.map Dfn.iv).length)),(34, .imm (.int .i64 x.1))])
   (fun x nx G=>30<=nx/\G 0 = .box [.imm (.lst (srcs.map sv)), .imm (.lst (defs.map Dfn.iv))] false/\G 1 = .box ty29.zero.cells false/\G 2 = .box ty31.zero.cells false/\G 18 = .box [.imm (sv nd), .imm (.int .i64 ox), .imm (sv sx), .imm (.int .i64 n2), .imm (.int .i64 fx), .imm (.lst (Trm.ivs cx)), .imm (.lst (Exp.ivs kx))] false/\G 22 = .row 9 1 ((srcs.map sv).map AV.imm) false/\G 24 = .box [.row 22 (srcs.map sv).length,x.2] false/\x.1<=defs.length/\(defs.take x.1).any (asksD nd)=false/\Own 95 7 30 nx ((outs defs d nd (.mk ox sx n2 fx cx kx) x.1).map Dfn.iv) G x.2)
   (fun x=>defs.length-x.1) (0, .nils) .auto ⟨by omega,rfl,rfl,rfl,rfl,rfl,rfl,Nat.zero_le _,rfl,by rw [outs_zero];exact .nil ..⟩ ?_
  rintro ⟨i,w⟩ nx G ⟨hnx,h0,h1,h2,h18,h22,h24,hi,hno,ho⟩
  dsimp only at h24 hi hno ho ⊢
  obtain ⟨nx,rfl⟩:∃ m,nx=m+30:=⟨nx-30,by omega⟩
  have hw1:=ho.cells1
  have hw2:=ho.one1
  have hmk:mkAgg [.row 22 (srcs.map sv).length,w] = .agg [.row 22 (srcs.map sv).length,w]:=mkAgg_not ⟨.row 22 (srcs.map sv).length,by simp,by intro x h;cases h⟩
  rcases Bool.eq_false_or_eq_true (decide ((i:Int) < ((defs.map Dfn.iv).length:Int))) with hcc|hcc
  ·have hlt:i < defs.length:=by have:=of_decide_eq_true hcc;omega
   obtain ⟨y,hy⟩:=at_lt hlt
   have hyi:=at_map Dfn.iv hy
   have hdc:=y.cells_len
   have hym:=List.mem_of_getElem? hy
   have hmu:defs.length-(i+1) < defs.length-i:=by omega
   have hyf:=hfit y hym
   have hr49:=ret49 y.exp
   have hr57:=ret57 (nm:=nd) (hsm y hym) hxsm
   have hany:∀ b,asksD nd y=b->(defs.take (i+1)).any (asksD nd)=b:=fun b hb=>by
    rw [List.take_add_one,hy,List.any_append,hno];simp [hb]
   have hall:asksD nd y=true->defs.any (asksD nd)=true:=fun h=>any_at hy h
   have hnext:=fun h=>outs_at (d:=d) (nm:=nd) (rep := .mk ox sx n2 fx cx kx) hy h
   have hlen:=outs_len (defs:=defs) (d:=d) (nm:=nd) (rep := .mk ox sx n2 fx cx kx) (i:=i)
   obtain ⟨ny,⟨oy,sy,n1,fy,cy,ky⟩⟩:=y
   simp only [asksD] at hr57 hyf hany hall hnext
   refine AA ?_
   refine W.gen' (fun G2=>G2 0 = .box [.imm (.lst (srcs.map sv)), .imm (.lst (defs.map Dfn.iv))] false/\G2 1 = .box ty29.zero.cells false/\G2 2 = .box ty31.zero.cells false/\G2 18 = .box [.imm (sv nd), .imm (.int .i64 ox), .imm (sv sx), .imm (.int .i64 n2), .imm (.int .i64 fx), .imm (.lst (Trm.ivs cx)), .imm (.lst (Exp.ivs kx))] false/\G2 22 = .row 9 1 ((srcs.map sv).map AV.imm) false/\G2 24 = .box [.row 22 (srcs.map sv).length,w] false/\Own 95 7 30 (nx+30) ((outs defs d nd (.mk ox sx n2 fx cx kx) i).map Dfn.iv) G2 w/\G2 (nx+30+1+3) = .box [.imm (sv ny), .imm (.int .i64 oy), .imm (sv sy), .imm (.int .i64 n1), .imm (.int .i64 fy), .imm (.lst (Trm.ivs cy)), .imm (.lst (Exp.ivs ky))] false)
    ⟨at_upd,at_upd,at_upd,at_upd,at_upd,at_upd,ho.fr,at_upd⟩ ?_
   clear h0 h1 h2 h18 h22 h24 ho G
   rintro G ⟨h0,h1,h2,h18,h22,h24,ho,h34⟩
   refine W.nodes _ hyf (fun k G1=>(∀ o,o < nx+40->G1 o=G o)/\((allE (.mk oy sy n1 fy cy ky)).take k).any (asksE nd)=false) (fun G1=>G1 1 = .box ty29.zero.cells false/\G1 2 = .box [.imm (.int .i64 7)] false/\(allE (.mk oy sy n1 fy cy ky)).any (asksE nd)=true) (fun _ _ _=>False)
    rfl rfl rfl rfl rfl ?_ ?_ ?_ ?_ ?_ ?_ ?_
   ·rintro k G1 G2 ⟨h3,h4⟩ hG
    exact ⟨fun o h5=>(hG o (by omega)).trans (h3 o h5),h4⟩
   ·rintro G1 G2 ⟨h3,h4,h5⟩ hG
    exact ⟨(hG 1 (by omega)).trans h3,(hG 2 (by omega)).trans h4,h5⟩
   ·exact ⟨fun _ _=>rfl,rfl⟩
   ·rintro q k z G1 nx1 lp0 lp1 Φr hq hza hn ⟨h3,h4⟩ hlp next stop _
    have hst:asksE nd z=false->((allE (.mk oy sy n1 fy cy ky)).take (k+1)).any (asksE nd)=false:=fun h=>by
     rw [List.take_add_one,hza,List.any_append,h4];simp [h]
    have hhit:asksE nd z=true->(allE (.mk oy sy n1 fy cy ky)).any (asksE nd)=true:=fun h=>any_at hza h
    obtain ⟨oz,sz,nz,fz,cz,kz⟩:=z
    simp only [asksE,Exp.op,Exp.name] at hst hhit
    refine W.regionN ?_
    refine AQ ?_
    refine R.doneAstQ at_upd ?_
    refine W.gen' (fun G2=>G2 (nx1+0) = .box [.imm (.int .i64 oz), .imm (sv sz), .imm (.int .i64 nz), .imm (.int .i64 fz), .imm (.lst (Trm.ivs cz)), .imm (.lst (Exp.ivs kz))] false/\G2 q=lp1/\∀ o,o < nx1->o≠q->G2 o=G1 o) ⟨at_upd,at_upd,fun o _ _=>at_upd⟩ ?_
    rintro G2 ⟨hbx,hlp2,hfr2⟩
    have g1:=(hfr2 1 (by omega) (by omega)).trans ((h3 1 (by omega)).trans h1)
    have g2:=(hfr2 2 (by omega) (by omega)).trans ((h3 2 (by omega)).trans h2)
    have g18:=(hfr2 18 (by omega) (by omega)).trans ((h3 18 (by omega)).trans h18)
    rcases Bool.eq_false_or_eq_true (oz==3) with hA|hA
    ·rcases Bool.eq_false_or_eq_true (sz==nd) with hB|hB
     ·refine AN ?_
      exact stop (by omega) (fun o g5 g6=>Eq.trans at_upd (hfr2 o g6 (by omega))) ⟨at_upd,at_upd,hhit (by rw [hA,hB];rfl)⟩ (Eq.trans at_upd hlp2)
     ·refine AN ?_
      exact next (by omega) (fun o g5 g6=>hfr2 o g6 (by omega)) ⟨fun o g5=>(hfr2 o (by omega) (by omega)).trans (h3 o g5),hst (by rw [hA,hB];rfl)⟩ hlp2
    ·refine AN ?_
     exact next (by omega) (fun o g5 g6=>hfr2 o g6 (by omega)) ⟨fun o g5=>(hfr2 o (by omega) (by omega)).trans (h3 o g5),hst (by rw [hA];rfl)⟩ hlp2
   ·rintro G1 nx1 ⟨h3,h4⟩ hn
    rw [List.take_length] at h4
    have hno':=hany false h4
    have g0:=(h3 0 (by omega)).trans h0
    have g1:=(h3 1 (by omega)).trans h1
    have g2:=(h3 2 (by omega)).trans h2
    have g18:=(h3 18 (by omega)).trans h18
    have g22:=(h3 22 (by omega)).trans h22
    have g24:=(h3 24 (by omega)).trans h24
    have g34:=(h3 (nx+30+1+3) (by omega)).trans h34
    have go:Own 95 7 30 (nx+30) ((outs defs d nd (.mk ox sx n2 fx cx kx) i).map Dfn.iv) G1 w:=ho.frame (Nat.le_refl _) fun o _ h=>h3 o (by omega)
    obtain ⟨nx1,rfl⟩:∃ m,nx1=m+40:=⟨nx1-40,by omega⟩
    clear h0 h1 h2 h18 h22 h24 h34 ho h3
    rcases Bool.eq_false_or_eq_true ((i:Int) != (d:Int)) with hne|hne
    ·have hne':i≠d:=fun h=>by rw [h] at hne;simp at hne
     have hnext:=hnext hne'
     generalize hput:putE nd (.mk ox sx n2 fx cx kx) (.mk oy sy n1 fy cy ky)=py at *
     have hput2:putD nd (.mk ox sx n2 fx cx kx) ⟨ny, .mk oy sy n1 fy cy ky⟩=⟨ny,py⟩:=by unfold putD;rw [hput]
     rw [hput2] at hnext
     obtain ⟨op,sp,np,fp,cp,kp⟩:=py
     refine AA ?_
     refine D.app1 go at_upd (by simp only [List.length_map,most];omega) fun v' G' rd o' ho' hG' hlo=>?_
     have hoo:Own 95 7 30 (nx1+40+3+16) ((outs defs d nd (.mk ox sx n2 fx cx kx) (i+1)).map Dfn.iv) G' v':=by rw [hnext,List.map_append];exact ho'
     have hv1:=ho'.cells1
     have hv2:=ho'.one1
     have g0:=(hG' 0 (by omega)).trans (Eq.trans at_upd g0)
     have g1:=(hG' 1 (by omega)).trans (Eq.trans at_upd g1)
     have g2:=(hG' 2 (by omega)).trans (Eq.trans at_upd g2)
     have g18:=(hG' 18 (by omega)).trans (Eq.trans at_upd g18)
     have g22:=(hG' 22 (by omega)).trans (Eq.trans at_upd g22)
     have g24:=(hG' 24 (by omega)).trans (Eq.trans at_upd g24)
     refine AD ?_
     refine D.skip (by kernel_rfl) ?_
     refine AA ?_
     exact W.skipLop (i+1,v') hmu .auto ⟨by omega,at_upd,at_upd,at_upd,at_upd,at_upd,at_upd,hlt,hno',hoo.fr⟩
    ·have hne':i=d:=by
      have:((i:Int)==(d:Int))=true:=by simpa [bne] using hne
      have:=beq_iff_eq.1 this;omega
     refine AA ?_
     refine W.skipLop (i+1,w) hmu .auto ⟨by omega,g0,g1,g2,g18,g22,g24,hlt,hno',?_⟩
     show Own 95 7 30 _ ((outs defs d nd (.mk ox sx n2 fx cx kx) (i+1)).map Dfn.iv) _ w
     subst hne'
     rw [outs_same]
     exact go.up (by omega)
   ·rintro G1 nx1 ⟨h3,h4,h5⟩ hn
    rw [hall h5,if_pos rfl]
    refine AA ?_
    exact W.retFinCC rfl h3 rfl rfl rfl h4 rfl rfl ⟨[],rfl⟩
   ·intro _ _ _ h;exact h.elim
  ·have hge:defs.length<=i:=by have:=of_decide_eq_false hcc;omega
   rw [List.take_of_length_le hge] at hno
   rw [outs_all hge hxd] at ho
   rw [hno,if_neg (by decide)]
   obtain ⟨ids,hids,hidm⟩:=peek_rows h22 rfl ho
   cases pr with
   |true=>
    rw [if_pos rfl] at hpR
    have hft:AV.fits 2 (.agg [.row 22 (srcs.map sv).length,w])=true:=by
     show ((2==2)&&(true&&(w.one&&true)))=true
     rw [hw2];rfl
    refine AA ?_
    refine R.opU (O.callFz (ids:=ids) rfl (peeks_cons (vs:=[]) ((congrArg (Go.Abs.peek G pkDepth) hmk).trans hids)) hpR rfl) rfl ?_
    have hun:∀ o,o < 30->o≠22->updL G (frz ids) o=G o:=fun o h1 h2=>by
     rw [updL_frz,if_neg]
     intro h
     rcases hidm o h with h|h<;>omega
    have hor:∀ o,updL G (frz ids) o=G o\/updL G (frz ids) o=(G o).freeze:=fun o=>by
     rw [updL_frz];split
     ·exact .inr rfl
     ·exact .inl rfl
    have hrw2:Rdx 2 (updL G (frz ids)) (fun o=>3<=o) (.agg [.row 22 (srcs.map sv).length,w]) (Pgm.mk srcs ((defs.eraseIdx d).map (putD nd (.mk ox sx n2 fx cx kx)))).iv:=by
     refine Rdx.agg (d:=1) (.cons ?_ (.cons ((ho.rdxF fun o _ _=>hor o).frame (fun _ _=>rfl) fun _ h=>by omega) .nil))
     rcases hor 22 with h|h
     ·exact Rdx.row (d:=0) (e:=9) (sz:=1) (fr:=false) (h.trans h22) (List.length_map ..) (All2.imms 0 _ _ _) (by omega)
     ·exact Rdx.row (d:=0) (e:=9) (sz:=1) (fr:=true) (by rw [h,h22];rfl) (List.length_map ..) (All2.imms 0 _ _ _) (by omega)
    have k1:=(hun 1 (by omega) (by omega)).trans h1
    have k2:=(hun 2 (by omega) (by omega)).trans h2
    have k24:=(hun 24 (by omega) (by omega)).trans h24
    generalize updL G (frz ids)=G3 at *
    refine AA ?_
    refine R.opN1 (O.storeP rfl (congrArg some hmk) hft k1 rfl rfl) ?_
    refine AA ?_
    refine W.retFinCC (cs:=[.row 22 (srcs.map sv).length,w]) rfl at_upd rfl rfl rfl at_upd rfl rfl ?_
    rw [hmk]
    exact Rdx.peek (d:=3) (P:=fun o=>3<=o) (Rdx.tup (d:=2) (.cons (hrw2.frame (fun o h=>at_upd) fun _ h=>h) (.cons (.imm ..) .nil))) (by decide)
   |false=>
    rw [if_neg (by decide)] at hpR
    refine AA ?_
    refine R.op0 (O.callG (ids:=ids) rfl (peeks_cons (vs:=[]) ((congrArg (Go.Abs.peek G pkDepth) hmk).trans hids)) hpR rfl) rfl ?_
    refine AA ?_
    exact W.retFinCC rfl at_upd rfl rfl rfl at_upd rfl rfl ⟨[],rfl⟩
end Go.Abs

/- Rings. -/
open Go Go.Abs
namespace Go.Abs
set_option maxRecDepth 100000
set_option maxHeartbeats 4000000
theorem O.conv {id:Nat} {l:Env} {G:Nat->Obj} {nx:Nat} {df:List (AV×List AV)} {pk:Pk} {t u:TypeId} {x:Operand} {k k':IntKind} {n:Int} {i j:TyI} [hi:TyIs CC t i] [hj:TyIs CC u j] (hk:j.d = .int k) (hx:lookO l x=some (.imm (.int k' n))) (hw:k.wrap n=n) :
  OpV CC id l G nx df pk (.convert t u x) (.imm (.int k n)) []:=
 O.of fun t L ht=>by simp only [opA,ht.ev hx,aConvert,hi.is,hj.is,hk,hw]
theorem remN (a n:Nat) (hn:0 < n):intOp .rem .i64 (a:Int) (n:Int)=some (.int .i64 ((a % n:Nat):Int)):=by
 have h0:¬ ((n:Int)=0):=by omega
 have:((a:Int).tmod n)=((a % n:Nat):Int):=by rw [Int.tmod_eq_emod_of_nonneg (by omega)];rfl
 simp only [intOp,if_neg h0,this]
end Go.Abs

/- LagWritten. -/
open Go Go.Abs
namespace Go.Abs
set_option maxRecDepth 100000
set_option maxHeartbeats 4000000
instance fnis342:FnIs CC 42:=⟨rfl,fun _=>rfl⟩
theorem ret342 {p:Pgm} {E:List (List Lg)} (hs:p.srcs.length<=1000) (hl:E.length=p.defs.length) (hd:E.length<=1000) (hr:∀ r∈E,r.length=p.srcs.length):Ret CC 42 [p.iv, .lst (E.map lagsIV)] (.bool true):=by
 have hDl:(E.map lagsIV).length=E.length:=List.length_map ..
 have hdm:(p.defs.map Dfn.iv).length=p.defs.length:=List.length_map ..
 have hsm:(p.srcs.map sv).length=p.srcs.length:=List.length_map ..
 have hc:(((E.map lagsIV).length:Int) != ((p.defs.map Dfn.iv).length:Int))=false:=by rw [hDl,hdm,hl];simp
 obtain ⟨srcs,defs⟩:=p
 simp only at *
 refine Ret.of (fn:=Go.Proofs.Tryz.f42) (by kernel_rfl) rfl rfl ?_
 refine BB ?_
 refine W.loop (X:=Nat) (fun i=>[(1, .imm (.lst (E.map lagsIV))),(2, .ptr 0 0),(5, .imm (.int .i64 i))]) (fun i nx G=>1<=nx/\i<=E.length/\G 0 = .box [.imm (.lst (srcs.map sv)), .imm (.lst (defs.map Dfn.iv))] false) (fun i=>E.length-i) 0 .auto ⟨by omega,Nat.zero_le _,rfl⟩ ?_
 rintro i nx G ⟨hnx,hi,g0⟩
 refine BB ?_
 refine W.cond rfl (fun h1=>?_) (fun h1=>?_)
 ·have hlt:i < E.length:=by have:=of_decide_eq_true h1;rw [hDl] at this;omega
  obtain ⟨r,hrr⟩:=at_lt hlt
  have h2:(E.map lagsIV)[((i:Nat):Int).toNat]? = some (.lst (r.map Lg.iv)):=at_map lagsIV hrr
  have h3:((r.map Lg.iv).length:Int)=((srcs.map sv).length:Int):=by rw [List.length_map,hsm,hr r (List.mem_of_getElem? hrr)]
  have b1:(((r.map Lg.iv).length:Int) != ((srcs.map sv).length:Int))=false:=by rw [h3];simp
  have hmu:E.length-(i+1) < E.length-i:=by omega
  refine BN ?_
  exact W.skipLop (i+1) hmu .auto ⟨by omega,hlt,g0⟩
 ·refine BB ?_
  exact W.retFin1 rfl ⟨[],rfl⟩
theorem rows_refl (a:List (List Lg)):rowsEq a a=true:=by
 unfold rowsEq
 rw [Bool.and_eq_true,beq_iff_eq,List.all_eq_true]
 exact ⟨rfl,fun i _=>lagsEq_iff.2 rfl⟩
theorem ret312 {p:Pgm} (hp:p.Fits) (a:Int) (hw:(Lit.int .u8 a).wf=true):Ret CC 12 [p.iv, .int .u8 a] (.bool true):=by
 have h36:=ret36 p hp
 have h7:=ret333
 have ha:0<=a/\a<=255:=by
  have h:(decide (IntKind.u8.min<=a)&&decide (a<=IntKind.u8.max))=true:=hw
  rw [Bool.and_eq_true,decide_eq_true_eq,decide_eq_true_eq] at h
  exact h
 obtain ⟨a,rfl⟩:=Int.eq_ofNat_of_zero_le ha.1
 cases hpr:progR p with
 |false=>
  rw [hpr] at h36
  obtain ⟨srcs,defs⟩:=p
  have bt:(!false)=true:=rfl
  refine Ret.of (fn:=Go.Proofs.Tryz.f12) (by kernel_rfl) rfl rfl ?_
  refine BB ?_
  exact W.retFin1 rfl ⟨[],rfl⟩
 |true=>
  rw [hpr] at h36
  have bf:(!true)=false:=rfl
  rcases Bool.eq_false_or_eq_true (((p.defs.map Dfn.iv).length:Int)==0) with hz|hz
  ·obtain ⟨srcs,defs⟩:=p
   simp only at hz
   refine Ret.of (fn:=Go.Proofs.Tryz.f12) (by kernel_rfl) rfl rfl ?_
   refine BB ?_
   exact W.retFin1 rfl ⟨[],rfl⟩
  have hn:0 < p.defs.length:=by
   rcases Nat.eq_zero_or_pos p.defs.length with h|h
   ·rw [List.length_map,h] at hz;cases hz
   ·exact h
  have hdm:(p.defs.map Dfn.iv).length=p.defs.length:=List.length_map ..
  have q1:=remN a p.defs.length hn
  rw [<-hdm] at q1
  have hd:a % (p.defs.map Dfn.iv).length < p.defs.length:=by rw [hdm];exact Nat.mod_lt _ hn
  generalize a % (p.defs.map Dfn.iv).length=d at *
  have hsm:=progR_small hpr
  obtain ⟨hW,hI⟩:=lagsR_far hpr
  have hI:=hI.mono (show (40000000:Int)<=4294967296 by decide)
  have hrow:∀ r∈lagsR p,r.length=p.srcs.length:=hW.row
  have hlen:(lagsR p).length=p.defs.length:=hW.len
  have s6:=hsm.len
  have s4:=hsm.srcs
  have h342:=ret342 (p:=p) (E:=lagsR p) (by omega) hlen (by omega) hrow
  have hrl:∀ {F:List (List Lg)},(∀ r∈F,r.length=p.srcs.length)->∀ i,(F.getD i []).length<=1000:=fun {F} h i=>by
   rw [List.getD_eq_getElem?_getD]
   cases hs:F[i]? with
   |none=>simp
   |some r=>have:=h r (List.mem_of_getElem? hs);simp only [Option.getD_some];omega
  have h331:=ret331 hI hI (by omega) (hrl hrow)
  rw [rows_refl] at h331
  have hE:∀ {F:List (List Lg)},F=(lagsR p).eraseIdx d->Ret CC 31 [.lst (F.map lagsIV), .lst (((((lagsR p).map lagsIV).take d).drop 0)++(((lagsR p).map lagsIV).drop (d+1)))] (.bool true):=fun {F} h=>by
   have hm:∀ {r:List Lg},r∈F->r∈lagsR p:=fun {r} hr=>List.mem_of_mem_eraseIdx (h▸hr)
   have h1:=ret331 (a:=F) (b:=F) (fun r hr=>hI r (hm hr)) (fun r hr=>hI r (hm hr)) (by have:=List.length_eraseIdx_le (lagsR p) d;rw [h];omega) (hrl fun r hr=>hrow r (hm hr))
   rw [rows_refl] at h1
   have e:F.map lagsIV=(((lagsR p).map lagsIV).take d).drop 0++((lagsR p).map lagsIV).drop (d+1):=by
    rw [h,map_erase,List.eraseIdx_eq_take_drop_succ,List.drop_zero]
   rw [<-e];exact h1
  have h327:Ret CC 27 [p.iv] (.tup [.lst ((lagsR p).map lagsIV), .int .i64 0]):=by
   have:=ret327 hp
   unfold ofA rowsIV at this
   rwa [hpr] at this
  have h45:=ret45 hp
  rw [canonR_ok hpr] at h45
  have hcs:=canon_same hpr
  have h327c:Ret CC 27 [(canonP p).iv] (.tup [.lst ((lagsR p).map lagsIV), .int .i64 0]):=by
   have:=ret327 ((canonP_is hpr).fits hp)
   unfold ofA rowsIV at this
   rwa [hcs.1,hcs.2] at this
  have h21:=ret21 p hp (d:Int)
  have hq:(inlR p (d:Int)).2=0->∃ F:List (List Lg),F=(lagsR p).eraseIdx d/\Ret CC 27 [(inlR p (d:Int)).1.iv] (.tup [.lst (F.map lagsIV), .int .i64 0]):=fun h=>by
   obtain ⟨x,I,he⟩:=inl_is h
   rw [he]
   refine ⟨_,lags_inl I,?_⟩
   have:=ret327 (inlP_fits hp (d:=d) (List.mem_of_getElem? I.at'))
   unfold ofA rowsIV at this
   rwa [I.hq] at this
  have hEl:((lagsR p).map lagsIV).length=p.defs.length:=by rw [List.length_map,hlen]
  have hE1:∀ y∈(lagsR p).map lagsIV,y.cells.length=1/\(AV.imm y).fits 1=true:=fun y hy=>by
   obtain ⟨l,_,rfl⟩:=List.mem_map.1 hy
   exact ⟨rfl,rfl⟩
  generalize (lagsR p).map lagsIV=E at *
  generalize canonP p=c at *
  generalize inlR p (d:Int)=q at *
  obtain ⟨⟨qs,qd⟩,z⟩:=q
  obtain ⟨cs,cd⟩:=c
  obtain ⟨srcs,defs⟩:=p
  simp only at *
  have bz:((0:Int) != 0)=false:=rfl
  have bz2:((0:Int)==0)=true:=rfl
  rcases Bool.eq_false_or_eq_true (z != 0) with hzz|hzz
  ·refine Ret.of (fn:=Go.Proofs.Tryz.f12) (by kernel_rfl) rfl rfl ?_
   refine BB ?_
   refine R.op0 (O.conv rfl rfl (wrap64 (by omega))) rfl ?_
   refine BB ?_
   refine R.op0 (O.int rfl rfl q1) rfl ?_
   refine BB ?_
   exact W.retFin1 rfl ⟨[],rfl⟩
  ·obtain rfl:z=0:=by simpa using hzz
   obtain ⟨F,hD,h327q⟩:=hq rfl
   have hEE:=hE hD
   refine Ret.of (fn:=Go.Proofs.Tryz.f12) (by kernel_rfl) rfl rfl ?_
   refine BB ?_
   refine R.op0 (O.conv rfl rfl (wrap64 (by omega))) rfl ?_
   refine BB ?_
   refine R.op0 (O.int rfl rfl q1) rfl ?_
   refine BB ?_
   have hall:E.all (fun y=>y.cells.length==ty349.sz)=true:=List.all_eq_true.2 fun y hy=>by rw [(hE1 y hy).1];rfl
   refine D.op0 (O.sliceL (a:=0) (xs:=E) rfl rfl (boundE_at (n:=E.length) (i:=d) rfl rfl (by omega)) rfl hall) rfl rfl ?_
   have hf1:(((E.take d).drop 0).map AV.imm).all (AV.fits 1)=true:=fits_all fun y hy=>(hE1 y (List.mem_of_mem_take (List.mem_of_mem_drop hy))).2
   have hf2:((E.drop (d+1)).map AV.imm).all (AV.fits 1)=true:=fits_all fun y hy=>(hE1 y (List.mem_of_mem_drop hy)).2
   have hl1:(((E.take d).drop 0).map AV.imm).length=d:=by rw [List.length_map,List.length_drop,List.length_take];omega
   have hl2:((E.drop (d+1)).map AV.imm).length<=6:=by rw [List.length_map,List.length_drop];omega
   refine BD ?_
   refine D.op1 (O.appNil rfl rfl rfl rfl (ys:=((E.take d).drop 0).map AV.imm) rfl (by decide) (by decide) rfl hf1 (by rw [hl1];simp only [most];omega)) rfl rfl ?_
   rw [hl1]
   refine BD ?_
   refine D.op0 (O.sliceL (xs:=E) (b:=E.length) rfl rfl rfl (boundE_at (n:=E.length) (i:=d+1) rfl (by omega) (by omega)) hall) rfl rfl ?_
   rw [List.take_of_length_le (Nat.le_refl E.length)]
   refine BD ?_
   refine D.op1 (O.appRow (xs:=((E.take d).drop 0).map AV.imm) (ys:=(E.drop (d+1)).map AV.imm) rfl rfl rfl at_upd hl1 rfl rfl (by decide) (by decide) rfl hf2 (by simp only [most];omega)) rfl rfl ?_
   rw [<-List.map_append]
   have hpk:∀ {G:Nat->Obj} {o:Nat},G o = .row 49 1 (((E.take d).drop 0++E.drop (d+1)).map AV.imm) false->Go.Abs.peek G pkDepth (.row o (((E.take d).drop 0++E.drop (d+1)).map AV.imm).length)=some (.lst ((E.take d).drop 0++E.drop (d+1)),[o]):=fun h=>peek_row1 h (by rw [List.length_map])
   refine BD ?_
   refine D.op0 (O.callG rfl (peeks_im (peeks_one (hpk at_upd) peeks_nil)) hEE rfl) rfl rfl ?_
   refine BD ?_
   refine BB ?_
   exact W.retFin1 rfl ⟨[],rfl⟩
end Go.Abs
