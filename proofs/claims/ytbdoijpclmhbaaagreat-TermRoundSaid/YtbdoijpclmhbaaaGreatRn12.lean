/- What is kept of a formed program is formed. -/
import Derived.Test.YtbdoijpclmhbaaaGreatRn11
open Go Go.Abs
namespace Go.Abs
set_option maxRecDepth 100000
mutual
theorem calcR_more:∀ (c:Trm) (o:Bool) (depth left left2:Int),0<=calcR c o depth left->left<=left2->calcR c o depth left2=calcR c o depth left
 | .mk op n kids,o,depth,left,left2,h,hl=>by
  rw [calcR] at h ⊢
  by_cases h1:depth > 10\/left < 1
  ·rw [if_pos h1] at h;omega
  ·rw [if_neg h1] at h
   rw [if_neg (by omega)]
   conv=>rhs;rw [calcR,if_neg h1]
   cases hk:kidsOf op n o with
   |none=>rfl
   |some k=>
    rw [hk] at h
    dsimp only at h ⊢
    by_cases h2:kids.length≠k\/(op≠1/\n≠0)
    ·rw [if_pos h2] at h;omega
    ·rw [if_neg h2] at h
     rw [if_neg h2,if_neg h2]
     exact calcRs_more kids o depth left left2 1 h hl
theorem calcRs_more:∀ (l:List Trm) (o:Bool) (depth left left2 n:Int),0<=calcRs l o depth left n->left<=left2->calcRs l o depth left2 n=calcRs l o depth left n
 |[],_,_,_,_,_,_,_=>by rw [calcRs,calcRs]
 |k::r,o,depth,left,left2,n,h,hl=>by
  rw [calcRs] at h
  by_cases h1:calcR k o (depth+1) (left-n) < 0
  ·rw [if_pos h1] at h;omega
  ·rw [if_neg h1] at h
   have e:=calcR_more k o (depth+1) (left-n) (left2-n) (by omega) (by omega)
   rw [calcRs,calcRs,e,if_neg h1,if_neg h1]
   exact calcRs_more r o depth left left2 _ h hl
end
mutual
theorem expR_more {S1 D1 D2:List Str} {a1 a2:Nat}:∀ (e:Exp) (depth left left2:Int),(∀ x∈allE e,nameIs S1 D1 a1 x.op x.name=true->nameIs S1 D2 a2 x.op x.name=true)->0<=expR S1 D1 a1 e depth left->left<=left2->expR S1 D2 a2 e depth left2=expR S1 D1 a1 e depth left
 | .mk op name n fold calcs kids,depth,left,left2,hn,h,hl=>by
  have h0:=hn (.mk op name n fold calcs kids) (by rw [allE];exact List.mem_cons_self ..)
  simp only [Exp.op,Exp.name] at h0
  rw [expR] at h ⊢
  conv=>rhs;rw [expR]
  cases hs:shapeR op with
  |none=>rfl
  |some s=>
   rw [hs] at h
   dsimp only at h ⊢
   by_cases h1:depth > 10\/left < 1
   ·rw [if_pos h1] at h;omega
   ·rw [if_neg h1] at h
    rw [if_neg h1,if_neg (show ¬ (depth > 10\/left2 < 1) by omega)]
    by_cases h2:headIs S1 D1 a1 s op name n fold calcs.length kids.length=true
    ·rw [if_pos h2] at h
     have h3:headIs S1 D2 a2 s op name n fold calcs.length kids.length=true:=by
      unfold headIs at h2 ⊢
      rw [Bool.and_eq_true] at h2 ⊢
      exact ⟨h2.1,h0 h2.2⟩
     rw [if_pos h2,if_pos h3]
     by_cases h4:calcRs calcs (other op) 0 left 1 < 0
     ·rw [if_pos h4] at h;omega
     ·rw [if_neg h4] at h
      have e:=calcRs_more calcs (other op) 0 left left2 1 (by omega) hl
      rw [e,if_neg h4,if_neg h4]
      exact expRs_more kids depth left left2 _ (fun x hx=>hn x (by rw [allE];exact List.mem_cons_of_mem _ hx)) h hl
    ·rw [if_neg h2] at h;omega
theorem expRs_more {S1 D1 D2:List Str} {a1 a2:Nat}:∀ (l:List Exp) (depth left left2 n:Int),(∀ x∈allEs l,nameIs S1 D1 a1 x.op x.name=true->nameIs S1 D2 a2 x.op x.name=true)->0<=expRs S1 D1 a1 l depth left n->left<=left2->expRs S1 D2 a2 l depth left2 n=expRs S1 D1 a1 l depth left n
 |[],_,_,_,_,_,_,_=>by rw [expRs,expRs]
 |k::r,depth,left,left2,n,hn,h,hl=>by
  rw [expRs] at h
  by_cases h1:expR S1 D1 a1 k (depth+1) (left-n) < 0
  ·rw [if_pos h1] at h;omega
  ·rw [if_neg h1] at h
   have e:=expR_more (S1:=S1) (D1:=D1) (D2:=D2) (a1:=a1) (a2:=a2) k (depth+1) (left-n) (left2-n) (fun x hx=>hn x (by rw [allEs];exact List.mem_append_left _ hx)) (by omega) (by omega)
   rw [expRs,expRs,e,if_neg h1,if_neg h1]
   exact expRs_more r depth left left2 _ (fun x hx=>hn x (by rw [allEs];exact List.mem_append_right _ hx)) h hl
end
theorem countL_some {S1 D1 D2:List Str} {P:Nat->Bool}:∀ (ds:List Dfn) (i j:Nat) (n m:Int),0<=countL S1 D1 ds i n->0<=m->m<=n ->
  (∀ k d,ds[k]? = some d->P (i+k)=true->∀ x∈allE d.exp,nameIs S1 D1 (i+k) x.op x.name=true->nameIs S1 D2 (j+((List.range k).filter fun u=>P (i+u)).length) x.op x.name=true) ->
  0<=countL S1 D2 (takeD ds ((List.range ds.length).filter fun u=>P (i+u))) j m
 |[],_,_,_,m,_,hm,_,_=>hm
 |d::r,i,j,n,m,h,hm,hmn,hn=>by
  rw [countL] at h
  by_cases h1:expR S1 D1 i d.exp 1 (60-n) < 0
  ·rw [if_pos h1] at h;omega
  ·rw [if_neg h1] at h
   have hr:∀ (b:Nat),b=(if P i=true then 1 else 0)->∀ k d2,r[k]? = some d2->P (i+1+k)=true->∀ x∈allE d2.exp,nameIs S1 D1 (i+1+k) x.op x.name=true->nameIs S1 D2 (j+b+((List.range k).filter fun u=>P (i+1+u)).length) x.op x.name=true:=fun b hb k d2 hk hp x hx hnm=>by
    have:=hn (k+1) d2 (by simpa using hk) (by rw [<-hp];congr 1;omega) x hx (by rw [show i+(k+1)=i+1+k by omega];exact hnm)
    have e:((List.range (k+1)).filter fun u=>P (i+u)).length=b+((List.range k).filter fun u=>P (i+1+u)).length:=by
     rw [List.range_succ_eq_map,List.filter_cons,List.filter_map,hb,Nat.add_zero]
     have e2:((fun u=>P (i+u)) ∘ Nat.succ)=fun u=>P (i+1+u):=by
      funext u;simp only [Function.comp];congr 1;omega
     rw [e2]
     split
     ·rw [List.length_cons,List.length_map];omega
     ·rw [List.length_map];omega
    rw [e] at this
    rw [show j+b+((List.range k).filter fun u=>P (i+1+u)).length=j+(b+((List.range k).filter fun u=>P (i+1+u)).length) by omega]
    exact this
   have et:∀ (b:Bool),P i=b->takeD (d::r) ((List.range (d::r).length).filter fun u=>P (i+u))=(if b then [d] else [])++takeD r ((List.range r.length).filter fun u=>P (i+1+u)):=fun b hb=>by
    have e2:((fun u=>P (i+u)) ∘ Nat.succ)=fun u=>P (i+1+u):=by
     funext u;simp only [Function.comp];congr 1;omega
    unfold takeD
    rw [List.length_cons,List.range_succ_eq_map,List.filter_cons,Nat.add_zero,hb,List.filter_map,e2]
    cases b with
    |true=>rw [if_pos rfl,if_pos rfl,List.filterMap_cons,List.filterMap_map];rfl
    |false=>rw [if_neg (by decide),if_neg (by decide),List.filterMap_map];rfl
   cases hp:P i with
   |true=>
    rw [et true hp,if_pos rfl,List.cons_append,List.nil_append,countL]
    have h0:=hn 0 d rfl (by rw [Nat.add_zero];exact hp)
    have e:=expR_more (S1:=S1) (D1:=D1) (D2:=D2) (a1:=i) (a2:=j) d.exp 1 (60-n) (60-m) (fun x hx hnm=>h0 x hx hnm) (by omega) (by omega)
    rw [e,if_neg h1]
    exact countL_some r (i+1) (j+1) _ _ h (by omega) (by omega) (hr 1 (by rw [if_pos hp]))
   |false=>
    rw [et false hp,if_neg (by decide),List.nil_append]
    exact countL_some r (i+1) j _ _ h hm (by omega) (by simpa using hr 0 (by rw [if_neg (by rw [hp];decide)]))
theorem takeD_app (defs:List Dfn) (A B:List Nat):takeD defs (A++B)=takeD defs A++takeD defs B:=by unfold takeD;rw [List.filterMap_append]
theorem takeD_at {defs:List Dfn}:∀ {K:List Nat},(∀ i∈K,i < defs.length)->(takeD defs K).length=K.length/\∀ (m i:Nat),K[m]? = some i->(takeD defs K)[m]? = defs[i]?
 |[],_=>⟨rfl,fun m i h=>by simp at h⟩
 |a::K,h=>by
  obtain ⟨h1,h2⟩:=takeD_at (K:=K) fun i hi=>h i (List.mem_cons_of_mem _ hi)
  obtain ⟨d,hd⟩:=at_lt (h a (List.mem_cons_self ..))
  have e:takeD defs (a::K)=d::takeD defs K:=by unfold takeD;rw [List.filterMap_cons,hd]
  rw [e]
  refine ⟨by rw [List.length_cons,List.length_cons,h1],fun m i hm=>?_⟩
  cases m with
  |zero=>simp at hm;subst hm;rw [hd];rfl
  |succ m=>simpa using h2 m i (by simpa using hm)
theorem step_iff' {p:Pgm} (hc:0<=countR p) {e:Nat} (he:e < p.defs.length) {k:Nat}:k∈(tosR p).getD e []↔∃ y∈allE (expAt p e),isRef y/\idxN (nmsP p) y.name=k:=by
 obtain ⟨w,hw⟩:=at_lt he
 rw [(countR_good hc).tos.at' e w hw,expAt_at hw]
 unfold stepsN
 rw [(countR_parts hc).2.2.1,List.mem_map]
 constructor
 ·rintro ⟨y,hy,hk⟩
  obtain ⟨h1,h2⟩:=List.mem_filter.1 hy
  refine ⟨y,h1,?_,hk⟩
  unfold namesDef at h2
  unfold isRef
  simpa using h2
 ·rintro ⟨y,hy,ho,hk⟩
  refine ⟨y,List.mem_filter.2 ⟨hy,?_⟩,hk⟩
  unfold namesDef
  unfold isRef at ho
  simpa using ho
theorem nms_get {p:Pgm} {i:Nat} {w:Dfn} {s:Str} (hw:p.defs[i]? = some w) (h:(nmsP p)[i]? = some s):w.name=s:=by
 unfold nmsP at h
 rw [List.getElem?_map,hw] at h
 exact Option.some.inj h
theorem keepB_step {tos:List (List Nat)} {L:List Int} {i k:Nat} (h:keepB tos L i=true) (hk:k∈tos.getD i []):keepB tos L k=true:=by
 unfold keepB at h ⊢
 rw [List.any_eq_true] at h ⊢
 obtain ⟨d,h1,h2⟩:=h
 rw [Bool.or_eq_true,beq_iff_eq,reachB_iff] at h2
 refine ⟨d,h1,?_⟩
 rw [Bool.or_eq_true,beq_iff_eq,reachB_iff]
 rcases h2 with h2|h2
 ·rw [h2];exact .inr (.one hk)
 ·exact .inr (.more h2 hk)
theorem kept_prog {p:Pgm} (hb:progR p=true) (L:List Int):progR (keepP p L)=true:=by
 have hpp:=progR_parts hb
 have hc:=progR_count hb
 obtain ⟨⟨c1,c2,c3⟩,hdiff,hdn,_⟩:=countR_parts hc
 have hnd:=nms_nodup hb
 have hstep:=fun {k:Nat} (hk:k < p.defs.length) {y:Exp} (hy:y∈allE (expAt p k)) (ho:isRef y)=>(step_iff hb hk).2 ⟨y,hy,ho,rfl⟩
 have hname:=fun {k:Nat} (hk:k < p.defs.length) {y:Exp} (hy:y∈allE (expAt p k)) (ho:isRef y)=>ref_name hb hk hy ho
 have hlt:∀ i∈keepN p L,i < p.defs.length:=fun i hi=>List.mem_range.1 (List.mem_filter.1 hi).1
 obtain ⟨hql,hqa⟩:=takeD_at hlt
 have hkl:(keepN p L).length<=p.defs.length:=by
  have:=List.length_filter_le (keepB (tosR p) L) (List.range p.defs.length)
  rw [List.length_range] at this
  exact this
 have hsub:(nmsP (keepP p L)).Sublist (nmsP p):=by
  have h1:(takeD p.defs (keepN p L)).Sublist (takeD p.defs (List.range p.defs.length)):=List.Sublist.filterMap _ List.filter_sublist
  rw [takeD_all] at h1
  exact h1.map _
 have hsub2:(oldN (keepP p L)).Sublist (oldN p):=List.Sublist.append (List.Sublist.refl _) hsub
 have hdq:defNames (keepP p L)=nmsP (keepP p L):=dn_nms (by show (takeD p.defs (keepN p L)).length<=6;omega)
 have hin:∀ u,u < p.defs.length->keepB (tosR p) L u=true->∀ d,p.defs[u]? = some d->∀ F:List Nat,u∈F->d.name∈(takeD p.defs F).map Dfn.name:=fun u _ _ d hd F hF=>List.mem_map.2 ⟨d,List.mem_filterMap.2 ⟨u,hF,hd⟩,rfl⟩
 have hcount:0<=countR (keepP p L):=by
  have h0:0<=countL p.srcs (nmsP p) p.defs 0 0:=by
   have h:=hc
   unfold countR at h
   rw [if_neg (by omega),if_pos hdiff,hdn] at h
   exact h
  have hcl:=countL_some (S1:=p.srcs) (D1:=nmsP p) (D2:=nmsP (keepP p L)) (P:=keepB (tosR p) L) p.defs 0 0 0 0 h0 (Int.le_refl _) (Int.le_refl _) (by
   intro k d hd hP x hx hnm
   simp only [Nat.zero_add] at hP hnm ⊢
   have hk:k < p.defs.length:=(List.getElem?_eq_some_iff.1 hd).1
   have hx':x∈allE (expAt p k):=by rw [expAt_at hd];exact hx
   unfold nameIs at hnm ⊢
   by_cases o1:x.op=1
   ·rw [if_pos o1] at hnm ⊢;exact hnm
   ·rw [if_neg o1] at hnm ⊢
    have hu:isRef x->keepB (tosR p) L (idxN (nmsP p) x.name)=true/\idxN (nmsP p) x.name < p.defs.length/\(nmsP p)[idxN (nmsP p) x.name]? = some x.name:=fun ho=>by
     have h1:=hstep hk hx' ho
     exact ⟨keepB_step hP h1,step_lt hb hk h1,idxN_get hnd (hname hk hx' ho)⟩
    by_cases o2:x.op=2
    ·rw [if_pos o2] at hnm ⊢
     obtain ⟨h1,h2,h3⟩:=hu (.inl o2)
     have hlt2:idxN (nmsP p) x.name < k:=by
      have hm:x.name∈(nmsP p).take k:=by simpa using hnm
      obtain ⟨v,hv⟩:=List.mem_iff_getElem?.1 hm
      rw [List.getElem?_take] at hv
      by_cases hvk:v < k
      ·rw [if_pos hvk] at hv
       rw [idxN_at hnd hv];exact hvk
      ·rw [if_neg hvk] at hv;cases hv
     have hF:keepN p L=((List.range k).filter (keepB (tosR p) L))++(((List.range p.defs.length).drop k).filter (keepB (tosR p) L)):=by
      unfold keepN
      rw [<-List.filter_append]
      congr 1
      conv=>lhs;rw [<-List.take_append_drop k (List.range p.defs.length)]
      rw [List.take_range,Nat.min_eq_left (by omega)]
     have hA:=(takeD_at (defs:=p.defs) (K:=(List.range k).filter (keepB (tosR p) L)) fun i hi=>by have:=List.mem_range.1 (List.mem_filter.1 hi).1;omega).1
     have hn2:nmsP (keepP p L)=(takeD p.defs ((List.range k).filter (keepB (tosR p) L))).map Dfn.name++(takeD p.defs (((List.range p.defs.length).drop k).filter (keepB (tosR p) L))).map Dfn.name:=by
      unfold nmsP keepP
      rw [hF,takeD_app,List.map_append]
     rw [hn2,List.take_append_of_le_length (by rw [List.length_map,hA];exact Nat.le_refl _),List.take_of_length_le (by rw [List.length_map,hA];exact Nat.le_refl _)]
     obtain ⟨w,hw⟩:=at_lt h2
     have hwn:w.name=x.name:=nms_get hw h3
     have:=hin _ h2 h1 w hw ((List.range k).filter (keepB (tosR p) L)) (List.mem_filter.2 ⟨List.mem_range.2 hlt2,h1⟩)
     rw [hwn] at this
     simpa using this
    ·rw [if_neg o2] at hnm ⊢
     by_cases o3:x.op=3
     ·rw [if_pos o3] at hnm ⊢
      obtain ⟨h1,h2,h3⟩:=hu (.inr o3)
      obtain ⟨w,hw⟩:=at_lt h2
      have hwn:w.name=x.name:=nms_get hw h3
      have:=hin _ h2 h1 w hw (keepN p L) (List.mem_filter.2 ⟨List.mem_range.2 h2,h1⟩)
      rw [hwn] at this
      have:x.name∈nmsP (keepP p L):=this
      simpa using this
     ·rw [if_neg o3])
  simp only [Nat.zero_add] at hcl
  unfold countR
  rw [if_neg (by show ¬ (p.srcs.length < 1\/4 < p.srcs.length\/6 < (takeD p.defs (keepN p L)).length);omega),hdq]
  have hd2:diff ((keepP p L).srcs++nmsP (keepP p L))=true:=diff_of (hpp.1.sublist hsub2) fun s hs=>hpp.2.2.2.2.1 s (hsub2.subset hs)
  rw [if_pos hd2]
  exact hcl
 have hqd:(keepP p L).defs.length=(keepN p L).length:=hql
 have hK:∀ m,m < (keepP p L).defs.length->∃ i,(keepN p L)[m]? = some i/\i < p.defs.length/\keepB (tosR p) L i=true/\(keepP p L).defs[m]? = p.defs[i]? := fun m hm=>by
  obtain ⟨i,hi⟩:=at_lt (l:=keepN p L) (i:=m) (by omega)
  have h1:=List.mem_filter.1 (List.mem_of_getElem? hi)
  exact ⟨i,hi,List.mem_range.1 h1.1,h1.2,hqa m i hi⟩
 have hexp:∀ {m i:Nat},(keepP p L).defs[m]? = p.defs[i]? -> expAt (keepP p L) m=expAt p i:=fun {m i} h=>by unfold expAt;rw [h]
 have hnd2:(nmsP (keepP p L)).Nodup:=hnd.sublist hsub
 have hone:∀ m k,m < (keepP p L).defs.length->k∈(tosR (keepP p L)).getD m []->k < (keepP p L).defs.length/\∀ i j,(keepN p L)[m]? = some i->(keepN p L)[k]? = some j->j∈(tosR p).getD i []:=fun m k hm hk=>by
  obtain ⟨y,hy,ho,hyk⟩:=(step_iff' hcount hm).1 hk
  obtain ⟨i,hi,h1,h2,h3⟩:=hK m hm
  rw [hexp h3] at hy
  have hs:=hstep h1 hy ho
  have hn:=hname h1 hy ho
  have hu:=keepB_step h2 hs
  have hul:=step_lt hb h1 hs
  obtain ⟨w,hw⟩:=at_lt hul
  have hg:=idxN_get hnd hn
  have hwn:w.name=y.name:=nms_get hw hg
  have hmem:y.name∈nmsP (keepP p L):=by
   have:=hin _ hul hu w hw (keepN p L) (List.mem_filter.2 ⟨List.mem_range.2 hul,hu⟩)
   rw [hwn] at this
   exact this
  have hg2:=idxN_get hnd2 hmem
  rw [hyk] at hg2
  have hkl2:k < (keepP p L).defs.length:=by
   have:=(List.getElem?_eq_some_iff.1 hg2).1
   unfold nmsP at this
   rwa [List.length_map] at this
  refine ⟨hkl2,fun i2 j hi2 hj=>?_⟩
  rw [hi] at hi2
  cases hi2
  obtain ⟨j2,hj2,h4,h5,h6⟩:=hK k hkl2
  rw [hj] at hj2
  cases hj2
  have e:(nmsP p)[j]? = some y.name:=by
   rw [<-hg2]
   unfold nmsP
   rw [List.getElem?_map,List.getElem?_map,h6]
  rw [<-idxN_at hnd e]
  exact hs
 have hreach:∀ m k,m < (keepP p L).defs.length->Reach (tosR (keepP p L)) m k->k < (keepP p L).defs.length/\∀ i j,(keepN p L)[m]? = some i->(keepN p L)[k]? = some j->Reach (tosR p) i j:=fun m k hm h=>by
  induction h with
  |one h=>
   obtain ⟨h1,h2⟩:=hone m _ hm h
   exact ⟨h1,fun i j hi hj => .one (h2 i j hi hj)⟩
  |@more u v _ hv ih=>
   obtain ⟨h1,h2⟩:=ih
   obtain ⟨h3,h4⟩:=hone u v h1 hv
   obtain ⟨j2,hj2,_⟩:=hK u h1
   exact ⟨h3,fun i j hi hj => .more (h2 i j2 hi hj2) (h4 j2 j hj2 hj)⟩
 refine (progR_eq hcount).2 fun m hm hr=>?_
 obtain ⟨i,hi,h1,h2,h3⟩:=hK m hm
 have:=(progR_eq hc).1 hb i h1 ((hreach m m hm hr).2 i i hi hi)
 unfold foreAt at this ⊢
 rw [h3]
 exact this
end Go.Abs

/- Programs without a definition, as the program makes them. -/
open Go Go.Abs
namespace Go.Abs
set_option maxRecDepth 100000
set_option maxHeartbeats 4000000
theorem W.retFinCC {C:Cfg} {fid nt nx:Nat} {l:Env} {G:Nat->Obj} {a b:Nat} {t u:TypeId} {o o2:Nat} {k k2:TyI} {cs:List AV} {fr fr2:Bool} {w:AV} {Ψ:AV->(Nat->Obj)->Nat->Prop} [hk:TyIs C t k] [hk2:TyIs C u k2] (ha:look l a=some (.ptr o 0)) (hG:G o = .box cs fr) (hs:Nat.beq cs.length k.sz=true) (hg:k.d.isAgg=true)
  (hb:look l b=some (.ptr o2 0)) (hG2:G o2 = .box [w] fr2) (hs2:k2.sz=1) (hg2:k2.d.isAgg=false) (h:Ψ (mkTup [mkAgg cs,w]) G nx) :
  W C fid nt .ret l G nx [] .no (fin C [.cell a t, .cell b u] Ψ):=
 .ret fun t' ht=>⟨rfl,rfl,mkTup [mkAgg cs,w],by
  have e:cs.length=k.sz:=Nat.eq_of_beq_eq_true hs
  have e2:Go.Abs.sub cs 0 k.sz=some cs:=by rw [<-e];exact sub_all cs
  have e3:Go.Abs.sub [w] 0 1=some [w]:=rfl
  simp only [resultsA,resultsL,resultA,ht _ _ ha,ht _ _ hb,aLoad,hk.is,hk2.is,readAt,hG,hG2,e2,hs2,e3,hg,hg2,if_true,Option.map_some,Bool.false_eq_true,if_false],h⟩
theorem peek_rows {G:Nat->Obj} {q1 n1 e1 s1 e2 s2 lo hi:Nat} {xs1 xs2:List IV} {fr1:Bool} {v:AV} (h1:G q1 = .row e1 s1 (xs1.map .imm) fr1) (hn1:xs1.length=n1) (ho:Own e2 s2 lo hi xs2 G v) :
  ∃ ids,Go.Abs.peek G pkDepth (.agg [.row q1 n1,v])=some (.agg [.lst xs1, .lst xs2],ids)/\∀ i∈ids,i=q1\/lo<=i:=by
 have hp:∀ x,Go.Abs.peek G 98 (.imm x)=some (x,[]):=fun x=>rfl
 have hrow:∀ {q n e s:Nat} {xs:List IV} {fr:Bool},G q = .row e s (xs.map .imm) fr->xs.length=n->Go.Abs.peek G 99 (.row q n)=some (.lst xs,[q]):=by
  intro q n e s xs fr h hn
  show Go.Abs.peek G (98+1) _=_
  unfold Go.Abs.peek
  rw [h]
  dsimp only
  rw [if_pos (by simpa using hn),peekL_imm hp]
 rcases ho with ⟨rfl,rfl⟩|⟨o,g1,g2,rfl,g4⟩
 ·refine ⟨[q1],?_,fun i hi => .inl (by simpa using hi)⟩
  have hn:Go.Abs.peek G 99 .nils=some (.lst [],[]):=rfl
  show Go.Abs.peek G (99+1) _=_
  unfold Go.Abs.peek
  rw [peekL,hrow h1 hn1,peekL,hn,peekL]
  rfl
 ·refine ⟨[q1,o],?_,fun i hi=>?_⟩
  ·show Go.Abs.peek G (99+1) _=_
   unfold Go.Abs.peek
   rw [peekL,hrow h1 hn1,peekL,hrow g4 rfl,peekL]
   rfl
  ·simp only [List.mem_cons,List.not_mem_nil,or_false] at hi
   rcases hi with rfl|rfl
   ·exact .inl rfl
   ·exact .inr g1
theorem Own.rdxF {e sz lo hi:Nat} {xs:List IV} {G G':Nat->Obj} {v:AV} (h:Own e sz lo hi xs G v) (hG:∀ o,lo<=o->o < hi->G' o=G o\/G' o=(G o).freeze):Rdx 1 G' (fun o=>lo<=o) v (.lst xs):=by
 rcases h with ⟨rfl,rfl⟩|⟨o,g1,g2,rfl,g4⟩
 ·exact .nils ..
 ·rcases hG o g1 g2 with h|h
  ·exact Rdx.row (d:=0) (e:=e) (sz:=sz) (fr:=false) (h.trans g4) (List.length_map ..) (All2.imms 0 _ _ _) g1
  ·exact Rdx.row (d:=0) (e:=e) (sz:=sz) (fr:=true) (by rw [h,g4];rfl) (List.length_map ..) (All2.imms 0 _ _ _) g1
theorem ret21 (p:Pgm) (hp:p.Fits) (d:Int):Ret CC 24 [p.iv, .int .i64 d] (.tup [(inlR p d).1.iv, .int .i64 (inlR p d).2]):=by
 have hr46:=ret46 p hp d
 unfold inlR
 have hat:=hasR_at (p:=p) (d:=d)
 cases hb:hasR p d with
 |false=>
  rw [hb] at hr46
  have bt:(!false)=true:=rfl
  simp only [Bool.false_eq_true,if_false]
  generalize lookedIV p=lk at *
  obtain ⟨srcs,defs⟩:=p
  refine Ret.of (fn:=Go.Proofs.Tryz.f24) (by kernel_rfl) rfl rfl ?_
  refine AA ?_
  exact W.retFinCC rfl rfl rfl rfl rfl rfl rfl rfl ⟨[],rfl⟩
 |true=>
  rw [hb] at hr46 hat
  obtain ⟨hpr,d,x,rfl,hx⟩:=hat rfl
  have hg:=countR_good (progR_count hpr)
  have hsm:=countR_sm (progR_count hpr)
  have hsz:=hg.size
  have hd6:=hg.defs
  have hs4:=hg.srcs
  have hfit:=hp.exp
  have hxm:=List.mem_of_getElem? hx
  have hxd:d < p.defs.length:=(List.getElem?_eq_some_iff.1 hx).1
  have hpR:=ret54 (inlP p d x) (inlP_fits hp hxm)
  unfold lookedIV at hpR
  generalize lookedIV p=lk at *
  simp only [if_true,Int.toNat_natCast,hx]
  have bf:(!true)=false:=rfl
  generalize ((inlP p d x).defs.length-1:Nat)=m1 at *
  generalize countR (inlP p d x)=m2 at *
  generalize progR (inlP p d x)=pr at *
  unfold inlP at hpR ⊢
  obtain ⟨srcs,defs⟩:=p
  simp only at *
  have hdm:(defs.map Dfn.iv).length=defs.length:=List.length_map ..
  have hxi:=at_map Dfn.iv hx
  have hxsm:=hsm x hxm
  obtain ⟨nd,⟨ox,sx,n2,fx,cx,kx⟩⟩:=x
  simp only at *
  have horc:CC.orc 50 [.lst (srcs.map sv)]=some (.own 9 1 (srcs.map sv)):=by
   show (if (srcs.map sv).all isStrIV=true/\(srcs.map sv).length<=4294967296 then some (OrcR.own 9 1 (srcs.map sv)) else none)=_
   rw [if_pos ⟨by rw [List.all_map];exact List.all_eq_true.2 fun _ _=>rfl,by simp;omega⟩]
  refine Ret.of (fn:=Go.Proofs.Tryz.f24) (by kernel_rfl) rfl rfl ?_
  refine AA ?_
  refine R.op1 (O.callOwnI rfl horc rfl rfl) rfl ?_
  refine AA ?_
  refine W.loop (X:=Nat×AV) (fun x=>[(1, .imm (natIV d)),(2, .ptr 0 0),(4, .ptr 1 0),(5, .ptr 2 0),(8, .ptr 18 0),(9, .ptr 24 0),(32, .imm (.lst (defs.map Dfn.iv))),(33, .imm (.int .i64 (defs.map Dfn.iv).length)),(34, .imm (.int .i64 x.1))])
   (fun x nx G=>30<=nx/\G 0 = .box [.imm (.lst (srcs.map sv)), .imm (.lst (defs.map Dfn.iv))] false/\G 1 = .box ty29.zero.cells false/\G 2 = .box ty31.zero.cells false/\G 18 = .box [.imm (sv nd), .imm (.int .i64 ox), .imm (sv sx), .imm (.int .i64 n2), .imm (.int .i64 fx), .imm (.lst (Trm.ivs cx)), .imm (.lst (Exp.ivs kx))] false/\G 22 = .row 9 1 ((srcs.map sv).map AV.imm) false/\G 24 = .box [.row 22 (srcs.map sv).length,x.2] false/\x.1<=defs.length/\(defs.take x.1).any (asksD nd)=false/\Own 95 7 30 nx ((outs defs d nd (.mk ox sx n2 fx cx kx) x.1).map Dfn.iv) G x.2)
   (fun x=>defs.length-x.1) (0, .nils) .auto ⟨by omega,rfl,rfl,rfl,rfl,rfl,rfl,Nat.zero_le _,rfl,by rw [outs_zero];exact .nil ..⟩ ?_
  rintro ⟨i,w⟩ nx G ⟨hnx,h0,h1,h2,h18,h22,h24,hi,hno,ho⟩
  dsimp only at h24 hi hno ho ⊢
  obtain ⟨nx,rfl⟩:∃ m,nx=m+30:=⟨nx-30,by omega⟩
  have hw1:=ho.cells1
  have hw2:=ho.one1
  have hmk:mkAgg [.row 22 (srcs.map sv).length,w] = .agg [.row 22 (srcs.map sv).length,w]:=mkAgg_not ⟨.row 22 (srcs.map sv).length,by simp,by intro x h;cases h⟩
  rcases Bool.eq_false_or_eq_true (decide ((i:Int) < ((defs.map Dfn.iv).length:Int))) with hcc|hcc
  ·have hlt:i < defs.length:=by have:=of_decide_eq_true hcc;omega
   obtain ⟨y,hy⟩:=at_lt hlt
   have hyi:=at_map Dfn.iv hy
   have hdc:=y.cells_len
   have hym:=List.mem_of_getElem? hy
   have hmu:defs.length-(i+1) < defs.length-i:=by omega
   have hyf:=hfit y hym
   have hr49:=ret49 y.exp
   have hr57:=ret57 (nm:=nd) (hsm y hym) hxsm
   have hany:∀ b,asksD nd y=b->(defs.take (i+1)).any (asksD nd)=b:=fun b hb=>by
    rw [List.take_add_one,hy,List.any_append,hno];simp [hb]
   have hall:asksD nd y=true->defs.any (asksD nd)=true:=fun h=>any_at hy h
   have hnext:=fun h=>outs_at (d:=d) (nm:=nd) (rep := .mk ox sx n2 fx cx kx) hy h
   have hlen:=outs_len (defs:=defs) (d:=d) (nm:=nd) (rep := .mk ox sx n2 fx cx kx) (i:=i)
   obtain ⟨ny,⟨oy,sy,n1,fy,cy,ky⟩⟩:=y
   simp only [asksD] at hr57 hyf hany hall hnext
   refine AA ?_
   refine W.gen' (fun G2=>G2 0 = .box [.imm (.lst (srcs.map sv)), .imm (.lst (defs.map Dfn.iv))] false/\G2 1 = .box ty29.zero.cells false/\G2 2 = .box ty31.zero.cells false/\G2 18 = .box [.imm (sv nd), .imm (.int .i64 ox), .imm (sv sx), .imm (.int .i64 n2), .imm (.int .i64 fx), .imm (.lst (Trm.ivs cx)), .imm (.lst (Exp.ivs kx))] false/\G2 22 = .row 9 1 ((srcs.map sv).map AV.imm) false/\G2 24 = .box [.row 22 (srcs.map sv).length,w] false/\Own 95 7 30 (nx+30) ((outs defs d nd (.mk ox sx n2 fx cx kx) i).map Dfn.iv) G2 w/\G2 (nx+30+1+3) = .box [.imm (sv ny), .imm (.int .i64 oy), .imm (sv sy), .imm (.int .i64 n1), .imm (.int .i64 fy), .imm (.lst (Trm.ivs cy)), .imm (.lst (Exp.ivs ky))] false)
    ⟨at_upd,at_upd,at_upd,at_upd,at_upd,at_upd,ho.fr,at_upd⟩ ?_
   clear h0 h1 h2 h18 h22 h24 ho G
   rintro G ⟨h0,h1,h2,h18,h22,h24,ho,h34⟩
   refine W.nodes _ hyf (fun k G1=>(∀ o,o < nx+40->G1 o=G o)/\((allE (.mk oy sy n1 fy cy ky)).take k).any (asksE nd)=false) (fun G1=>G1 1 = .box ty29.zero.cells false/\G1 2 = .box [.imm (.int .i64 7)] false/\(allE (.mk oy sy n1 fy cy ky)).any (asksE nd)=true) (fun _ _ _=>False)
    rfl rfl rfl rfl rfl ?_ ?_ ?_ ?_ ?_ ?_ ?_
   ·rintro k G1 G2 ⟨h3,h4⟩ hG
    exact ⟨fun o h5=>(hG o (by omega)).trans (h3 o h5),h4⟩
   ·rintro G1 G2 ⟨h3,h4,h5⟩ hG
    exact ⟨(hG 1 (by omega)).trans h3,(hG 2 (by omega)).trans h4,h5⟩
   ·exact ⟨fun _ _=>rfl,rfl⟩
   ·rintro q k z G1 nx1 lp0 lp1 Φr hq hza hn ⟨h3,h4⟩ hlp next stop _
    have hst:asksE nd z=false->((allE (.mk oy sy n1 fy cy ky)).take (k+1)).any (asksE nd)=false:=fun h=>by
     rw [List.take_add_one,hza,List.any_append,h4];simp [h]
    have hhit:asksE nd z=true->(allE (.mk oy sy n1 fy cy ky)).any (asksE nd)=true:=fun h=>any_at hza h
    obtain ⟨oz,sz,nz,fz,cz,kz⟩:=z
    simp only [asksE,Exp.op,Exp.name] at hst hhit
    refine W.regionN ?_
    refine AQ ?_
    refine R.doneAstQ at_upd ?_
    refine W.gen' (fun G2=>G2 (nx1+0) = .box [.imm (.int .i64 oz), .imm (sv sz), .imm (.int .i64 nz), .imm (.int .i64 fz), .imm (.lst (Trm.ivs cz)), .imm (.lst (Exp.ivs kz))] false/\G2 q=lp1/\∀ o,o < nx1->o≠q->G2 o=G1 o) ⟨at_upd,at_upd,fun o _ _=>at_upd⟩ ?_
    rintro G2 ⟨hbx,hlp2,hfr2⟩
    have g1:=(hfr2 1 (by omega) (by omega)).trans ((h3 1 (by omega)).trans h1)
    have g2:=(hfr2 2 (by omega) (by omega)).trans ((h3 2 (by omega)).trans h2)
    have g18:=(hfr2 18 (by omega) (by omega)).trans ((h3 18 (by omega)).trans h18)
    rcases Bool.eq_false_or_eq_true (oz==3) with hA|hA
    ·rcases Bool.eq_false_or_eq_true (sz==nd) with hB|hB
     ·refine AN ?_
      exact stop (by omega) (fun o g5 g6=>Eq.trans at_upd (hfr2 o g6 (by omega))) ⟨at_upd,at_upd,hhit (by rw [hA,hB];rfl)⟩ (Eq.trans at_upd hlp2)
     ·refine AN ?_
      exact next (by omega) (fun o g5 g6=>hfr2 o g6 (by omega)) ⟨fun o g5=>(hfr2 o (by omega) (by omega)).trans (h3 o g5),hst (by rw [hA,hB];rfl)⟩ hlp2
    ·refine AN ?_
     exact next (by omega) (fun o g5 g6=>hfr2 o g6 (by omega)) ⟨fun o g5=>(hfr2 o (by omega) (by omega)).trans (h3 o g5),hst (by rw [hA];rfl)⟩ hlp2
   ·rintro G1 nx1 ⟨h3,h4⟩ hn
    rw [List.take_length] at h4
    have hno':=hany false h4
    have g0:=(h3 0 (by omega)).trans h0
    have g1:=(h3 1 (by omega)).trans h1
    have g2:=(h3 2 (by omega)).trans h2
    have g18:=(h3 18 (by omega)).trans h18
    have g22:=(h3 22 (by omega)).trans h22
    have g24:=(h3 24 (by omega)).trans h24
    have g34:=(h3 (nx+30+1+3) (by omega)).trans h34
    have go:Own 95 7 30 (nx+30) ((outs defs d nd (.mk ox sx n2 fx cx kx) i).map Dfn.iv) G1 w:=ho.frame (Nat.le_refl _) fun o _ h=>h3 o (by omega)
    obtain ⟨nx1,rfl⟩:∃ m,nx1=m+40:=⟨nx1-40,by omega⟩
    clear h0 h1 h2 h18 h22 h24 h34 ho h3
    rcases Bool.eq_false_or_eq_true ((i:Int) != (d:Int)) with hne|hne
    ·have hne':i≠d:=fun h=>by rw [h] at hne;simp at hne
     have hnext:=hnext hne'
     generalize hput:putE nd (.mk ox sx n2 fx cx kx) (.mk oy sy n1 fy cy ky)=py at *
     have hput2:putD nd (.mk ox sx n2 fx cx kx) ⟨ny, .mk oy sy n1 fy cy ky⟩=⟨ny,py⟩:=by unfold putD;rw [hput]
     rw [hput2] at hnext
     obtain ⟨op,sp,np,fp,cp,kp⟩:=py
     refine AA ?_
     refine D.app1 go at_upd (by simp only [List.length_map,most];omega) fun v' G' rd o' ho' hG' hlo=>?_
     have hoo:Own 95 7 30 (nx1+40+3+16) ((outs defs d nd (.mk ox sx n2 fx cx kx) (i+1)).map Dfn.iv) G' v':=by rw [hnext,List.map_append];exact ho'
     have hv1:=ho'.cells1
     have hv2:=ho'.one1
     have g0:=(hG' 0 (by omega)).trans (Eq.trans at_upd g0)
     have g1:=(hG' 1 (by omega)).trans (Eq.trans at_upd g1)
     have g2:=(hG' 2 (by omega)).trans (Eq.trans at_upd g2)
     have g18:=(hG' 18 (by omega)).trans (Eq.trans at_upd g18)
     have g22:=(hG' 22 (by omega)).trans (Eq.trans at_upd g22)
     have g24:=(hG' 24 (by omega)).trans (Eq.trans at_upd g24)
     refine AD ?_
     refine D.skip (by kernel_rfl) ?_
     refine AA ?_
     exact W.skipLop (i+1,v') hmu .auto ⟨by omega,at_upd,at_upd,at_upd,at_upd,at_upd,at_upd,hlt,hno',hoo.fr⟩
    ·have hne':i=d:=by
      have:((i:Int)==(d:Int))=true:=by simpa [bne] using hne
      have:=beq_iff_eq.1 this;omega
     refine AA ?_
     refine W.skipLop (i+1,w) hmu .auto ⟨by omega,g0,g1,g2,g18,g22,g24,hlt,hno',?_⟩
     show Own 95 7 30 _ ((outs defs d nd (.mk ox sx n2 fx cx kx) (i+1)).map Dfn.iv) _ w
     subst hne'
     rw [outs_same]
     exact go.up (by omega)
   ·rintro G1 nx1 ⟨h3,h4,h5⟩ hn
    rw [hall h5,if_pos rfl]
    refine AA ?_
    exact W.retFinCC rfl h3 rfl rfl rfl h4 rfl rfl ⟨[],rfl⟩
   ·intro _ _ _ h;exact h.elim
  ·have hge:defs.length<=i:=by have:=of_decide_eq_false hcc;omega
   rw [List.take_of_length_le hge] at hno
   rw [outs_all hge hxd] at ho
   rw [hno,if_neg (by decide)]
   obtain ⟨ids,hids,hidm⟩:=peek_rows h22 rfl ho
   cases pr with
   |true=>
    rw [if_pos rfl] at hpR
    have hft:AV.fits 2 (.agg [.row 22 (srcs.map sv).length,w])=true:=by
     show ((2==2)&&(true&&(w.one&&true)))=true
     rw [hw2];rfl
    refine AA ?_
    refine R.opU (O.callFz (ids:=ids) rfl (peeks_cons (vs:=[]) ((congrArg (Go.Abs.peek G pkDepth) hmk).trans hids)) hpR rfl) rfl ?_
    have hun:∀ o,o < 30->o≠22->updL G (frz ids) o=G o:=fun o h1 h2=>by
     rw [updL_frz,if_neg]
     intro h
     rcases hidm o h with h|h<;>omega
    have hor:∀ o,updL G (frz ids) o=G o\/updL G (frz ids) o=(G o).freeze:=fun o=>by
     rw [updL_frz];split
     ·exact .inr rfl
     ·exact .inl rfl
    have hrw2:Rdx 2 (updL G (frz ids)) (fun o=>3<=o) (.agg [.row 22 (srcs.map sv).length,w]) (Pgm.mk srcs ((defs.eraseIdx d).map (putD nd (.mk ox sx n2 fx cx kx)))).iv:=by
     refine Rdx.agg (d:=1) (.cons ?_ (.cons ((ho.rdxF fun o _ _=>hor o).frame (fun _ _=>rfl) fun _ h=>by omega) .nil))
     rcases hor 22 with h|h
     ·exact Rdx.row (d:=0) (e:=9) (sz:=1) (fr:=false) (h.trans h22) (List.length_map ..) (All2.imms 0 _ _ _) (by omega)
     ·exact Rdx.row (d:=0) (e:=9) (sz:=1) (fr:=true) (by rw [h,h22];rfl) (List.length_map ..) (All2.imms 0 _ _ _) (by omega)
    have k1:=(hun 1 (by omega) (by omega)).trans h1
    have k2:=(hun 2 (by omega) (by omega)).trans h2
    have k24:=(hun 24 (by omega) (by omega)).trans h24
    generalize updL G (frz ids)=G3 at *
    refine AA ?_
    refine R.opN1 (O.storeP rfl (congrArg some hmk) hft k1 rfl rfl) ?_
    refine AA ?_
    refine W.retFinCC (cs:=[.row 22 (srcs.map sv).length,w]) rfl at_upd rfl rfl rfl at_upd rfl rfl ?_
    rw [hmk]
    exact Rdx.peek (d:=3) (P:=fun o=>3<=o) (Rdx.tup (d:=2) (.cons (hrw2.frame (fun o h=>at_upd) fun _ h=>h) (.cons (.imm ..) .nil))) (by decide)
   |false=>
    rw [if_neg (by decide)] at hpR
    refine AA ?_
    refine R.op0 (O.callG (ids:=ids) rfl (peeks_cons (vs:=[]) ((congrArg (Go.Abs.peek G pkDepth) hmk).trans hids)) hpR rfl) rfl ?_
    refine AA ?_
    exact W.retFinCC rfl at_upd rfl rfl rfl at_upd rfl rfl ⟨[],rfl⟩
end Go.Abs

/- Rings. -/
open Go Go.Abs
namespace Go.Abs
set_option maxRecDepth 100000
set_option maxHeartbeats 4000000
theorem remN (a n:Nat) (hn:0 < n):intOp .rem .i64 (a:Int) (n:Int)=some (.int .i64 ((a % n:Nat):Int)):=by
 have h0:¬ ((n:Int)=0):=by omega
 have:((a:Int).tmod n)=((a % n:Nat):Int):=by rw [Int.tmod_eq_emod_of_nonneg (by omega)];rfl
 simp only [intOp,if_neg h0,this]
end Go.Abs

/- TermRound. -/
open Go Go.Abs
namespace Go.Abs
set_option maxRecDepth 100000
set_option maxHeartbeats 4000000
theorem O.callOFz' {id:Nat} {l:Env} {G:Nat->Obj} {nx:Nat} {df:List (AV×List AV)} {pk:Pk} {f:FuncId} {ars:List Operand} {ats:Array TypeId} {vs:List AV} {ivs:List IV} {x:IV} {ids:List Nat} (ho:CK.orc f ivs=some (.dat x)) (ha:looks l ars=some vs) (hi:peeks G vs=some (ivs,ids)) (hx:x.scalar=false) :
  OpV CK id l G nx df pk (.call { callee := .value (.func f),args:=⟨ars⟩,argTypes:=ats }) (.imm x) (frz ids):=by
 have hb:CK.byref f=false:=rfl
 refine ⟨fun t ht=>⟨0,?_⟩⟩
 simp only [opA,ev,aCall,fnOf,List.map_nil,List.append_nil,callA,hb,Bool.false_eq_true,if_false,ht.evs ha,hi,ho,hx,give]
theorem O.convK {id:Nat} {l:Env} {G:Nat->Obj} {nx:Nat} {df:List (AV×List AV)} {pk:Pk} {t u:TypeId} {x:Operand} {k k':IntKind} {n:Int} {i j:TyI} [hi:TyIs CK t i] [hj:TyIs CK u j] (hk:j.d = .int k) (hx:lookO l x=some (.imm (.int k' n))) (hw:k.wrap n=n) :
  OpV CK id l G nx df pk (.convert t u x) (.imm (.int k n)) []:=
 O.of fun t L ht=>by simp only [opA,ht.ev hx,aConvert,hi.is,hj.is,hk,hw]
theorem alike_ren {S:List Str} {x y:Pgm} {to:Str->Str} (I:RenS S x y to) (hx:progR x=true):alikeR x y=(true,0):=by
 unfold alikeR
 rw [if_pos (by rw [I.prog,hx];rfl),I.canon hx,(Pgm.same_iff _ _).2 rfl]
theorem inl_pair {S:List Str} {p c:Pgm} {to:Str->Str} (I:RenS S p c to) (hp:p.Fits) (hc:c.Fits) (hb:progR p=true) (d:Nat):(inlR c (d:Int)).2=(inlR p (d:Int)).2 /\
  ((inlR p (d:Int)).2=0->alikeR (inlR p (d:Int)).1 (inlR c (d:Int)).1=(true,0)/\(inlR p (d:Int)).1.Fits/\(inlR c (d:Int)).1.Fits)/\((inlR p (d:Int)).2≠0->(inlR p (d:Int)).1=⟨[],[]⟩/\(inlR c (d:Int)).1=⟨[],[]⟩):=by
 have hcb:progR c=true:=by rw [I.prog];exact hb
 have hh:hasR c (d:Int)=hasR p (d:Int):=by unfold hasR;rw [hb,hcb,I.lens.2]
 unfold inlR
 rw [hh]
 by_cases h0:hasR p (d:Int)=true
 ·rw [if_pos h0,if_pos h0]
  obtain ⟨_,n,w,hn,hw⟩:=hasR_at h0
  obtain rfl:n=d:=by omega
  have hwc:c.defs[n]? = some (renD to w):=by rw [I.defs,List.getElem?_map,hw];rfl
  rw [show ((n:Int)).toNat=n by omega,hw,hwc]
  dsimp only
  have hwm:=List.mem_of_getElem? hw
  have hwn:w.name∈S:=I.din _ (List.mem_map.2 ⟨w,hwm,rfl⟩)
  have ha:c.defs.any (asksD (renD to w).name)=p.defs.any (asksD w.name):=by
   rw [I.defs,List.any_map]
   rw [Bool.eq_iff_iff,List.any_eq_true,List.any_eq_true]
   constructor<;>rintro ⟨x,hx,h⟩<;>refine ⟨x,hx,?_⟩
   ·rw [<-I.asks hwn hx];exact h
   ·show asksD (to w.name) (renD to x)=true
    rw [I.asks hwn hx];exact h
  have IS:=I.inl hw
  rw [ha,IS.prog]
  by_cases h1:p.defs.any (asksD w.name)=true
  ·rw [if_pos h1,if_pos h1]
   exact ⟨rfl,(fun h=>by cases h),fun _=>⟨rfl,rfl⟩⟩
  ·rw [if_neg h1,if_neg h1]
   by_cases h2:progR (inlP p n w)=true
   ·rw [if_pos h2,if_pos h2]
    exact ⟨rfl,fun _=>⟨alike_ren IS h2,inlP_fits hp hwm,inlP_fits hc (List.mem_of_getElem? hwc)⟩,fun h=>absurd rfl h⟩
   ·rw [if_neg h2,if_neg h2]
    exact ⟨rfl,(fun h=>by cases h),fun _=>⟨rfl,rfl⟩⟩
 ·rw [if_neg h0,if_neg h0]
  exact ⟨rfl,(fun h=>by cases h),fun _=>⟨rfl,rfl⟩⟩
theorem keepP_fits {p:Pgm} (hp:p.Fits) (L:List Int):(keepP p L).Fits:=by
 have hm:∀ {d:Dfn},d∈(keepP p L).defs->d∈p.defs:=fun {d} h=>by
  obtain ⟨i,_,hi⟩:=List.mem_filterMap.1 h
  exact List.mem_of_getElem? hi
 refine ⟨hp.srcs,hp.src,?_,fun d hd=>hp.name d (hm hd),fun d hd=>hp.exp d (hm hd)⟩
 have h1:=List.length_filterMap_le (fun i=>p.defs[i]?) (keepN p L)
 have h2:=List.length_filter_le (keepB (tosR p) L) (List.range p.defs.length)
 rw [List.length_range] at h2
 have:=hp.defs
 unfold keepP takeD
 simp only
 unfold keepN at h1 ⊢
 omega
theorem keepR_ok {p:Pgm} (hb:progR p=true) {d:Nat} (hd:d < p.defs.length):keepR p [(d:Int)]=(keepP p [(d:Int)],0):=by
 unfold keepR
 rw [if_pos hb,if_pos]
 rw [List.all_cons,List.all_nil,Bool.and_true]
 unfold insB
 rw [decide_eq_true (by omega:(0:Int)<=d),decide_eq_true (by omega:(d:Int) < p.defs.length)];rfl
theorem ret213a {z:Int} (hz:(z != 0)=true):Ret CC 25 [(Pgm.mk [] []).iv,(Pgm.mk [] []).iv, .int .i64 z] (.bool true):=by
 have h23:=ret23 (p:=⟨[],[]⟩) (by simp) (by simp) (fun d hd=>by cases hd)
 have hpe:∀ {G:Nat->Obj},peeks G [.imm (Pgm.mk [] []).iv,mkAgg ty29.zero.cells]=some ([(Pgm.mk [] []).iv,(Pgm.mk [] []).iv],[]):=rfl
 refine Ret.of (fn:=Go.Proofs.Tryz.f25) (by kernel_rfl) rfl rfl ?_
 refine BB ?_
 refine R.op0 (O.callG (ids:=[]) rfl hpe h23 rfl) rfl ?_
 refine BB ?_
 refine R.op0 (O.callG (ids:=[]) rfl hpe h23 rfl) rfl ?_
 refine BB ?_
 exact W.retFin1 rfl ⟨[],rfl⟩
theorem ret213b {x y:Pgm} (hx:x.Fits) (hy:y.Fits) (h:alikeR x y=(true,0)):Ret CC 25 [x.iv,y.iv, .int .i64 0] (.bool true):=by
 have h200:=ret200 hx hy
 rw [h] at h200
 obtain ⟨xs,xd⟩:=x
 obtain ⟨ys,yd⟩:=y
 have bz:((0:Int) != 0)=false:=rfl
 have bz2:((0:Int)==0)=true:=rfl
 refine Ret.of (fn:=Go.Proofs.Tryz.f25) (by kernel_rfl) rfl rfl ?_
 refine BB ?_
 exact W.retFin1 rfl ⟨[],rfl⟩
theorem ret214 {p:Pgm} (hp:p.Fits) (a:Int) (hw:(Lit.int .u8 a).wf=true):Ret CK 4 [p.iv, .int .u8 a] (.bool true):=by
 have h36:=orcK_ret (by kernel_rfl) (ret36 p hp)
 have h14:=orcK_ret (by kernel_rfl) ret14
 have ha:0<=a/\a<=255:=by
  have h:(decide (IntKind.u8.min<=a)&&decide (a<=IntKind.u8.max))=true:=hw
  rw [Bool.and_eq_true,decide_eq_true_eq,decide_eq_true_eq] at h
  exact h
 obtain ⟨a,rfl⟩:=Int.eq_ofNat_of_zero_le ha.1
 cases hb:progR p with
 |false=>
  rw [hb] at h36
  obtain ⟨srcs,defs⟩:=p
  have bt:(!false)=true:=rfl
  refine Ret.of (C:=CK) (fn:=Go.Proofs.Tryz.f4) (by kernel_rfl) rfl rfl ?_
  refine BB ?_
  refine R.op0 (O.callO h36 rfl rfl) rfl ?_
  refine BB ?_
  refine R.op0 (O.callO h14 rfl rfl) rfl ?_
  refine BB ?_
  exact W.retFin1 rfl ⟨[],rfl⟩
 |true=>
  rw [hb] at h36
  have bf:(!true)=false:=rfl
  rcases Bool.eq_false_or_eq_true (((p.defs.map Dfn.iv).length:Int)==0) with hz|hz
  ·obtain ⟨srcs,defs⟩:=p
   simp only at hz
   refine Ret.of (C:=CK) (fn:=Go.Proofs.Tryz.f4) (by kernel_rfl) rfl rfl ?_
   refine BB ?_
   refine R.op0 (O.callO h36 rfl rfl) rfl ?_
   refine BB ?_
   refine R.op0 (O.callO h14 rfl rfl) rfl ?_
   refine BB ?_
   exact W.retFin1 rfl ⟨[],rfl⟩
  have hn:0 < p.defs.length:=by
   rcases Nat.eq_zero_or_pos p.defs.length with h|h
   ·rw [List.length_map,h] at hz;cases hz
   ·exact h
  have hdm:(p.defs.map Dfn.iv).length=p.defs.length:=List.length_map ..
  have q1:=remN a p.defs.length hn
  rw [<-hdm] at q1
  have hd:a % (p.defs.map Dfn.iv).length < p.defs.length:=by rw [hdm];exact Nat.mod_lt _ hn
  generalize a % (p.defs.map Dfn.iv).length=d at *
  have hpp:=progR_parts hb
  have I:=(canonP_is hb).rens
  have hcf:=(canonP_is hb).fits hp
  have hcb:progR (canonP p)=true:=by rw [I.prog];exact hb
  have hcc:canonP (canonP p)=canonP p:=I.canon hb
  have h45:=ret45 hp
  rw [canonR_ok hb] at h45
  have h45:=orcK_ret (by kernel_rfl) h45
  have h45c:=ret45 hcf
  rw [canonR_ok hcb,hcc] at h45c
  have h45c:=orcK_ret (by kernel_rfl) h45c
  have h200:=ret200 hp hcf
  have hal:alikeR p (canonP p)=(true,0):=by
   unfold alikeR
   rw [if_pos (by rw [hb,hcb];rfl),hcc,(Pgm.same_iff _ _).2 rfl]
  rw [hal] at h200
  have h200:=orcK_ret (by kernel_rfl) h200
  have h36c:=ret36 _ hcf
  rw [hcb] at h36c
  have h36c:=orcK_ret (by kernel_rfl) h36c
  have hcpp:=progR_parts hcb
  have h23:=orcK_ret (by kernel_rfl) (ret23 (p:=canonP p) (by omega) (by omega) hcpp.2.2.2.1)
  have h17:=ret17 p hp
  have h17c:=ret17 _ hcf
  have hri:ringsA (canonP p)=ringsA p:=by unfold ringsA ringsOf;rw [hb,hcb,I.tos]
  rw [hcb,hri] at h17c
  rw [hb] at h17
  simp only [if_true] at h17 h17c
  have h17:=orcK_ret (by kernel_rfl) h17
  have h17c:=orcK_ret (by kernel_rfl) h17c
  have hrl:=ringsA_len p
  have hrl2:=ringsA_le p
  have h20:=orcK_ret (by kernel_rfl) (ret20 (l:=ringsA p) (by omega) (fun x hx=>by have:=hrl2 x hx;omega))
  have h27:=ret27 p hp
  have h27c:=ret27 _ hcf
  rw [hb] at h27
  rw [hcb,I.count] at h27c
  simp only [if_true] at h27 h27c
  have h27:=orcK_ret (by kernel_rfl) h27
  have h27c:=orcK_ret (by kernel_rfl) h27c
  have h21:=orcK_ret (by kernel_rfl) (ret21 p hp (d:Int))
  have h21c:=orcK_ret (by kernel_rfl) (ret21 _ hcf (d:Int))
  obtain ⟨e1,e2,e3⟩:=inl_pair I hp hcf hb d
  have h25:=orcK_keep hp (ls:=[(d:Int)]) (by unfold maxI;simp)
  have h25c:=orcK_keep hcf (ls:=[(d:Int)]) (by unfold maxI;simp)
  unfold keepIV at h25 h25c
  rw [keepR_ok hb hd] at h25
  rw [keepR_ok hcb (by rw [I.lens.2];exact hd)] at h25c
  have hkal:=orcK_ret (by kernel_rfl) (ret213b (keepP_fits hp [(d:Int)]) (keepP_fits hcf [(d:Int)]) (alike_ren (I.keep [(d:Int)]) (kept_prog hb [(d:Int)])))
  have hin:CK.orc 25 [(inlR p (d:Int)).1.iv,(inlR (canonP p) (d:Int)).1.iv, .int .i64 (inlR p (d:Int)).2]=some (.dat (.bool true)):=by
   by_cases hz:(inlR p (d:Int)).2=0
   ·obtain ⟨k1,k2,k3⟩:=e2 hz
    rw [hz]
    exact orcK_ret (by kernel_rfl) (ret213b k2 k3 k1)
   ·obtain ⟨k1,k2⟩:=e3 hz
    rw [k1,k2]
    exact orcK_ret (by kernel_rfl) (ret213a (by simpa using hz))
  generalize keepP p [(d:Int)]=kp at *
  generalize keepP (canonP p) [(d:Int)]=kc at *
  generalize inlR (canonP p) (d:Int)=ic at *
  generalize inlR p (d:Int)=ip at *
  generalize ringsA p=rgs at *
  generalize countR p=cnt at *
  clear I e2 e3 hcc hcpp hpp hal hri hrl2
  generalize canonP p=c at *
  obtain ⟨⟨is,id⟩,z⟩:=ip
  obtain ⟨⟨js,jd⟩,z2⟩:=ic
  obtain ⟨ks,kd⟩:=kp
  obtain ⟨ms,md⟩:=kc
  obtain ⟨cs,cd⟩:=c
  obtain ⟨srcs,defs⟩:=p
  simp only at *
  subst e1
  have bz:((0:Int) != 0)=false:=rfl
  have bz2:((0:Int)==0)=true:=rfl
  have bn:(cnt != cnt)=false:=by simp
  have bn2:(z2 != z2)=false:=by simp
  have bi:(if true=true then (0:Int) else 2)=0:=rfl
  refine Ret.of (C:=CK) (fn:=Go.Proofs.Tryz.f4) (by kernel_rfl) rfl rfl ?_
  refine BB ?_
  refine R.op0 (O.callO h36 rfl rfl) rfl ?_
  refine BB ?_
  refine R.op0 (O.convK rfl rfl (wrap64 (by omega))) rfl ?_
  refine BB ?_
  refine R.op0 (O.int rfl rfl q1) rfl ?_
  refine BB ?_
  refine R.op0 (O.callO h45 rfl rfl) rfl ?_
  refine BB ?_
  refine R.op0 (O.callO h200 rfl rfl) rfl ?_
  refine BB ?_
  refine R.op0 (O.callO h45c rfl rfl) rfl ?_
  refine BB ?_
  refine R.op0 (O.callO h36c rfl rfl) rfl ?_
  refine BB ?_
  refine R.op0 (O.callO h23 rfl rfl) rfl ?_
  refine BB ?_
  refine R.op0 (O.callO h17 rfl rfl) rfl ?_
  refine BB ?_
  refine R.op0 (O.callO h17c rfl rfl) rfl ?_
  refine BB ?_
  refine R.op0 (O.callO h27 rfl rfl) rfl ?_
  refine BB ?_
  refine R.op0 (O.callO h27c rfl rfl) rfl ?_
  refine BB ?_
  refine R.op0 (O.callO h20 rfl rfl) rfl ?_
  refine BB ?_
  refine R.op0 (O.callO h21 rfl rfl) rfl ?_
  refine BB ?_
  refine R.op0 (O.callO h21c rfl rfl) rfl ?_
  refine BB ?_
  refine R.op0 (O.callO hin rfl rfl) rfl ?_
  refine BB ?_
  have hpe:∀ {G:Nat->Obj} {o:Nat},G o = .row 3 1 [.imm (.int .i64 ((d:Nat):Int))] false->Go.Abs.peek G pkDepth (.row o 1)=some (intsIV [((d:Nat):Int)],[o]):=fun h=>peek_row1 (xs:=[.int .i64 ((d:Nat):Int)]) h rfl
  refine R.opU (O.callOFz' h25 rfl (peeks_im (peeks_one (hpe at_upd) peeks_nil)) rfl) rfl ?_
  refine R.gen' (fun G=>G 23 = .box [.imm (.lst (cs.map sv)), .imm (.lst (cd.map Dfn.iv))] false/\G 126 = .box [.imm (.lst (is.map sv)), .imm (.lst (id.map Dfn.iv))] false/\G 135 = .box [.imm (.lst (js.map sv)), .imm (.lst (jd.map Dfn.iv))] false) ⟨?_,?_,?_⟩ ?_
  ·exact (frz_at (q:=150)).trans ((if_neg (by omega)).trans at_upd)
  ·exact (frz_at (q:=150)).trans ((if_neg (by omega)).trans at_upd)
  ·exact (frz_at (q:=150)).trans ((if_neg (by omega)).trans at_upd)
  rintro G ⟨g23,g126,g135⟩
  refine BB ?_
  refine R.opU (O.callOFz' h25c rfl (peeks_im (peeks_one (hpe at_upd) peeks_nil)) rfl) rfl ?_
  refine R.gen' (fun G=>G 126 = .box [.imm (.lst (ks.map sv)), .imm (.lst (kd.map Dfn.iv))] false/\G 135 = .box [.imm (.lst (js.map sv)), .imm (.lst (jd.map Dfn.iv))] false) ⟨?_,?_⟩ ?_
  ·exact (frz_at (q:=159)).trans ((if_neg (by omega)).trans at_upd)
  ·exact (frz_at (q:=159)).trans ((if_neg (by omega)).trans (Eq.trans at_upd g135))
  clear g23 g126 g135 G
  rintro G ⟨g126,g135⟩
  refine BB ?_
  refine R.op0 (O.callO hkal rfl rfl) rfl ?_
  refine BB ?_
  refine R.op0 (O.callO h14 rfl rfl) rfl ?_
  refine BB ?_
  exact W.retFin1 rfl ⟨[],rfl⟩
end Go.Abs
