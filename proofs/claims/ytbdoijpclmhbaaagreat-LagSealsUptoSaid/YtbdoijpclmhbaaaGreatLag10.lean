/- The lags of definitions: round after round. -/
import Derived.Test.YtbdoijpclmhbaaaGreatLag9
open Go Go.Abs
namespace Go.Abs
set_option maxRecDepth 100000
def colD (D:List (List Lg)) (s:Nat):Nat->Lg:=fun d=>(D.getD d []).getD s Lg.z
def expAt (p:Pgm) (d:Nat):Exp:=match p.defs[d]? with
 |some x=>x.exp
 |none => .mk 0 [] 0 0 [] []
def allL (p:Pgm) (D:List (List Lg)) (e:Exp):List Lg:=(List.range p.srcs.length).map fun s=>expG p.srcs (p.defs.map Dfn.name) (colD D s) s e
def ringL (ring:Bool) (a:Lg):Lg:=if ring then a.thru true 0 0 else a
def rowL (p:Pgm) (ring:Bool) (D:List (List Lg)) (d:Nat):List Lg:=(allL p D (expAt p d)).map (ringL ring)
def setL (p:Pgm) (ring:Bool) (D:List (List Lg)) (d:Nat):List (List Lg):=D.set d (rowL p ring D d)
def rndL (p:Pgm) (ring:Bool) (g:List Nat) (D:List (List Lg)):List (List Lg):=g.foldl (setL p ring) D
def rndsL (p:Pgm) (ring:Bool) (g:List Nat):Nat->List (List Lg)->List (List Lg)
 |0,D=>D
 |n+1,D=>rndL p ring g (rndsL p ring g n D)
structure Wide (p:Pgm) (D:List (List Lg)):Prop where
 len:D.length=p.defs.length
 row:∀ r∈D,r.length=p.srcs.length
 ok:∀ r∈D,∀ a∈r,a.Ok
theorem Wide.col {p:Pgm} {D:List (List Lg)} (h:Wide p D) (s d:Nat):(colD D s d).Ok:=by
 unfold colD
 rw [List.getD_eq_getElem?_getD,List.getD_eq_getElem?_getD]
 cases hd:D[d]? with
 |none=>exact Lg.okz
 |some r=>
  simp only [Option.getD_some]
  cases hs:r[s]? with
  |none=>exact Lg.okz
  |some a=>exact h.ok r (List.mem_of_getElem? hd) a (List.mem_of_getElem? hs)
theorem rowL_len (p:Pgm) (ring:Bool) (D:List (List Lg)) (d:Nat):(rowL p ring D d).length=p.srcs.length:=by simp [rowL,allL]
theorem Wide.allL {p:Pgm} {D:List (List Lg)} (h:Wide p D) (e:Exp):∀ a∈allL p D e,a.Ok:=fun a ha=>by
 unfold Go.Abs.allL at ha
 obtain ⟨s,_,rfl⟩:=List.mem_map.1 ha
 exact expG_ok _ _ (h.col s) s _
theorem Wide.rowL {p:Pgm} {D:List (List Lg)} (h:Wide p D) (ring:Bool) (d:Nat):∀ a∈rowL p ring D d,a.Ok:=fun a ha=>by
 unfold Go.Abs.rowL at ha
 obtain ⟨b,hb,rfl⟩:=List.mem_map.1 ha
 unfold ringL
 split
 ·exact (h.allL _ b hb).thru _ _ _
 ·exact h.allL _ b hb
theorem Wide.set {p:Pgm} {D:List (List Lg)} (h:Wide p D) (ring:Bool) (d:Nat):Wide p (setL p ring D d) where
 len:=by unfold setL;rw [List.length_set];exact h.len
 row:=fun r hr=>by
  rcases List.mem_or_eq_of_mem_set hr with hr|rfl
  ·exact h.row r hr
  ·exact rowL_len ..
 ok:=fun r hr=>by
  rcases List.mem_or_eq_of_mem_set hr with hr|rfl
  ·exact h.ok r hr
  ·exact h.rowL ring d
theorem Wide.rnd {p:Pgm} {ring:Bool}:∀ (g:List Nat) {D:List (List Lg)},Wide p D->Wide p (rndL p ring g D)
 |[],_,h=>h
 |d::g,_,h=>Wide.rnd g (h.set ring d)
theorem Wide.rnds {p:Pgm} {D:List (List Lg)} (h:Wide p D) (ring:Bool) (g:List Nat):∀ n,Wide p (rndsL p ring g n D)
 |0=>h
 |n+1=>(h.rnds ring g n).rnd g
theorem Wide.ext {p:Pgm} {D E:List (List Lg)} (h:Wide p D) (k:Wide p E) (he:∀ s,s < p.srcs.length->∀ d,colD D s d=colD E s d):D=E:=by
 refine List.ext_getElem (by rw [h.len,k.len]) fun d h1 h2=>?_
 refine List.ext_getElem (by rw [h.row _ (List.getElem_mem h1),k.row _ (List.getElem_mem h2)]) fun s h3 h4=>?_
 have hs:s < p.srcs.length:=by rw [<-h.row _ (List.getElem_mem h1)];exact h3
 have:=he s hs d
 unfold colD at this
 simpa [List.getD_eq_getElem?_getD,h1,h2,h3,h4] using this
theorem col_set {p:Pgm} {D:List (List Lg)} (h:Wide p D) (ring:Bool) {d:Nat} (hd:d < p.defs.length) {s:Nat} (hs:s < p.srcs.length) (e:Nat) :
  colD (setL p ring D d) s e=if e=d then ringL ring (expG p.srcs (p.defs.map Dfn.name) (colD D s) s (expAt p d)) else colD D s e:=by
 have hd':d < D.length:=by rw [h.len];exact hd
 unfold colD setL
 by_cases he:e=d
 ·subst he
  rw [if_pos rfl,List.getD_eq_getElem?_getD (l:=D.set e _),List.getElem?_set_self hd',Option.getD_some]
  unfold rowL allL
  simp [List.getD_eq_getElem?_getD,hs]
  rfl
 ·rw [if_neg he,List.getD_eq_getElem?_getD (l:=D.set d _),List.getElem?_set_ne (fun h=>he h.symm),<-List.getD_eq_getElem?_getD]
/-! A ring. -/
def ofK:Option Int->Lg
 |none=>Lg.z
 |some a=>⟨true,true,0,a⟩
theorem ring_ofK {a:Lg} (h:a.Ok):ringL true a=ofK (ringL true a).key:=by
 unfold ringL
 rw [if_pos rfl]
 unfold Lg.thru
 cases ha:a.on
 ·rw [h.none ha];rfl
 ·simp [Lg.key,ofK]
def valK (g:List Nat) (w:Nat->Lg) (u:Nat->Option Int) (e:Nat):Lg:=if e∈g then ofK (u e) else w e
def FK (p:Pgm) (g:List Nat) (w:Nat->Lg) (s:Nat) (u:Nat->Option Int) (d:Nat):Option Int:=(ringL true (expG p.srcs (p.defs.map Dfn.name) (valK g w u) s (expAt p d))).key
theorem key_ofK (x:Option Int):(ofK x).key=x:=by cases x<;>rfl
theorem key_ring (a:Lg):(ringL true a).key=a.key:=by
 unfold ringL
 rw [if_pos rfl,key_thru]
 cases a.key<;>simp [oup]
theorem FK_ok {p:Pgm} {g:List Nat} {w:Nat->Lg} {s:Nat} (hg:∀ d∈g,∀ x∈allE (expAt p d),x.fore=false/\(x.op=2\/x.op=3->0<=x.n)) {v0:Nat->Option Int} (h0:∀ d∈g,v0 d=none):Iter.Ok (FK p g w s) g v0 where
 start:=h0
 mono:=fun u v h d=>by
  unfold FK
  rw [key_ring,key_ring]
  refine expG_mono _ _ _ (fun e=>?_) _
  unfold valK
  split
  ·rw [key_ofK,key_ofK];exact h e
  ·exact Iter.le_refl _
 wit:=fun u v h ho d hd hlt=>by
  unfold FK at hlt ⊢
  rw [key_ring] at hlt ⊢
  rw [key_ring] at hlt
  obtain ⟨e,he,h1,h2⟩:=expG_wit p.srcs (p.defs.map Dfn.name) s (g:=g) (u:=valK g w u) (v:=valK g w v) (fun e he=>by unfold valK;rw [if_neg he,if_neg he]) _ (hg d hd) hlt
  unfold valK at h1 h2
  rw [if_pos he,key_ofK] at h1 h2
  rw [if_pos he,key_ofK] at h2
  exact ⟨e,he,h1,h2⟩
theorem ring_step {p:Pgm} {g:List Nat} {w:Nat->Lg} {s:Nat} (hs:s < p.srcs.length) {D:List (List Lg)} (h:Wide p D) {u:Nat->Option Int} (hu:∀ e,colD D s e=valK g w u e) {d:Nat} (hd:d < p.defs.length) (hg:d∈g) (e:Nat) :
  colD (setL p true D d) s e=valK g w (Iter.one (FK p g w s) u d) e:=by
 rw [col_set h true hd hs,show colD D s=valK g w u from funext hu]
 unfold valK Iter.one
 by_cases he:e=d
 ·subst he
  rw [if_pos rfl,if_pos hg,if_pos rfl]
  have hok:(expG p.srcs (p.defs.map Dfn.name) (valK g w u) s (expAt p e)).Ok:=expG_ok _ _ (fun e=>by rw [<-hu];exact h.col s e) s _
  exact ring_ofK hok
 ·rw [if_neg he,if_neg he]
theorem ring_rnd {p:Pgm} {g:List Nat} {w:Nat->Lg} {s:Nat} (hs:s < p.srcs.length):∀ (r:List Nat),(∀ d∈r,d < p.defs.length/\d∈g)->∀ {D:List (List Lg)},Wide p D->∀ {u:Nat->Option Int},(∀ e,colD D s e=valK g w u e) ->
  ∀ e,colD (rndL p true r D) s e=valK g w (r.foldl (Iter.one (FK p g w s)) u) e
 |[],_,_,_,_,hu=>hu
 |d::r,hr,D,h,u,hu=>by
  have hd:=hr d (List.mem_cons_self ..)
  exact ring_rnd hs r (fun x hx=>hr x (List.mem_cons_of_mem _ hx)) (h.set true d) (ring_step hs h hu hd.1 hd.2)
theorem ring_rnds {p:Pgm} {g:List Nat} {w:Nat->Lg} {s:Nat} (hs:s < p.srcs.length) (hg:∀ d∈g,d < p.defs.length) {D:List (List Lg)} (h:Wide p D) {u:Nat->Option Int} (hu:∀ e,colD D s e=valK g w u e) :
  ∀ n e,colD (rndsL p true g n D) s e=valK g w (Iter.it (Iter.gs (FK p g w s) g) n u) e
 |0=>hu
 |n+1=>ring_rnd hs g (fun d hd=>⟨hg d hd,hd⟩) (h.rnds true g n) (ring_rnds hs hg h hu n)
theorem ring_end {p:Pgm} {g:List Nat} (hg:∀ d∈g,d < p.defs.length) (hx:∀ d∈g,∀ x∈allE (expAt p d),x.fore=false/\(x.op=2\/x.op=3->0<=x.n)) {D:List (List Lg)} (h:Wide p D) (h0:∀ d∈g,∀ s,colD D s d=Lg.z) {m n:Nat} (hm:g.length<=m) (hn:g.length<=n) :
  rndsL p true g m D=rndsL p true g n D:=by
 refine (h.rnds true g m).ext (h.rnds true g n) fun s hs e=>?_
 have hu:∀ e,colD D s e=valK g (colD D s) (fun d=>if d∈g then none else (colD D s d).key) e:=fun e=>by
  unfold valK
  by_cases he:e∈g
  ·rw [if_pos he,h0 e he];simp only [he,if_true];rfl
  ·rw [if_neg he]
 have hok:=FK_ok (p:=p) (g:=g) (w:=colD D s) (s:=s) hx (v0:=fun d=>if d∈g then none else (colD D s d).key) (fun d hd=>if_pos hd)
 rw [ring_rnds hs hg h hu m e,ring_rnds hs hg h hu n e,Iter.gs_eq hok hm,Iter.gs_eq hok hn]
/-! What is alone. -/
mutual
theorem expG_cong (srcs names:List Str) {u v:Nat->Lg} (s:Nat):∀ e,(∀ x∈allE e,x.op=2\/x.op=3->u (idxN names x.name)=v (idxN names x.name))->expG srcs names u s e=expG srcs names v s e
 | .mk op name n fold calcs kids,h=>by
  rw [expG,expG]
  split
  ·rfl
  ·split
   ·rename_i hop
    have h1:u (idxN names name)=v (idxN names name):=h (.mk op name n fold calcs kids) (by rw [allE];exact List.mem_cons_self ..) hop
    rw [h1]
   ·exact kidsG_cong srcs names s op n kids 0 _ fun x hx=>h x (by rw [allE];exact List.mem_cons_of_mem _ hx)
theorem kidsG_cong (srcs names:List Str) {u v:Nat->Lg} (s:Nat) (op n:Int):∀ (l:List Exp) (i:Nat) (out:Lg),(∀ x∈allEs l,x.op=2\/x.op=3->u (idxN names x.name)=v (idxN names x.name))->kidsG srcs names u s op n l i out=kidsG srcs names v s op n l i out
 |[],_,_,_=>by rw [kidsG,kidsG]
 |x::r,i,out,h=>by
  rw [kidsG,kidsG,expG_cong srcs names s x fun y hy=>h y (by rw [allEs];exact List.mem_append_left _ hy)]
  exact kidsG_cong srcs names s op n r (i+1) _ fun y hy=>h y (by rw [allEs];exact List.mem_append_right _ hy)
end
theorem one_end {p:Pgm} {d:Nat} (hd:d < p.defs.length) (hx:∀ x∈allE (expAt p d),x.op=2\/x.op=3->idxN (p.defs.map Dfn.name) x.name≠d) {D:List (List Lg)} (h:Wide p D):∀ {n:Nat},1<=n->rndsL p false [d] n D=rndsL p false [d] 1 D
 |0,hn=>absurd hn (by omega)
 |1,_=>rfl
 |n+2,_=>by
  rw [rndsL,one_end hd hx h (n:=n+1) (by omega)]
  have hw:Wide p (setL p false D d):=h.set false d
  show setL p false (setL p false D d) d=setL p false D d
  refine (hw.set false d).ext hw fun s hs e=>?_
  rw [col_set hw false hd hs]
  by_cases he:e=d
  ·subst he
   rw [if_pos rfl,col_set h false hd hs,if_pos rfl]
   refine congrArg (ringL false) (expG_cong _ _ s _ fun x hxe hop=>?_)
   rw [col_set h false hd hs,if_neg (hx x hxe hop)]
  ·rw [if_neg he]
theorem rnds_still {p:Pgm} {ring:Bool} {g:List Nat} {D:List (List Lg)} {r:Nat} (h:rndL p ring g (rndsL p ring g r D)=rndsL p ring g r D):∀ {m:Nat},r<=m->rndsL p ring g m D=rndsL p ring g r D:=by
 intro m hm
 induction hm with
 |refl=>rfl
 |step _ ih=>rw [rndsL,ih,h]
end Go.Abs

/- The groups of definitions, in their order: how the reference finds them. -/
open Go Go.Abs
namespace Go.Abs
set_option maxRecDepth 100000
noncomputable def groupsR (tos:List (List Nat)):List (List Nat):=ringsR (reachR tos)++((List.range tos.length).filter fun d => !reachB tos d d).map fun d=>[d]
section
variable {tos:List (List Nat)}
theorem grp_head {d f:Nat} {r:List Nat} (h:grpR tos d=f::r) {x:Nat} (hx:x∈grpR tos d):f<=x:=by
 have hp:(grpR tos d).Pairwise (· < ·):=List.Pairwise.filter _ List.pairwise_lt_range
 rw [h] at hp hx
 rcases List.mem_cons.1 hx with rfl|hx
 ·exact Nat.le_refl _
 ·exact Nat.le_of_lt ((List.pairwise_cons.1 hp).1 x hx)
theorem grp_alone {d:Nat} (hd:d < tos.length) (hn:¬ Reach tos d d):grpR tos d=[d]:=by
 have hm:∀ x,x∈grpR tos d↔x=d:=fun x=>by
  rw [mem_grp hd]
  refine ⟨fun h=>?_,fun h=>⟨h▸hd, .inl h⟩⟩
  rcases h.2 with h|⟨h1,h2⟩
  ·exact h
  ·exact absurd (h1.trans h2) hn
 have hnd:=grp_nodup (tos:=tos) d
 match hg:grpR tos d with
 |[]=>have:=(hm d).2 rfl;rw [hg] at this;exact absurd this List.not_mem_nil
 |[x]=>rw [(hm x).1 (by rw [hg];exact List.mem_singleton.2 rfl)]
 |x::y::r=>
  rw [hg] at hnd
  have h1:=(hm x).1 (by rw [hg];simp)
  have h2:=(hm y).1 (by rw [hg];simp)
  rw [h1,h2] at hnd
  simp at hnd
theorem groups_is {g:List Nat} (h:g∈groupsR tos):∃ f r,f < tos.length/\g=f::r/\g=grpR tos f:=by
 rcases List.mem_append.1 h with h|h
 ·unfold ringsR ringsTo at h
  obtain ⟨i,hi,rfl⟩:=List.mem_map.1 h
  rw [List.mem_filter,List.mem_range,reachR_len] at hi
  obtain ⟨h1,h2⟩:=hi
  unfold ringIs at h2
  rw [Bool.and_eq_true,beq_iff_eq] at h2
  have h3:=h2.2
  rw [reachR_len] at h3 ⊢
  cases hr:ringTo (reachR tos) i tos.length with
  |nil=>rw [hr] at h3;cases h3
  |cons f r=>
   rw [hr] at h3
   simp only [List.head?_cons,Option.some.injEq] at h3
   subst h3
   exact ⟨f,r,h1,rfl,hr.symm⟩
 ·obtain ⟨d,hd,rfl⟩:=List.mem_map.1 h
  rw [List.mem_filter,List.mem_range,Bool.not_eq_true'] at hd
  refine ⟨d,[],hd.1,rfl,(grp_alone hd.1 fun hr=>?_).symm⟩
  rw [reachB_iff.2 hr] at hd
  cases hd.2
theorem groups_all {d:Nat} (hd:d < tos.length):grpR tos d∈groupsR tos:=by
 by_cases hr:Reach tos d d
 ·obtain ⟨r,h1,h2⟩:=rings_mem.2 ⟨hd,hr⟩
  have h3:r∈groupsR tos:=List.mem_append_left _ h1
  obtain ⟨f,r',hf,h4,h5⟩:=groups_is h3
  rw [h5] at h2
  rw [grp_same hf h2,<-h5]
  exact h3
 ·refine List.mem_append_right _ (List.mem_map.2 ⟨d,?_,(grp_alone hd hr).symm⟩)
  rw [List.mem_filter,List.mem_range,Bool.not_eq_true']
  refine ⟨hd,?_⟩
  cases h:reachB tos d d with
  |false=>rfl
  |true=>exact absurd (reachB_iff.1 h) hr
theorem groups_nodup:(groupsR tos).Nodup:=by
 refine List.nodup_append.2 ⟨?_,?_,?_⟩
 ·refine List.Pairwise.map _ ?_ (List.Pairwise.imp_of_mem ?_ (List.Pairwise.filter (ringIs (reachR tos)) (List.nodup_range (n:=(reachR tos).length))) (S:=fun a b=>ringTo (reachR tos) a (reachR tos).length≠ringTo (reachR tos) b (reachR tos).length))
  ·exact fun a b h=>h
  ·intro a b ha hb hab he
   rw [List.mem_filter] at ha hb
   have h1:=ha.2
   have h2:=hb.2
   unfold ringIs at h1 h2
   rw [Bool.and_eq_true,beq_iff_eq] at h1 h2
   rw [he,h2.2] at h1
   exact hab (Option.some.inj h1.2).symm
 ·refine List.Pairwise.map _ ?_ (List.Pairwise.filter _ (List.nodup_range (n:=tos.length)))
  exact fun a b h he=>h (List.singleton_inj.1 he)
 ·intro a ha b hb hab
  subst hab
  obtain ⟨d,hd,rfl⟩:=List.mem_map.1 hb
  rw [List.mem_filter,List.mem_range,Bool.not_eq_true'] at hd
  have:=(rings_mem (tos:=tos) (k:=d)).1 ⟨[d],ha,List.mem_singleton.2 rfl⟩
  rw [reachB_iff.2 this.2] at hd
  cases hd.2
theorem ready_ref {done:List Nat} {f:Nat} (hf:f < tos.length):readyR tos done f=(!done.contains f&&(List.range tos.length).all fun k => !reachB tos f k||reachB tos k f||done.contains k):=by
 rw [Bool.eq_iff_iff,ready_iff,Bool.and_eq_true,List.all_eq_true,Bool.not_eq_true',List.contains_eq_mem,decide_eq_false_iff_not]
 refine and_congr Iff.rfl ⟨fun h k hk=>?_,fun h k hk hr=>?_⟩
 ·rw [List.mem_range] at hk
  cases hr:reachB tos f k with
  |false=>rfl
  |true=>
   have hfk:=reachB_iff.1 hr
   rcases h k hk hfk with h|h
   ·simp [h]
   ·have:reachB tos k f=true:=by
     rcases ((mem_grp hf).1 h).2 with rfl|⟨_,h2⟩
     ·exact hr
     ·exact reachB_iff.2 h2
    simp [this]
 ·have:=h k (List.mem_range.2 hk)
  rw [reachB_iff.2 hr] at this
  simp only [Bool.not_true,Bool.false_or,Bool.or_eq_true,List.contains_iff_mem] at this
  rcases this with h|h
  ·exact .inr ((mem_grp hf).2 ⟨hk, .inr ⟨hr,reachB_iff.1 h⟩⟩)
  ·exact .inl h
structure BestIs (tos:List (List Nat)) (done:List Nat) (g:Nat) (best:Option Nat):Prop where
 none:best=none->∀ i f r,i < g->(groupsR tos)[i]? = some (f::r)->readyR tos done f=false
 some:∀ j,best=some j->j < g/\∃ f r,(groupsR tos)[j]? = some (f::r)/\readyR tos done f=true/\∀ i f' r',i < g->(groupsR tos)[i]? = some (f'::r')->readyR tos done f'=true->f<=f'
theorem BestIs.zero {done:List Nat}:BestIs tos done 0 .none:=⟨fun _ i _ _ h=>absurd h (Nat.not_lt_zero i),fun _ h=>by cases h⟩
theorem BestIs.skip {done:List Nat} {g:Nat} {best:Option Nat} (h:BestIs tos done g best) {f:Nat} {r:List Nat} (hg:(groupsR tos)[g]? = .some (f::r))
  (hn:readyR tos done f=false\/∃ j f' r',best = .some j/\(groupsR tos)[j]? = .some (f'::r')/\f'<=f):BestIs tos done (g+1) best where
 none:=fun hb i f' r' hi he=>by
  rcases Nat.lt_or_eq_of_le (Nat.le_of_lt_succ hi) with hi|rfl
  ·exact h.none hb i f' r' hi he
  ·rw [hg] at he;cases he
   rcases hn with hn|⟨j,_,_,hj,_⟩
   ·exact hn
   ·rw [hb] at hj;cases hj
 some:=fun j hj=>by
  obtain ⟨h1,f1,r1,h2,h3,h4⟩:=h.some j hj
  refine ⟨by omega,f1,r1,h2,h3,fun i f' r' hi he hr=>?_⟩
  rcases Nat.lt_or_eq_of_le (Nat.le_of_lt_succ hi) with hi|rfl
  ·exact h4 i f' r' hi he hr
  ·rw [hg] at he;cases he
   rcases hn with hn|⟨j',f2,r2,hj',h5,h6⟩
   ·rw [hr] at hn;cases hn
   ·rw [hj] at hj';cases hj'
    rw [h2] at h5;cases h5
    exact h6
theorem BestIs.take {done:List Nat} {g:Nat} {best:Option Nat} (h:BestIs tos done g best) {f:Nat} {r:List Nat} (hg:(groupsR tos)[g]? = .some (f::r)) (hr:readyR tos done f=true)
  (hn:best = .none\/∃ j f' r',best = .some j/\(groupsR tos)[j]? = .some (f'::r')/\f < f'):BestIs tos done (g+1) (.some g) where
 none:=fun hb=>by cases hb
 some:=fun j hj=>by
  cases hj
  refine ⟨by omega,f,r,hg,hr,fun i f' r' hi he hr'=>?_⟩
  rcases Nat.lt_or_eq_of_le (Nat.le_of_lt_succ hi) with hi|rfl
  ·rcases hn with hn|⟨j',f2,r2,hj',h5,h6⟩
   ·rw [h.none hn i f' r' hi he] at hr';cases hr'
   ·obtain ⟨_,f1,r1,h2,_,h4⟩:=h.some j' hj'
    rw [h2] at h5;cases h5
    have:=h4 i f' r' hi he hr'
    omega
  ·rw [hg] at he;cases he;exact Nat.le_refl _
theorem BestIs.fin {done:List Nat} (hdone:DoneIs tos done) (hl:done.length < tos.length) {best:Option Nat} (h:BestIs tos done (groupsR tos).length best):∃ j d,best = .some j/\(groupsR tos)[j]? = .some (grpR tos d)/\nextR tos done = .some d/\d < tos.length/\d∉done:=by
 obtain ⟨d,h1,h2,h3⟩:=next_some hl
 obtain ⟨_,h4,h5⟩:=next_inv h1
 obtain ⟨i,hi⟩:=List.mem_iff_getElem?.1 (groups_all h2)
 obtain ⟨f,r,hf,hg1,hg2⟩:=groups_is (groups_all h2)
 have hfd:f∈grpR tos d:=by rw [hg1];exact List.mem_cons_self ..
 have hfr:=ready_same hdone h2 hfd h4
 have hle:=grp_head hg1 (grp_self h2)
 have hfeq:f=d:=by
  rcases Nat.lt_or_eq_of_le hle with hlt|h
  ·rw [h5 f hlt] at hfr;cases hfr
  ·exact h
 have hil:i < (groupsR tos).length:=(List.getElem?_eq_some_iff.1 hi).1
 rw [hg1] at hi
 cases best with
 |none=>rw [h.none rfl i f r hil hi] at hfr;cases hfr
 |some j=>
  obtain ⟨_,f1,r1,k2,k3,k4⟩:=h.some j rfl
  have hle1:=k4 i f r hil hi hfr
  have hf1:f1=d:=by
   rcases Nat.lt_or_eq_of_le (by omega:f1<=d) with hlt|h
   ·rw [h5 f1 hlt] at k3;cases k3
   ·exact h
  obtain ⟨f2,r2,_,e1,e2⟩:=groups_is (List.mem_of_getElem? k2)
  cases e1
  refine ⟨j,d,rfl,?_,h1,h2,h3⟩
  rw [k2,e2,hf1]
theorem groups_done {done:List Nat} (hdone:DoneIs tos done) {out:List (List Nat)} (ho:out.Nodup) (hs:∀ g∈out,g∈groupsR tos) (hd:∀ g∈groupsR tos,g∈out↔∀ k∈g,k∈done) :
  (out.length < (groupsR tos).length↔done.length < tos.length):=by
 constructor
 ·intro h
  refine Nat.lt_of_le_of_ne hdone.len fun he=>?_
  have:=nodup_le (groupsR tos) out groups_nodup (fun g hg=>(hd g hg).2 fun k hk=>by
   obtain ⟨f,r,hf,_,e⟩:=groups_is hg
   rw [e] at hk
   exact hdone.all (by omega) (grp_lt hk))
  omega
 ·intro h
  obtain ⟨d,hdl,hdn⟩:=DoneIs.some h
  have hg:=groups_all hdl
  have hno:grpR tos d∉out:=fun hc=>hdn ((hd _ hg).1 hc d (grp_self hdl))
  have:=nodup_le (grpR tos d::out) (groupsR tos) (List.nodup_cons.2 ⟨hno,ho⟩) (fun g hg'=>by
   rcases List.mem_cons.1 hg' with rfl|hg'
   ·exact hg
   ·exact hs g hg')
  simp only [List.length_cons] at this
  omega
end
end Go.Abs

/- The reference: the groups of definitions, in their order. -/
open Go Go.Abs
namespace Go.Abs
set_option maxRecDepth 100000
set_option maxHeartbeats 4000000
instance fnis445:FnIs CC 145:=⟨rfl,fun _=>rfl⟩
def RowI (lo hi:Nat) (G:Nat->Obj) (v:AV) (g:List Nat):Prop:=v = .imm (natsIV g)\/∃ o,lo<=o/\o < hi/\v = .row o g.length/\G o = .row 3 1 ((g.map natIV).map .imm) false
theorem RowI.frame {G G':Nat->Obj} {lo hi hi':Nat} {v:AV} {g:List Nat} (h:RowI lo hi G v g) (hh:hi<=hi') (hG:∀ o,lo<=o->o < hi->G' o=G o):RowI lo hi' G' v g:=by
 rcases h with h|⟨o,h0,h1,h2,h3⟩
 ·exact .inl h
 ·exact .inr ⟨o,h0,by omega,h2,by rw [hG o h0 h1];exact h3⟩
theorem RowI.rdx {G:Nat->Obj} {lo hi:Nat} {v:AV} {g:List Nat} (h:RowI lo hi G v g):Rdx 1 G (fun o=>lo<=o/\o < hi) v (natsIV g):=by
 rcases h with rfl|⟨o,h0,h1,rfl,h3⟩
 ·exact Rdx.imm ..
 ·exact Rdx.row h3 (by simp) (All2.imms ..) ⟨h0,h1⟩
theorem RowI.fits {G:Nat->Obj} {lo hi:Nat} {v:AV} {g:List Nat} (h:RowI lo hi G v g):v.fits 1=true:=by
 rcases h with rfl|⟨o,h0,h1,rfl,h3⟩<;>rfl
theorem All2.at {α β:Type} {R:α->β->Prop}:∀ {l:List α} {m:List β},All2 R l m->∀ {i:Nat} {y:β},m[i]? = some y->∃ x,l[i]? = some x/\R x y
 |[],[],_,_,_,h=>by simp at h
 |x::l,y::m,h,0,z,hz=>by
  simp at hz;subst hz;exact ⟨x,rfl,h.1⟩
 |x::l,y::m,h,i+1,z,hz=>by
  simp at hz
  obtain ⟨w,h1,h2⟩:=All2.at h.2 hz
  exact ⟨w,by simpa using h1,h2⟩
def boolsA (n:Nat) (done:List Nat):List AV:=(List.range n).map fun d => .imm (.bool (done.contains d))
theorem boolsA_nil (n:Nat):List.replicate n (AV.imm (.bool false))=boolsA n []:=by
 unfold boolsA
 rw [show (fun d:Nat=>AV.imm (IV.bool (([]:List Nat).contains d)))=fun _=>AV.imm (.bool false) from rfl,List.map_const',List.length_range]
theorem boolsA_len (n:Nat) (done:List Nat):(boolsA n done).length=n:=by simp [boolsA]
theorem boolsA_at {n:Nat} {done:List Nat} {d:Nat} (hd:d < n):(boolsA n done)[(d:Int).toNat]? = some (.imm (.bool (done.contains d))):=by
 rw [Int.toNat_natCast,boolsA,List.getElem?_map,List.getElem?_range hd];rfl
theorem boolsA_set {n:Nat} {done:List Nat} {d:Nat} (hd:d < n):(boolsA n done).set d (.imm (.bool true))=boolsA n (done++[d]):=by
 refine List.ext_getElem? fun i=>?_
 unfold boolsA
 rw [List.getElem?_set]
 simp only [List.length_map,List.length_range,List.getElem?_map]
 by_cases hi:d=i
 ·subst hi;simp [hd]
 ·rw [if_neg hi]
  rcases Nat.lt_or_ge i n with h|h
  ·rw [List.getElem?_range h]
   have:(done++[d]).contains i=done.contains i:=by
    rw [Bool.eq_iff_iff,List.contains_iff_mem,List.contains_iff_mem,List.mem_append,List.mem_singleton]
    exact ⟨fun h=>h.elim id fun e=>absurd e.symm hi, .inl⟩
   simp only [Option.map_some,this]
  ·rw [List.getElem?_eq_none (by simpa using h)];rfl
def OutV (Q hi:Nat) (G:Nat->Obj) (v:AV) (out:List (List Nat)):Prop:=(out=[]/\v = .nils)\/∃ o ws,Q < o/\o < hi/\v = .row o ws.length/\G o = .row 44 1 ws false/\All2 (RowI 10 Q G) ws out
theorem OutV.frame {Q hi hi':Nat} {G G':Nat->Obj} {v:AV} {out:List (List Nat)} (h:OutV Q hi G v out) (hh:hi<=hi') (hG:∀ o,10<=o->o < hi->o≠Q->G' o=G o) (hQ:Q<=hi) (h10:10<=Q):OutV Q hi' G' v out:=by
 rcases h with h|⟨o,ws,h1,h2,h3,h4,h5⟩
 ·exact .inl h
 ·exact .inr ⟨o,ws,h1,by omega,h3,by rw [hG o (by omega) h2 (by omega)];exact h4,h5.imp fun _ _ h=>h.frame (Nat.le_refl _) fun o h6 h7=>hG o h6 (by omega) (by omega)⟩
theorem OutV.elems {Q hi:Nat} {G:Nat->Obj} {v:AV} {out:List (List Nat)} (h:OutV Q hi G v out):∃ ws,Go.Abs.elems G v=some ws/\ws.length=out.length:=by
 rcases h with ⟨rfl,rfl⟩|⟨o,ws,h1,h2,rfl,h4,h5⟩
 ·exact ⟨[],rfl,rfl⟩
 ·exact ⟨ws,by simp [Go.Abs.elems,h4],h5.length⟩
theorem O.lenQ {C:Cfg} {id:Nat} {l:Env} {G:Nat->Obj} {nx:Nat} {df:List (AV×List AV)} {pk:Pk} {x:Operand} {t:TypeId} {k:TyI} {e' Q hi:Nat} {v:AV} {out:List (List Nat)} [hk:TyIs C t k] (hx:lookO l x=some v) (hl:k.d = .sl e') (ho:OutV Q hi G v out):OpV C id l G nx df pk (.call { callee := .builtin .len,args := #[x],argTypes := #[t] }) (.imm (.int .i64 out.length)) []:=by
 obtain ⟨vs,h1,h2⟩:=ho.elems
 exact O.len (m:=out.length) hx (by rw [hl];simp [lenA,h1,h2])
theorem R.appQ {C:Cfg} {nt:Nat} {ol r:List Oper} {base i:Nat} {l:Env} {G:Nat->Obj} {nx:Nat} {df:List (AV×List AV)} {pk:Pk} {Φ:Out->Prop} {x y:Operand} {t u:TypeId} {Q hi d:Nat} {k ke:TyI} {out:List (List Nat)} {v w a:AV} {g:List Nat} {ty:TypeId} {pos:String} {af:Array Edge} [hk:TyIs C t k] (ht:k.d = .sl 44) [he:TyIs C 44 ke] (hz1:ke.sz=1) (hu:Nat.beq t u=true) (hx:lookO l x=some v) (ho:OutV Q hi G v out) (hy:lookO l y=some w) (hw:elems G w=some [a]) (ha:RowI 10 Q G a g)
  (hb:ke.bytes<=4096) (hz:ke.zero.fits 1=true) (hm:out.length+1<=most) (hid:hi<=base+i/\Q < base+i) (hd:Nat.ble (d+1) nt=true)
  (next:∀ v' G',OutV Q (base+i+1) G' v' (out++[g])->(∀ o,o<=Q->G' o=G o)->R C nt ol base (i+1) r ((d,v')::l) G' nx df pk Φ) :
  R C nt ol base i (⟨some d, .call { callee := .builtin .append,args := #[x,y],argTypes := #[t,u] },ty,pos,af,none⟩::r) l G nx df pk Φ:=by
 have hfa:[a].all (AV.fits ke.sz)=true:=by rw [hz1];simp [ha.fits]
 rcases ho with ⟨rfl,rfl⟩|⟨o,ws,h1,h2,rfl,hG,hall⟩
 ·refine R.op1 (O.appNil ht hu hx hy hw (by omega) hb (by rw [hz1];exact hz) hfa (by simpa using hm)) hd (next _ _ (.inr ⟨base+i,[a],hid.2,by omega,rfl,by rw [upd_same,hz1],?_,trivial⟩) fun o ho=>upd_ne _ _ _ _ (by omega))
  exact ha.frame (Nat.le_refl _) fun o h1 h2=>upd_ne _ _ _ _ (by omega)
 ·have hl:=hall.length
  refine R.op1 (O.appRow ht hu hx (by rw [hG,hz1]) rfl hy hw (by omega) hb (by rw [hz1];exact hz) hfa (by rw [hl];simpa using hm)) hd (next _ _ (.inr ⟨o,ws++[a],h1,by omega,rfl,by rw [upd_same,hz1],?_⟩) fun o' ho'=>upd_ne _ _ _ _ (by omega))
  exact All2.append (hall.imp fun _ _ h=>h.frame (Nat.le_refl _) fun o' h1 h2=>upd_ne _ _ _ _ (by omega)) ⟨ha.frame (Nat.le_refl _) fun o' h1 h2=>upd_ne _ _ _ _ (by omega),trivial⟩
theorem rows_rdx {lo hi:Nat} {G:Nat->Obj}:∀ {ws:List AV} {out:List (List Nat)},All2 (RowI lo hi G) ws out->All2 (Rdx 1 G fun _=>True) ws (out.map natsIV)
 |[],[],_=>trivial
 |_::_,_::_,h=>⟨h.1.rdx.frame (fun _ _=>rfl) fun _ _=>trivial,rows_rdx h.2⟩
def bestI:Option Nat->Int
 |none => -1
 |some j=>j
noncomputable def rdTo (tos:List (List Nat)) (done:List Nat) (f k:Nat):Bool:=((List.range k).all fun k => !reachB tos f k||reachB tos k f||done.contains k) && !done.contains f
theorem rdTo_succ (tos:List (List Nat)) (done:List Nat) (f k:Nat):rdTo tos done f (k+1)=(rdTo tos done f k&&(!reachB tos f k||reachB tos k f||done.contains k)):=by
 unfold rdTo
 rw [List.range_succ,List.all_append]
 simp only [List.all_cons,List.all_nil,Bool.and_true]
 generalize (List.range k).all _=a
 cases a<;>simp [Bool.and_comm]
theorem rdTo_end {tos:List (List Nat)} {done:List Nat} {f:Nat} (hf:f < tos.length):rdTo tos done f tos.length=readyR tos done f:=by
 rw [ready_ref hf,Bool.and_comm];rfl
theorem rowsI_imm (lo hi:Nat) (G:Nat->Obj):∀ l:List (List Nat),All2 (RowI lo hi G) ((l.map natsIV).map .imm) l
 |[]=>trivial
 |_::l=>⟨.inl rfl,rowsI_imm lo hi G l⟩
theorem ret445 {p:Pgm} (hg:p.Good) (hp:p.Fits):Ret CC 145 [p.iv] (.lst ((orderR (tosR p)).map natsIV)):=by
 have h53:=hg.ret53 hp
 have h55:=hg.ret55 hp
 have hn:(tosR p).length=p.defs.length:=hg.steps.2.1
 have hd6:=hg.defs
 have hrl:=ringsOf_len hg
 have hcell:∀ i j,i < (tosR p).length->j < (tosR p).length->∃ row,((reachR (tosR p)).map boolsIV)[(i:Int).toNat]? = some (boolsIV row)/\(row.map IV.bool)[(j:Int).toNat]? = some (.bool (reachB (tosR p) i j)):=by
  intro i j hi hj
  refine ⟨reachRow (tosR p) (tosR p).length i,?_,?_⟩
  ·rw [Int.toNat_natCast,List.getElem?_map,reachR,List.getElem?_map,List.getElem?_range hi];rfl
  ·rw [Int.toNat_natCast,reachRow,List.map_map,List.getElem?_map,List.getElem?_range hj];rfl
 have hgr:groupsR (tosR p)=ringsOf p++((List.range (tosR p).length).filter fun d => !reachB (tosR p) d d).map fun d=>[d]:=rfl
 generalize tosR p=tos at *
 generalize ringsOf p=rings at *
 generalize hM:(reachR tos).map boolsIV=M at *
 have hMl:M.length=tos.length:=by rw [<-hM,List.length_map,reachR_len]
 obtain ⟨srcs,defs⟩:=p
 simp only at hn hd6
 have hdm:(defs.map Dfn.iv).length=tos.length:=by rw [List.length_map,hn]
 refine Ret.of (fn:=Go.Proofs.Tryz.f145) (by kernel_rfl) rfl rfl ?_
 refine W.seq (W.region ?_)
 refine R.op1 (O.boxS (cs:=[.imm (.lst (srcs.map sv)), .imm (.lst (defs.map Dfn.iv))]) rfl rfl rfl) rfl ?_
 refine BB ?_
 refine R.op1 (O.appNil (k:=ty34) (ke:=ty30) (ys:=(rings.map natsIV).map .imm) rfl rfl rfl rfl rfl (by decide) (by decide) rfl (by simp;intro x _;rfl) (by simp only [List.length_map,most];omega)) rfl ?_
 refine BB ?_
 refine W.loop (X:=Nat×List AV) (fun x=>[(1, .ptr 0 0),(3, .imm (.lst M)),(5, .row 9 x.2.length),(6, .imm (.int .i64 x.1))])
  (fun x nx G=>G 0 = .box [.imm (.lst (srcs.map sv)), .imm (.lst (defs.map Dfn.iv))] false/\12<=nx/\x.1<=tos.length/\G 9 = .row 44 1 x.2 false/\All2 (RowI 10 nx G) x.2 (rings++((List.range x.1).filter fun d => !reachB tos d d).map fun d=>[d]))
  (fun x=>tos.length-x.1) (0,(rings.map natsIV).map .imm) .auto ⟨rfl,by decide,Nat.zero_le _,rfl,?_⟩ ?_
 ·simp only [List.range_zero,List.filter_nil,List.map_nil,List.append_nil]
  exact rowsI_imm _ _ _ _
 rintro ⟨i,vs⟩ nx G ⟨hG0,hnx,hi,hG9,hvs⟩
 dsimp only at hi hG9 hvs ⊢
 have hvl:=hvs.length
 refine BB ?_
 refine W.cond rfl (fun h1=>?_) (fun h1=>?_)
 ·have h1':i < tos.length:=by have:=of_decide_eq_true h1;rw [hdm] at this;omega
  obtain ⟨row,c1,c2⟩:=hcell i i h1' h1'
  have hmu:tos.length-(i+1) < tos.length-i:=by omega
  have hs:(List.range (i+1)).filter (fun d => !reachB tos d d)=(List.range i).filter (fun d => !reachB tos d d)++(if reachB tos i i then [] else [i]):=by
   rw [List.range_succ,List.filter_append]
   congr 1
   cases h:reachB tos i i<;>simp [h]
  cases hb:reachB tos i i with
  |true=>
   rw [hb] at c2 hs
   rw [if_pos rfl,List.append_nil] at hs
   refine BB ?_
   refine W.skipLop (i+1,vs) hmu .auto ⟨hG0,by omega,h1',hG9,?_⟩
   show All2 (RowI 10 _ G) vs (rings++((List.range (i+1)).filter fun d => !reachB tos d d).map fun d=>[d])
   rw [hs]
   exact hvs.imp fun _ _ h=>h.frame (by omega) fun _ _ _=>rfl
  |false=>
   rw [hb] at c2 hs
   rw [if_neg (by decide)] at hs
   have hlen:vs.length<=12:=by
    rw [hvl,List.length_append,List.length_map]
    have:=List.length_filter_le (fun d => !reachB tos d d) (List.range i)
    rw [List.length_range] at this
    omega
   refine BB ?_
   generalize hB:nx+(0+1+1+1+1+1)+(0+1+1+1+1+1+1+1+1)=B
   refine R.op1 (O.appRow (k:=ty34) (ke:=ty30) (xs:=vs) (ys:=[.row (B+(0+1+1)) 1]) (o:=9) rfl rfl rfl (by rw [upd_ne _ _ _ _ (by omega),upd_ne _ _ _ _ (by omega)];exact hG9) rfl rfl (by simp [elems,upd]) (by decide) (by decide) rfl rfl (by simp only [List.length_cons,List.length_nil,most];omega)) rfl ?_
   refine BB ?_
   refine W.skipLop (i+1,vs++[.row (B+2) 1]) hmu .auto ⟨?_,by omega,h1',upd_same ..,?_⟩
   ·rw [upd_ne _ _ _ _ (by omega),upd_ne _ _ _ _ (by omega),upd_ne _ _ _ _ (by omega)];exact hG0
   ·show All2 _ (vs++[.row (B+2) 1]) (rings++((List.range (i+1)).filter fun d => !reachB tos d d).map fun d=>[d])
    rw [hs,List.map_append,<-List.append_assoc]
    refine All2.append (hvs.imp fun _ _ h=>h.frame (by omega) fun o h1 h2=>?_) ⟨.inr ⟨B+2,by omega,by omega,rfl,?_⟩,trivial⟩
    ·rw [upd_ne _ _ _ _ (by omega),upd_ne _ _ _ _ (by omega),upd_ne _ _ _ _ (by omega)]
    ·rw [upd_ne _ _ _ _ (by omega),upd_ne _ _ _ _ (by omega),upd_same];rfl
 ·have h1':tos.length<=i:=by have:=of_decide_eq_false h1;rw [hdm] at this;omega
  have:i=tos.length:=by omega
  subst this
  rw [<-hgr] at hvs
  refine BB ?_
  refine R.op1 (O.makeSlice (ke:=ty4) rfl inferInstance rfl rfl ⟨by rw [hdm];omega,Int.le_refl _,by rw [hdm];unfold most;omega⟩ (by decide) rfl (by decide)) rfl ?_
  refine BB ?_
  rw [hdm,Int.toNat_natCast,show ty4.zero=AV.imm (.bool false) from rfl,boolsA_nil]
  generalize hQ:nx+(0+1+1+1+1+1)+(0+1+1+1)=Q
  refine W.loop (X:=List Nat×List (List Nat)×AV) (fun x=>[(1, .ptr 0 0),(3, .imm (.lst M)),(5, .row 9 vs.length),(7, .row Q tos.length),(8,x.2.2)])
   (fun x nx G=>G 0 = .box [.imm (.lst (srcs.map sv)), .imm (.lst (defs.map Dfn.iv))] false/\Q+1<=nx/\G 9 = .row 44 1 vs false/\All2 (RowI 10 Q G) vs (groupsR tos)/\G Q = .row 4 1 (boolsA tos.length x.1) false/\OutV Q nx G x.2.2 x.2.1 /\
    DoneIs tos x.1/\x.2.1.Nodup/\(∀ g∈x.2.1,g∈groupsR tos)/\(∀ g∈groupsR tos,g∈x.2.1↔∀ k∈g,k∈x.1)/\x.2.1++orderTo tos (tos.length-x.2.1.length) x.1=orderR tos/\x.2.1.length<=x.1.length)
   (fun x=>tos.length-x.1.length) ([],[], .nils) .auto ⟨?_,by omega,?_,?_,upd_same .., .inl ⟨rfl,rfl⟩,DoneIs.nil,List.nodup_nil,fun _ h=>absurd h List.not_mem_nil,fun g hg=>⟨fun h=>absurd h List.not_mem_nil,fun h=>?_⟩,rfl,Nat.le_refl _⟩ ?_
  ·rw [upd_ne _ _ _ _ (by omega)];exact hG0
  ·rw [upd_ne _ _ _ _ (by omega)];exact hG9
  ·exact hvs.imp fun _ _ h=>h.frame (by omega) fun o h1 h2=>upd_ne _ _ _ _ (by omega)
  ·obtain ⟨f,r,_,e,_⟩:=groups_is hg
   subst e
   exact absurd (h f (List.mem_cons_self ..)) List.not_mem_nil
  clear hvs hG9 hG0
  rintro ⟨done,out,v⟩ nx2 G2 ⟨hG0,hnx2,hG9,hvs,hG7,hout,hdone,hnd,hsub,hiff,hord,hle⟩
  dsimp only at hG7 hout hdone hnd hsub hiff hord hle ⊢
  have hiffl:=groups_done hdone hnd hsub hiff
  have hvl:vs.length=(groupsR tos).length:=hvs.length
  have hgl12:(groupsR tos).length<=12:=by
   rw [hgr,List.length_append,List.length_map]
   have:=List.length_filter_le (fun d => !reachB tos d d) (List.range tos.length)
   rw [List.length_range] at this
   omega
  refine BB ?_
  refine R.op0 (O.lenQ rfl rfl hout) rfl ?_
  refine BB ?_
  refine W.cond rfl (fun h2=>?_) (fun h2=>?_)
  ·have h2':out.length < (groupsR tos).length:=by have:=of_decide_eq_true h2;rw [hvl] at this;omega
   have hlt:=hiffl.1 h2'
   refine BB ?_
   refine W.loop (X:=Nat×Option Nat) (fun x=>[(1, .ptr 0 0),(3, .imm (.lst M)),(5, .row 9 vs.length),(7, .row Q tos.length),(8,v),(9, .imm (.int .i64 (bestI x.2))),(10, .imm (.int .i64 x.1))])
    (fun x nx G=>G=G2/\nx2<=nx/\x.1<=(groupsR tos).length/\BestIs tos done x.1 x.2) (fun x=>(groupsR tos).length-x.1) (0,none) .auto ⟨rfl,by omega,Nat.zero_le _,BestIs.zero⟩ ?_
   rintro ⟨g,best⟩ nx3 G3 ⟨hGe,hnx3,hg3,hbest⟩
   subst hGe
   dsimp only at hg3 hbest ⊢
   refine BB ?_
   refine W.cond rfl (fun h3=>?_) (fun h3=>?_)
   ·have h3':g < (groupsR tos).length:=by have:=of_decide_eq_true h3;rw [hvl] at this;omega
    obtain ⟨gr,hgr3⟩:=at_lt h3'
    obtain ⟨w,hw,hrow⟩:=hvs.at hgr3
    obtain ⟨f,r,hf,rfl,_⟩:=groups_is (List.mem_of_getElem? hgr3)
    have hw':vs[(g:Int).toNat]? = some w:=by rw [Int.toNat_natCast];exact hw
    have hwf:=hrow.fits
    have hdf:=boolsA_at (n:=tos.length) (done:=done) hf
    have hdl:=boolsA_len tos.length done
    have e0:((f::r).map natIV)[((0:Int)).toNat]? = some (natIV f):=rfl
    have e1:(((f::r).map natIV).map AV.imm)[((0:Int)).toNat]? = some (.imm (natIV f)):=rfl
    have e2:(((f::r).map natIV).map AV.imm).length=(f::r).length:=by simp
    have e3:0 < (f::r).length:=Nat.succ_pos _
    rcases hrow with rfl|⟨ow,ho1,ho2,rfl,ho4⟩
    all_goals
     refine BB ?_
     refine W.loop (X:=Nat×Bool) (fun x=>[(1, .ptr 0 0),(3, .imm (.lst M)),(5, .row 9 vs.length),(7, .row Q tos.length),(8,v),(9, .imm (.int .i64 (bestI best))),(10, .imm (.int .i64 g)),(11, .imm (natIV f)),(12, .imm (.bool x.2)),(13, .imm (.int .i64 x.1))])
      (fun x nx G=>G=G3/\nx3<=nx/\x.1<=tos.length/\x.2=rdTo tos done f x.1) (fun x=>tos.length-x.1) (0, !(done.contains f)) .auto ⟨rfl,by omega,Nat.zero_le _,rfl⟩ ?_
     rintro ⟨k,rd⟩ nx4 G4 ⟨hGe,hnx4,hk,hrd⟩
     subst hGe
     dsimp only at hk hrd ⊢
     refine BB ?_
     refine W.cond rfl (fun h4=>?_) (fun h4=>?_)
     ·have h4':k < tos.length:=by have:=of_decide_eq_true h4;rw [hdm] at this;omega
      obtain ⟨row1,c1,c2⟩:=hcell f k hf h4'
      obtain ⟨row2,d1,d2⟩:=hcell k f h4' hf
      have hdk:=boolsA_at (n:=tos.length) (done:=done) h4'
      have hmu:tos.length-(k+1) < tos.length-k:=by omega
      have hs:=rdTo_succ tos done f k
      rw [<-hrd] at hs
      clear hrd
      generalize reachB tos f k=x at c2 hs
      generalize reachB tos k f=y at d2 hs
      generalize done.contains k=z at hdk hs
      cases rd
      ·refine BB ?_
       exact W.skipLop (k+1,false) hmu .auto ⟨rfl,by omega,h4',hs.symm⟩
      ·cases x
       ·refine BB ?_
        exact W.skipLop (k+1,true) hmu .auto ⟨rfl,by omega,h4',hs.symm⟩
       ·cases y
        ·refine BB ?_
         exact W.skipLop (k+1,z) hmu .auto ⟨rfl,by omega,h4',hs.symm⟩
        ·refine BB ?_
         exact W.skipLop (k+1,true) hmu .auto ⟨rfl,by omega,h4',hs.symm⟩
     ·have h4':¬ k < tos.length:=by have:=of_decide_eq_false h4;rw [hdm] at this;omega
      have:k=tos.length:=by omega
      subst this
      rw [rdTo_end hf] at hrd
      have hmu:(groupsR tos).length-(g+1) < (groupsR tos).length-g:=by omega
      cases rd with
      |false=>
       refine BB ?_
       exact W.skipLop (g+1,best) hmu .auto ⟨rfl,by omega,h3',hbest.skip hgr3 (.inl hrd.symm)⟩
      |true=>
       cases best with
       |none=>
        have hb0:decide (bestI none < 0)=true:=rfl
        refine BB ?_
        exact W.skipLop (g+1,some g) hmu .auto ⟨rfl,by omega,h3',hbest.take hgr3 hrd.symm (.inl rfl)⟩
       |some j=>
        obtain ⟨hjg,f1,r1,hj1,hj2,hj3⟩:=hbest.some j rfl
        obtain ⟨w1,hw1,hrow1⟩:=hvs.at hj1
        have hb0:decide (bestI (some j) < 0)=false:=decide_eq_false (by show ¬ ((j:Int) < 0);omega)
        have hw1':vs[(bestI (some j)).toNat]? = some w1:=by show vs[(j:Int).toNat]? = _;rw [Int.toNat_natCast];exact hw1
        have i0:((f1::r1).map natIV)[((0:Int)).toNat]? = some (natIV f1):=rfl
        have i1:(((f1::r1).map natIV).map AV.imm)[((0:Int)).toNat]? = some (.imm (natIV f1)):=rfl
        have i2:(((f1::r1).map natIV).map AV.imm).length=(f1::r1).length:=by simp
        have i3:0 < (f1::r1).length:=Nat.succ_pos _
        have i4:bestI (some j)=(j:Int):=rfl
        have i5:j < vs.length:=by omega
        rcases hrow1 with rfl|⟨ow1,hp1,hp2,rfl,hp4⟩
        all_goals
         by_cases hff:f < f1
         ·have hff':decide ((f:Int) < (f1:Int))=true:=decide_eq_true (by omega)
          refine BB ?_
          exact W.skipLop (g+1,some g) hmu .auto ⟨rfl,by omega,h3',hbest.take hgr3 hrd.symm (.inr ⟨j,f1,r1,rfl,hj1,hff⟩)⟩
         ·have hff':decide ((f:Int) < (f1:Int))=false:=decide_eq_false (by omega)
          refine BB ?_
          exact W.skipLop (g+1,some j) hmu .auto ⟨rfl,by omega,h3',hbest.skip hgr3 (.inr ⟨j,f1,r1,rfl,hj1,by omega⟩)⟩
   ·have h3':¬ g < (groupsR tos).length:=by have:=of_decide_eq_false h3;rw [hvl] at this;omega
    have:g=(groupsR tos).length:=by omega
    subst this
    obtain ⟨j,d,hbj,hj,hnext,hd,hdn⟩:=hbest.fin hdone hlt
    subst hbj
    have hjl:j < (groupsR tos).length:=(List.getElem?_eq_some_iff.1 hj).1
    obtain ⟨w,hw,hrow⟩:=hvs.at hj
    have hw':vs[(j:Int).toNat]? = some w:=by rw [Int.toNat_natCast];exact hw
    have hwf:=hrow.fits
    have hgn:∀ k∈grpR tos d,k < tos.length:=fun k hk=>grp_lt hk
    have hgl:(grpR tos d).length<=6:=by
     have:=nodup_lt (grp_nodup (tos:=tos) d) hgn
     omega
    rw [show bestI (some j)=(j:Int) from rfl]
    have e2:(((grpR tos d).map natIV).map AV.imm).length=(grpR tos d).length:=by simp
    have e3:((grpR tos d).map natIV).length=(grpR tos d).length:=by simp
    refine BB ?_
    refine W.loop (X:=Nat) (fun i=>[(1, .ptr 0 0),(3, .imm (.lst M)),(5, .row 9 vs.length),(7, .row Q tos.length),(8,v),(9, .imm (.int .i64 j)),(14, .imm (.int .i64 i))])
     (fun i nx G=>nx3<=nx/\i<=(grpR tos d).length/\G Q = .row 4 1 (boolsA tos.length (done++(grpR tos d).take i)) false/\∀ o,o≠Q->G o=G3 o) (fun i=>(grpR tos d).length-i) 0 .auto ⟨by omega,Nat.zero_le _,by simpa using hG7,fun _ _=>rfl⟩ ?_
    rintro i nx4 G4 ⟨hnx4,hi4,hQ4,hfr4⟩
    have k9:G4 9=_:=(hfr4 9 (by omega)).trans hG9
    have k0:G4 0=_:=(hfr4 0 (by omega)).trans hG0
    have hrow4:RowI 10 Q G4 w (grpR tos d):=hrow.frame (Nat.le_refl _) fun o h1 h2=>hfr4 o (by omega)
    rcases hrow4 with rfl|⟨ow,ho1,ho2,rfl,ho4⟩
    all_goals
     refine BB ?_
     refine W.cond rfl (fun h4=>?_) (fun h4=>?_)
     ·have h4':i < (grpR tos d).length:=by have:=of_decide_eq_true h4;first|omega|(rw [e3] at this;omega)
      obtain ⟨k,hk⟩:=at_lt h4'
      have hkn:=hgn k (List.mem_of_getElem? hk)
      have q0:((grpR tos d).map natIV)[(i:Int).toNat]? = some (natIV k):=at_map natIV hk
      have q1:(((grpR tos d).map natIV).map AV.imm)[(i:Int).toNat]? = some (.imm (natIV k)):=by rw [List.getElem?_map,q0];rfl
      have hbl:=boolsA_len tos.length (done++(grpR tos d).take i)
      have hba:=boolsA_at (n:=tos.length) (done:=done++(grpR tos d).take i) hkn
      have hbs:=boolsA_set (n:=tos.length) (done:=done++(grpR tos d).take i) hkn
      have hmu:(grpR tos d).length-(i+1) < (grpR tos d).length-i:=by omega
      refine BB ?_
      refine R.opN1 (O.storeR (v := .imm (.bool true)) rfl rfl rfl rfl hQ4 hbl hba rfl rfl) ?_
      refine BB ?_
      refine W.skipLop (i+1) hmu .auto ⟨by omega,h4',?_,fun o ho=>by rw [upd_ne _ _ _ _ ho];exact hfr4 o ho⟩
      rw [upd_same,Int.toNat_natCast,hbs,List.take_add_one,hk,List.append_assoc]
      rfl
     ·have h4':¬ i < (grpR tos d).length:=by have:=of_decide_eq_false h4;first|omega|(rw [e3] at this;omega)
      have:i=(grpR tos d).length:=by omega
      subst this
      rw [List.take_length] at hQ4
      refine BB ?_
      have hout4:OutV Q (nx4+(0+1+1+1+1+1+1+1)) G4 v out:=hout.frame (by omega) (fun o h1 h2 h3=>hfr4 o h3) (by omega) (by omega)
      have holen:out.length+1<=most:=by unfold most;omega
      have hrw:∀ {G':Nat->Obj},(∀ o,o < Q->G' o=G4 o)->RowI 10 Q G' _ (grpR tos d):=fun hG=>(hvs.at hj).elim fun w' hw'=>by
       obtain ⟨h1,h2⟩:=hw'
       rw [hw] at h1
       cases h1
       exact h2.frame (Nat.le_refl _) fun o h3 h4=>(hG o h4).trans (hfr4 o (by omega))
      refine R.appQ (k:=ty34) (Q:=Q) (hi:=nx4+(0+1+1+1+1+1+1+1)) (g:=grpR tos d) rfl rfl rfl rfl (hout4.frame (Nat.le_refl _) (fun o h1 h2 h3=>upd_ne _ _ _ _ (by omega)) (by omega) (by omega)) rfl (by simp [elems,upd]) (hrw fun o ho=>upd_ne _ _ _ _ (by omega)) (by decide) rfl holen (by omega) rfl fun v' G' ho' hfr'=>?_
      have hmu:tos.length-(done++grpR tos d).length < tos.length-done.length:=by
       have:=List.length_pos_of_mem (grp_self hd)
       rw [List.length_append]
       omega
      have hG'':∀ o,o < Q->G' o=G3 o:=fun o ho=>(hfr' o (by omega)).trans ((upd_ne _ _ _ _ (by omega)).trans (hfr4 o (by omega)))
      refine BB ?_
      refine W.skipLop (done++grpR tos d,out++[grpR tos d],v') hmu .auto ⟨?_,by omega,?_,?_,?_,ho'.frame (by omega) (fun _ _ _ _=>rfl) (by omega) (by omega),hdone.step hd hdn,?_,?_,?_,?_,?_⟩
      ·exact (hG'' 0 (by omega)).trans hG0
      ·exact (hG'' 9 (by omega)).trans hG9
      ·exact hvs.imp fun _ _ h=>h.frame (Nat.le_refl _) fun o h1 h2=>hG'' o h2
      ·exact (hfr' Q (Nat.le_refl _)).trans ((upd_ne _ _ _ _ (by omega)).trans hQ4)
      ·refine List.nodup_append.2 ⟨hnd,List.nodup_cons.2 ⟨List.not_mem_nil,List.nodup_nil⟩,fun a ha b hb hab=>?_⟩
       rw [List.mem_singleton] at hb
       subst hb;subst hab
       exact hdn ((hiff _ (groups_all hd)).1 ha d (grp_self hd))
      ·intro x hx
       rcases List.mem_append.1 hx with hx|hx
       ·exact hsub x hx
       ·rw [List.mem_singleton] at hx;subst hx;exact groups_all hd
      ·intro x hx
       obtain ⟨f,r,hf,hxe,hxg⟩:=groups_is hx
       rw [List.mem_append,List.mem_singleton]
       constructor
       ·rintro (h|h) k hk
        ·exact List.mem_append_left _ ((hiff x hx).1 h k hk)
        ·exact List.mem_append_right _ (h▸hk)
       ·intro h
        have hfx:f∈x:=by rw [hxe];exact List.mem_cons_self ..
        rcases List.mem_append.1 (h f hfx) with hfd|hfd
        ·left
         refine (hiff x hx).2 fun k hk=>?_
         rw [hxg] at hk
         exact hdone.whole f hfd k hk
        ·right
         rw [hxg]
         exact grp_same hd hfd
      ·rw [<-hord]
       have:tos.length-out.length=(tos.length-(out++[grpR tos d]).length)+1:=by simp only [List.length_append,List.length_cons,List.length_nil];omega
       rw [this,orderTo,hnext,List.append_assoc]
       rfl
      ·have:=List.length_pos_of_mem (grp_self hd)
       simp only [List.length_append,List.length_cons,List.length_nil];omega
  ·have h2':¬ out.length < (groupsR tos).length:=by have:=of_decide_eq_false h2;rw [hvl] at this;omega
   have hge:tos.length<=done.length:=by
    refine Nat.le_of_not_lt fun hc=>h2' (hiffl.2 hc)
   rw [orderTo_end hdone hge,List.append_nil] at hord
   subst hord
   refine BB ?_
   rcases hout with ⟨h3,rfl⟩|⟨o,ws,h3,h4,rfl,h6,h7⟩
   ·refine W.retFin1 rfl ?_
    rw [h3]
    exact ⟨[],rfl⟩
   ·refine W.retFin1 rfl ?_
    exact (Rdx.row (d:=1) (P:=fun _=>True) h6 rfl (rows_rdx h7) trivial).peek (by decide)
end Go.Abs

/- Rows of lags in memory. -/
open Go Go.Abs
namespace Go.Abs
set_option maxRecDepth 100000
set_option maxHeartbeats 4000000
def ty349:TyI:={ d:=TyD.sl 147,sz:=1,bytes:=24,zero:=AV.nils }
instance tyis349:TyIs CC 49 ty349:=⟨by kernel_rfl⟩
def ty346:TyI:={ d:=TyD.sl 49,sz:=1,bytes:=24,zero:=AV.nils }
instance tyis346:TyIs CC 46 ty346:=⟨by kernel_rfl⟩
def ty432:TyI:={ d:=TyD.sl 153,sz:=1,bytes:=24,zero:=AV.nils }
instance tyis432:TyIs CC 132 ty432:=⟨by kernel_rfl⟩
def ty433:TyI:={ d:=TyD.sl 132,sz:=1,bytes:=24,zero:=AV.nils }
instance tyis433:TyIs CC 133 ty433:=⟨by kernel_rfl⟩
def RowL (et lo hi:Nat) (G:Nat->Obj) (v:AV) (l:List Lg):Prop:=∃ o fr,lo<=o/\o < hi/\v = .row o l.length/\G o = .row et 4 ((l.map Lg.iv).map .imm) fr
section
variable {et lo hi lo' hi':Nat} {G G':Nat->Obj} {v:AV} {l:List Lg}
theorem RowL.frame (h:RowL et lo hi G v l) (h0:lo'<=lo) (hh:hi<=hi') (hG:∀ o,lo<=o->o < hi->(∃ xs fr,G o = .row et 4 xs fr)->G' o=G o):RowL et lo' hi' G' v l:=by
 obtain ⟨o,fr,h1,h2,h3,h4⟩:=h
 exact ⟨o,fr,by omega,by omega,h3,by rw [hG o h1 h2 ⟨_,_,h4⟩];exact h4⟩
theorem RowL.peek (h:RowL et lo hi G v l):∃ o,lo<=o/\o < hi/\Go.Abs.peek G pkDepth v=some (.lst (l.map Lg.iv),[o]):=by
 obtain ⟨o,fr,h1,h2,rfl,h4⟩:=h
 exact ⟨o,h1,h2,peek_row1 h4 (by simp)⟩
theorem RowL.fits (h:RowL et lo hi G v l):v.fits 1=true:=by
 obtain ⟨o,fr,_,_,rfl,_⟩:=h
 rfl
theorem RowL.rdx (h:RowL et lo hi G v l):Rdx 1 G (fun o=>lo<=o/\o < hi) v (.lst (l.map Lg.iv)):=by
 obtain ⟨o,fr,h1,h2,rfl,h4⟩:=h
 exact Rdx.row h4 (by simp) (All2.imms 0 _ _ _) ⟨h1,h2⟩
theorem Own.rowL (h:Own et 4 lo hi (l.map Lg.iv) G v) (hl:l≠[]):RowL et lo hi G v l:=by
 rcases h with ⟨h,_⟩|⟨o,h1,h2,h3,h4⟩
 ·exact absurd (List.map_eq_nil_iff.1 h) hl
 ·exact ⟨o,false,h1,h2,by rw [h3,List.length_map],h4⟩
end
def RowU (et lo hi:Nat) (G:Nat->Obj) (v:AV) (l:List Lg):Prop:=∃ o,lo<=o/\o < hi/\v = .row o l.length/\G o = .row et 4 ((l.map Lg.iv).map .imm) false
theorem RowU.rowL {et lo hi:Nat} {G:Nat->Obj} {v:AV} {l:List Lg} (h:RowU et lo hi G v l):RowL et lo hi G v l:=by
 obtain ⟨o,h1,h2,h3,h4⟩:=h
 exact ⟨o,false,h1,h2,h3,h4⟩
theorem getD_range {L:List Lg} {n:Nat} (hl:L.length=n):(List.range n).map (fun s=>L.getD s Lg.z)=L:=by
 refine List.ext_getElem? fun s=>?_
 simp only [List.getElem?_map]
 by_cases hs:s < n
 ·rw [List.getElem?_range hs,List.getElem?_eq_getElem (by omega)]
  simp [List.getD_eq_getElem?_getD,List.getElem?_eq_getElem (show s < L.length by omega)]
 ·rw [List.getElem?_eq_none (by simp;omega),List.getElem?_eq_none (by omega)];rfl
def RowsL (et rt o lo hi:Nat) (G:Nat->Obj) (D:List (List Lg)):Prop:=∃ ws,ws.length=D.length/\G o = .row rt 1 ws false/\All2 (RowL et lo hi G) ws D
theorem RowsL.frame {et rt o lo hi lo' hi':Nat} {G G':Nat->Obj} {D:List (List Lg)} (h:RowsL et rt o lo hi G D) (ho:G' o=G o) (h0:lo'<=lo) (hh:hi<=hi') (hG:∀ o,lo<=o->o < hi->(∃ xs fr,G o = .row et 4 xs fr)->G' o=G o):RowsL et rt o lo' hi' G' D:=by
 obtain ⟨ws,h1,h2,h3⟩:=h
 exact ⟨ws,h1,by rw [ho];exact h2,h3.imp fun a b h=>h.frame h0 hh hG⟩
theorem All2.set {α β:Type} {R:α->β->Prop} {x:α} {y:β} (hxy:R x y):∀ {l:List α} {m:List β},All2 R l m->∀ i,All2 R (l.set i x) (m.set i y)
 |[],[],_,_=>trivial
 |[],_::_,h,_=>h.elim
 |_::_,[],h,_=>h.elim
 |_::_,_::_,h,0=>⟨hxy,h.2⟩
 |_::_,_::_,h,i+1=>⟨h.1,h.2.set hxy i⟩
theorem RowsL.set {et rt o lo hi:Nat} {G:Nat->Obj} {D:List (List Lg)} {v:AV} {l:List Lg} (h:RowsL et rt o lo hi G D) (hv:RowL et lo hi G v l) (d:Nat):∃ ws,ws.length=D.length/\G o = .row rt 1 ws false/\RowsL et rt o lo hi (upd G o (.row rt 1 (ws.set d v) false)) (D.set d l):=by
 obtain ⟨ws,h1,h2,h3⟩:=h
 refine ⟨ws,h1,h2,ws.set d v,by simp [h1],upd_same ..,All2.imp (fun a b h=>h.frame (Nat.le_refl _) (Nat.le_refl _) fun q hq1 hq2 ⟨xs,fr,hq⟩=>?_) (h3.set hv d)⟩
 by_cases e:q=o
 ·subst e;rw [h2] at hq;cases hq
 ·exact upd_ne _ _ _ _ e
def lagsIV (l:List Lg):IV := .lst (l.map Lg.iv)
theorem rowsL_rdx {et lo hi:Nat} {G:Nat->Obj}:∀ {ws:List AV} {E:List (List Lg)},All2 (RowL et lo hi G) ws E->All2 (Rdx 1 G fun _=>True) ws (E.map lagsIV)
 |[],[],_=>trivial
 |_::_,_::_,h=>⟨h.1.rdx.frame (fun _ _=>rfl) fun _ _=>trivial,rowsL_rdx h.2⟩
theorem RowsL.rdx {et rt o lo hi:Nat} {G:Nat->Obj} {E:List (List Lg)} (h:RowsL et rt o lo hi G E):Rdx 2 G (fun _=>True) (.row o E.length) (.lst (E.map lagsIV)):=by
 obtain ⟨ws,h1,h2,h3⟩:=h
 exact Rdx.row h2 h1 (rowsL_rdx h3) trivial
def RowV (et lo hi:Nat) (G:Nat->Obj) (v:AV) (l:List Lg):Prop:=v = .imm (lagsIV l)\/RowL et lo hi G v l
def RowsV (et rt lo hi:Nat) (G:Nat->Obj) (v:AV) (D:List (List Lg)):Prop:=v = .imm (.lst (D.map lagsIV))\/∃ o,o < hi/\v = .row o D.length/\RowsL et rt o lo hi G D
theorem RowV.frame {et lo hi lo' hi':Nat} {G G':Nat->Obj} {v:AV} {l:List Lg} (h:RowV et lo hi G v l) (h0:lo'<=lo) (hh:hi<=hi') (hG:∀ o,lo<=o->o < hi->(∃ xs fr,G o = .row et 4 xs fr)->G' o=G o):RowV et lo' hi' G' v l:=
 h.elim .inl fun h => .inr (h.frame h0 hh hG)
theorem RowsV.frame {et rt lo hi lo' hi':Nat} {G G':Nat->Obj} {v:AV} {D:List (List Lg)} (h:RowsV et rt lo hi G v D) (h0:lo'<=lo) (hh:hi<=hi') (hG:∀ o,o < hi->G' o=G o):RowsV et rt lo' hi' G' v D:=
 h.elim .inl fun ⟨o,h1,h2,h3⟩ => .inr ⟨o,by omega,h2,h3.frame (hG o h1) h0 hh fun q _ hq _=>hG q hq⟩
theorem All2.at' {α β:Type} {R:α->β->Prop} {l:List α} {m:List β} (h:All2 R l m) {i:Nat} {y:β} (hy:m[i]? = some y):∃ x,l[(i:Int).toNat]? = some x/\R x y:=by
 rw [Int.toNat_natCast];exact h.at hy
def mixL (n j:Nat) (f g:Nat->Lg):List Lg:=(List.range n).map fun s=>if s < j then f s else g s
section
variable {n j:Nat} {f g:Nat->Lg}
theorem mixL_len:(mixL n j f g).length=n:=by simp [mixL]
theorem mixL_ivlen:(((mixL n j f g).map Lg.iv).map AV.imm).length=n:=by simp [mixL]
theorem mixL_at {s:Nat} (hs:s < n):(mixL n j f g)[s]? = some (if s < j then f s else g s):=by simp [mixL,hs]
theorem mixL_ivat (hj:j < n):(((mixL n j f g).map Lg.iv).map AV.imm)[(j:Int).toNat]? = some (.imm (g j).iv):=by
 rw [Int.toNat_natCast,List.getElem?_map,List.getElem?_map,mixL_at hj,if_neg (Nat.lt_irrefl _)];rfl
theorem mixL_ivat0 (hj:j < n):(((mixL n 0 f g).map Lg.iv).map AV.imm)[(j:Int).toNat]? = some (.imm (g j).iv):=by
 rw [Int.toNat_natCast,List.getElem?_map,List.getElem?_map,mixL_at hj,if_neg (Nat.not_lt_zero _)];rfl
theorem mixL_set (hj:j < n):(((mixL n j f g).map Lg.iv).map AV.imm).set j (.imm (f j).iv)=((mixL n (j+1) f g).map Lg.iv).map AV.imm:=by
 refine List.ext_getElem? fun s=>?_
 rw [List.getElem?_set]
 by_cases h:j=s
 ·subst h
  rw [if_pos rfl,if_pos (by rw [mixL_ivlen];exact hj),List.getElem?_map,List.getElem?_map,mixL_at hj,if_pos (Nat.lt_succ_self _)];rfl
 ·rw [if_neg h]
  simp only [List.getElem?_map]
  by_cases hs:s < n
  ·rw [mixL_at hs,mixL_at hs]
   by_cases h1:s < j
   ·rw [if_pos h1,if_pos (by omega)]
   ·rw [if_neg h1,if_neg (by omega)]
  ·rw [List.getElem?_eq_none (by rw [mixL_len];omega),List.getElem?_eq_none (by rw [mixL_len];omega)]
theorem mixL_zero:mixL n 0 f g=(List.range n).map g:=by simp [mixL]
theorem mixL_one {a:Lg} (hj:j < n):(((mixL n 0 f fun _=>Lg.z).map Lg.iv).map AV.imm).set j (.imm a.iv)=(((List.range n).map fun s=>if j=s then a else Lg.z).map Lg.iv).map AV.imm:=by
 refine List.ext_getElem? fun s=>?_
 rw [List.getElem?_set]
 by_cases h:j=s
 ·subst h
  rw [if_pos rfl,if_pos (by rw [mixL_ivlen];exact hj)]
  simp [hj]
 ·rw [if_neg h]
  simp only [List.getElem?_map]
  by_cases hs:s < n
  ·rw [mixL_at hs,if_neg (Nat.not_lt_zero _)]
   simp [hs,h]
  ·rw [List.getElem?_eq_none (by rw [mixL_len];omega),List.getElem?_eq_none (by simp;omega)]
   rfl
theorem mixL_all:mixL n n f g=(List.range n).map f:=by
 unfold mixL
 exact List.map_congr_left fun s hs=>if_pos (List.mem_range.1 hs)
end
/-! What is read of rows, as data or in memory. -/
theorem look_hd {l:Env} {d:Nat} {v:AV}:lookO ((d,v)::l) (.tmp d)=some v:=by
 show look _ _=_
 unfold look
 rw [Nat.beq_refl]
section
variable {nt:Nat} {ol r:List Oper} {base i:Nat} {l:Env} {G:Nat->Obj} {nx:Nat} {df:List (AV×List AV)} {pk:Pk} {Φ:Out->Prop} {fs:List Fp} {x y:Operand} {t et rt ty1 ty2:TypeId} {pos1 pos2:String} {af1 af2:Array Edge} {d1 d2 lo hi s:Nat} {w:AV} {L:List Lg} {E:List (List Lg)} {k ke:TyI}
theorem lag_at (hr:RowV et lo hi G w L) (hs:s < L.length) [hk:TyIs CC t k] (ht:k.d = .sl et) [he:TyIs CC et ke] (hke:ke.d.isAgg=true/\ke.sz=4):∃ a,(∀ l id,lookO l x=some w->lookO l y=some (.imm (.int .i64 s))->OpV CC id l G nx df pk (.indexAddr t x y) a []) /\
  ∀ l id,lookO l (.tmp d1)=some a->OpV CC id l G nx df pk (.load et (.tmp d1)) (.imm (L.getD s Lg.z).iv) []:=by
 have hg:L.getD s Lg.z=L[s]:=by rw [List.getD_eq_getElem?_getD,List.getElem?_eq_getElem hs];rfl
 rw [hg]
 rcases hr with rfl|⟨o,fr,_,_,rfl,hG⟩
 ·have hi:(L.map Lg.iv)[(s:Int).toNat]? = some L[s].iv:=by rw [Int.toNat_natCast,List.getElem?_map,List.getElem?_eq_getElem hs];rfl
  exact ⟨_,fun l id hx hy=>O.addrX ht he hx hy (by omega) hi (by rw [hke.2];rfl),fun l id hl=>O.loadEA hke.1 hl hi (by rw [hke.2];rfl)⟩
 ·have hi:((L.map Lg.iv).map AV.imm)[(s:Int).toNat]? = some (.imm L[s].iv):=by rw [Int.toNat_natCast,List.getElem?_map,List.getElem?_map,List.getElem?_eq_getElem hs];rfl
  refine ⟨_,fun l id hx hy=>O.addrRX ht he hx hy hG (by simp) (by omega) hke.2.symm,fun l id hl=>?_⟩
  have:=O.loadRA (C:=CC) (t:=et) (us:=L[s].iv.cells.map .imm) (id:=id) (nx:=nx) (df:=df) (pk:=pk) hl hG (by simp) hi (by rw [hke.2];rfl) hke.1
  exact this
theorem row_at' (hr:RowsV et rt lo hi G w E) {s:Nat} (hL:E[s]? = some L) [hk:TyIs CC t k] (ht:k.d = .sl rt) [he:TyIs CC rt ke] (hke:ke.d.isAgg=false/\ke.sz=1):∃ a v,RowV et lo hi G v L/\(∀ l id,lookO l x=some w->lookO l y=some (.imm (.int .i64 s))->OpV CC id l G nx df pk (.indexAddr t x y) a []) /\
  ∀ l id,lookO l (.tmp d1)=some a->OpV CC id l G nx df pk (.load rt (.tmp d1)) v []:=by
 have hs:=(List.getElem?_eq_some_iff.1 hL).1
 rcases hr with rfl|⟨o,_,rfl,ws,h1,hG,h2⟩
 ·have hi:(E.map lagsIV)[(s:Int).toNat]? = some (lagsIV L):=by rw [Int.toNat_natCast,List.getElem?_map,hL];rfl
  exact ⟨_,_, .inl rfl,fun l id hx hy=>O.addrX ht he hx hy (by omega) hi (by rw [hke.2];rfl),fun l id hl=>O.load1 hl hi rfl hke.1 hke.2⟩
 ·obtain ⟨v,hv,hrow⟩:=h2.at' hL
  exact ⟨_,v, .inr hrow,fun l id hx hy=>O.addrRX ht he hx hy hG h1 (by omega) hke.2.symm,fun l id hl=>O.loadRX hl hG h1 hv (by obtain ⟨_,_,_,_,rfl,_⟩:=hrow;rfl) hke.1 hke.2⟩
theorem rd_load {a:AV} (h:lookO l (.tmp d1)=some a):rdE l G (.load t (.tmp d1))=some (direct a):=by
 unfold rdE;simp only [pureOp,h]
theorem rd_index {a b:AV} (hx:lookO l x=some a) (hy:lookO l y=some b):rdE l G (.indexAddr t x y)=some (direct a++direct b):=by
 unfold rdE;simp only [pureOp,hx,hy]
theorem D.lagAt (hr:RowV et lo hi G w L) (hs:s < L.length) [hk:TyIs CC t k] (ht:k.d = .sl et) [he:TyIs CC et ke] (hke:ke.d.isAgg=true/\ke.sz=4) (hx:lookO l x=some w) (hy:lookO l y=some (.imm (.int .i64 s))) (hd1:Nat.ble (d1+1) nt=true) (hd2:Nat.ble (d2+1) nt=true)
  (next:∀ a rd1 rd2,D CC nt ol base (i+1+1) r ((d2, .imm (L.getD s Lg.z).iv)::(d1,a)::l) G nx df pk (⟨i+1,rd2,[],[]⟩::⟨i,rd1,[],[]⟩::fs) Φ) :
  D CC nt ol base i (⟨some d1, .indexAddr t x y,ty1,pos1,af1,none⟩::⟨some d2, .load et (.tmp d1),ty2,pos2,af2,none⟩::r) l G nx df pk fs Φ:=by
 obtain ⟨a,h1,h2⟩:=lag_at (t:=t) (nx:=nx) (df:=df) (pk:=pk) (x:=x) (y:=y) (d1:=d1) hr hs ht hke
 exact D.op0 (h1 l _ hx hy) (rd_index hx hy) hd1 (D.op0 (h2 _ _ look_hd) (rd_load look_hd) hd2 (next _ _ _))
theorem R.lagAt (hr:RowV et lo hi G w L) (hs:s < L.length) [hk:TyIs CC t k] (ht:k.d = .sl et) [he:TyIs CC et ke] (hke:ke.d.isAgg=true/\ke.sz=4) (hx:lookO l x=some w) (hy:lookO l y=some (.imm (.int .i64 s))) (hd1:Nat.ble (d1+1) nt=true) (hd2:Nat.ble (d2+1) nt=true)
  (next:∀ a,R CC nt ol base (i+1+1) r ((d2, .imm (L.getD s Lg.z).iv)::(d1,a)::l) G nx df pk Φ) :
  R CC nt ol base i (⟨some d1, .indexAddr t x y,ty1,pos1,af1,none⟩::⟨some d2, .load et (.tmp d1),ty2,pos2,af2,none⟩::r) l G nx df pk Φ:=by
 obtain ⟨a,h1,h2⟩:=lag_at (t:=t) (nx:=nx) (df:=df) (pk:=pk) (x:=x) (y:=y) (d1:=d1) hr hs ht hke
 exact R.op0 (h1 l _ hx hy) hd1 (R.op0 (h2 _ _ look_hd) hd2 (next _))
theorem D.rowAt (hr:RowsV et rt lo hi G w E) (hL:E[s]? = some L) [hk:TyIs CC t k] (ht:k.d = .sl rt) [he:TyIs CC rt ke] (hke:ke.d.isAgg=false/\ke.sz=1) (hx:lookO l x=some w) (hy:lookO l y=some (.imm (.int .i64 s))) (hd1:Nat.ble (d1+1) nt=true) (hd2:Nat.ble (d2+1) nt=true)
  (next:∀ a v rd1 rd2,RowV et lo hi G v L->D CC nt ol base (i+1+1) r ((d2,v)::(d1,a)::l) G nx df pk (⟨i+1,rd2,[],[]⟩::⟨i,rd1,[],[]⟩::fs) Φ) :
  D CC nt ol base i (⟨some d1, .indexAddr t x y,ty1,pos1,af1,none⟩::⟨some d2, .load rt (.tmp d1),ty2,pos2,af2,none⟩::r) l G nx df pk fs Φ:=by
 obtain ⟨a,v,h0,h1,h2⟩:=row_at' (t:=t) (nx:=nx) (df:=df) (pk:=pk) (x:=x) (y:=y) (d1:=d1) hr hL ht hke
 exact D.op0 (h1 l _ hx hy) (rd_index hx hy) hd1 (D.op0 (h2 _ _ look_hd) (rd_load look_hd) hd2 (next _ _ _ _ h0))
end
theorem O.makeL {id:Nat} {l:Env} {G:Nat->Obj} {nx:Nat} {df:List (AV×List AV)} {pk:Pk} {t e:TypeId} {x y:Operand} {k ke:TyI} {m:Int} {n:Nat} (f:Nat->Lg) [hk:TyIs CC t k] (ht:k.d = .sl e) (he:TyIs CC e ke) (hke:ke.zero = .imm Lg.z.iv/\ke.sz=4/\ke.bytes<=4096) (hx:lookO l x=some (.imm (.int .i64 m))) (hy:lookO l y=some (.imm (.int .i64 m))) (hm:m=(n:Int)) (hn:n<=1000) :
  OpV CC id l G nx df pk (.makeSlice t x y) (.row id n) [(id, .set (.row e 4 (((mixL n 0 f fun _=>Lg.z).map Lg.iv).map .imm) false))]:=by
 have h:=O.makeSlice (C:=CC) (t:=t) (e:=e) (id:=id) (G:=G) (nx:=nx) (df:=df) (pk:=pk) ht he hx hy ⟨by omega,Int.le_refl _,by unfold most;omega⟩ hke.2.2 (by rw [hke.1,hke.2.1];rfl) (by rw [hke.2.1];decide)
 rw [hke.1,hke.2.1,hm,Int.toNat_natCast] at h
 rw [mixL_zero,show ((List.range n).map fun _=>Lg.z)=List.replicate n Lg.z from by rw [List.map_const',List.length_range],List.map_replicate,List.map_replicate]
 exact h
end Go.Abs

/- How far lags go; the lags of all definitions. -/
open Go Go.Abs
namespace Go.Abs
set_option maxRecDepth 100000
theorem Lg.In.mono {K L:Int} {a:Lg} (h:a.In K) (hk:K<=L):a.In L:=⟨⟨by have:=h.back;omega,by have:=h.back;omega⟩,⟨by have:=h.ahead;omega,by have:=h.ahead;omega⟩⟩
theorem Lg.inz {K:Int} (h:0<=K):Lg.z.In K:=⟨⟨by show -K<=(0:Int);omega,h⟩,⟨by show -K<=(0:Int);omega,h⟩⟩
theorem Lg.In.both {K:Int} {a b:Lg} (ha:a.In K) (hb:b.In K):(a.both b).In K:=by
 unfold Lg.both
 split
 ·split
  ·refine ⟨?_,?_⟩
   ·show -K<=(if (a.ever||b.ever)=true then (0:Int) else mxI a.back b.back)/\(if (a.ever||b.ever)=true then (0:Int) else mxI a.back b.back)<=K
    have:=ha.back;have:=hb.back
    split
    ·omega
    ·rw [mxI_eq];omega
   ·show -K<=mxI a.ahead b.ahead/\mxI a.ahead b.ahead<=K
    have:=ha.ahead;have:=hb.ahead
    rw [mxI_eq];omega
  ·exact ha
 ·exact hb
theorem Lg.In.thru {K M:Int} {a:Lg} (h:a.In K) {ev:Bool} {bk ah:Int} (hb : -M<=bk/\bk<=M) (ha : -M<=ah/\ah<=M):(a.thru ev bk ah).In (K+M):=by
 unfold Lg.thru
 split
 ·refine ⟨?_,?_⟩
  ·show -(K+M)<=(if (a.ever||ev)=true then (0:Int) else a.back+bk)/\(if (a.ever||ev)=true then (0:Int) else a.back+bk)<=K+M
   have:=h.back
   split<;>omega
  ·show -(K+M)<=a.ahead+ah/\a.ahead+ah<=K+M
   have:=h.ahead;omega
 ·exact h.mono (by omega)
structure NodeB (x:Exp):Prop where
 n : -50<=x.n/\x.n<=50
 kids:x.kids.length<=2
 op:1<=x.op/\x.op<=15
theorem Lg.In.kid {K:Int} {a:Lg} (h:a.In K) {op n:Int} (hn : -50<=n/\n<=50) {i:Nat} (hi:i<=1):(kidL op n i a).In (K+64):=by
 have hi':(i:Int)=0\/(i:Int)=1:=by omega
 unfold kidL
 repeat' split
 ·exact h.thru (by omega) (by omega)
 ·exact h.thru (by omega) (by omega)
 ·exact h.thru (by omega) (by omega)
 ·exact h.thru (by omega) (by omega)
 ·exact h.thru (by omega) (by omega)
 ·rcases hi' with e|e
  ·rw [e,Int.mul_zero];exact h.thru (by omega) (by omega)
  ·rw [e,Int.mul_one];exact h.thru (by omega) (by omega)
 ·exact h.mono (by omega)
mutual
theorem expG_in (srcs names:List Str) {v:Nat->Lg} {K:Int} (hK:0<=K) (hv:∀ d,(v d).In K) (s:Nat):∀ e,(∀ x∈allE e,NodeB x)->(expG srcs names v s e).In (K+64*((allE e).length:Int))
 | .mk op name n fold calcs kids,h=>by
  have hb:=h (.mk op name n fold calcs kids) (by rw [allE];exact List.mem_cons_self ..)
  have hn : -50<=n/\n<=50:=hb.n
  rw [expG,allE,List.length_cons]
  split
  ·split
   ·exact ⟨⟨by show -_<=(0:Int);omega,by show (0:Int)<=_;omega⟩,⟨by show -_<=(0:Int);omega,by show (0:Int)<=_;omega⟩⟩
   ·exact Lg.inz (by omega)
  ·split
   ·exact ((hv _).thru (M:=64) (by omega) (by omega)).mono (by omega)
   ·refine (kidsG_in srcs names hK hv s op n hn kids 0 Lg.z (allEs kids).length (by have:kids.length<=2:=hb.kids;omega) (Nat.le_refl _) (fun x hx=>h x (by rw [allE];exact List.mem_cons_of_mem _ hx)) (Lg.inz (by omega))).mono (by omega)
theorem kidsG_in (srcs names:List Str) {v:Nat->Lg} {K:Int} (hK:0<=K) (hv:∀ d,(v d).In K) (s:Nat) (op n:Int) (hn : -50<=n/\n<=50):∀ (l:List Exp) (i:Nat) (out:Lg) (N:Nat),i+l.length<=2->(allEs l).length<=N->(∀ x∈allEs l,NodeB x)->out.In (K+64*((N:Int)+1))->(kidsG srcs names v s op n l i out).In (K+64*((N:Int)+1))
 |[],_,_,_,_,_,_,h=>h
 |x::r,i,out,N,hi,hN,hx,h=>by
  rw [kidsG]
  rw [allEs,List.length_append] at hN
  rw [List.length_cons] at hi
  have h1:=expG_in srcs names hK hv s x fun y hy=>hx y (by rw [allEs];exact List.mem_append_left _ hy)
  refine kidsG_in srcs names hK hv s op n hn r (i+1) _ N (by omega) (by omega) (fun y hy=>hx y (by rw [allEs];exact List.mem_append_right _ hy)) (h.both ?_)
  exact (h1.kid hn (by omega)).mono (by omega)
end
def InL (K:Int) (D:List (List Lg)):Prop:=∀ r∈D,∀ a∈r,a.In K
theorem InL.mono {K L:Int} {D:List (List Lg)} (h:InL K D) (hk:K<=L):InL L D:=fun r hr a ha=>(h r hr a ha).mono hk
theorem InL.col {K:Int} {D:List (List Lg)} (hK:0<=K) (h:InL K D) (s d:Nat):(colD D s d).In K:=by
 unfold colD
 rw [List.getD_eq_getElem?_getD,List.getD_eq_getElem?_getD]
 cases hd:D[d]? with
 |none=>exact Lg.inz hK
 |some r=>
  simp only [Option.getD_some]
  cases hs:r[s]? with
  |none=>exact Lg.inz hK
  |some a=>exact h r (List.mem_of_getElem? hd) a (List.mem_of_getElem? hs)
structure Small (p:Pgm):Prop where
 len:p.defs.length<=6
 srcs:p.srcs.length<=4
 cnt:∀ d,(allE (expAt p d)).length<=1000
 node:∀ d,d < p.defs.length->∀ x∈allE (expAt p d),NodeB x
theorem allL_in {p:Pgm} {K:Int} (hK:0<=K) {D:List (List Lg)} (h:InL K D) {e:Exp} (hn:∀ x∈allE e,NodeB x) (hc:(allE e).length<=1000):∀ a∈allL p D e,a.In (K+64000):=fun a ha=>by
 unfold allL at ha
 obtain ⟨s,_,rfl⟩:=List.mem_map.1 ha
 exact (expG_in _ _ hK (h.col hK s) s e hn).mono (by omega)
theorem rowL_in {p:Pgm} (hp:Small p) {K:Int} (hK:0<=K) {D:List (List Lg)} (h:InL K D) (ring:Bool) {d:Nat} (hd:d < p.defs.length):∀ a∈rowL p ring D d,a.In (K+64000):=fun a ha=>by
 unfold rowL at ha
 obtain ⟨b,hb,rfl⟩:=List.mem_map.1 ha
 have h1:=allL_in hK h (hp.node d hd) (hp.cnt d) b hb
 unfold ringL
 split
 ·exact (h1.thru (M:=0) (by omega) (by omega)).mono (by omega)
 ·exact h1
theorem InL.set {p:Pgm} (hp:Small p) {K:Int} (hK:0<=K) {D:List (List Lg)} (h:InL K D) (ring:Bool) {d:Nat} (hd:d < p.defs.length):InL (K+64000) (setL p ring D d):=fun r hr=>by
 rcases List.mem_or_eq_of_mem_set hr with hr|rfl
 ·exact fun a ha=>(h r hr a ha).mono (by omega)
 ·exact rowL_in hp hK h ring hd
theorem InL.rnd {p:Pgm} (hp:Small p) {ring:Bool}:∀ (g:List Nat) {K:Int},0<=K->∀ {D:List (List Lg)},InL K D->(∀ d∈g,d < p.defs.length)->InL (K+64000*g.length) (rndL p ring g D)
 |[],K,_,D,h,_=>h.mono (by simp only [List.length_nil];omega)
 |d::g,K,hK,D,h,hg=>by
  have:=InL.rnd hp (ring:=ring) g (by omega) (h.set hp hK ring (hg d (List.mem_cons_self ..))) fun x hx=>hg x (List.mem_cons_of_mem _ hx)
  exact this.mono (by rw [List.length_cons];omega)
theorem InL.rnds {p:Pgm} (hp:Small p) {ring:Bool} {g:List Nat} (hl:g.length<=6) {K:Int} (hK:0<=K) {D:List (List Lg)} (h:InL K D) (hg:∀ d∈g,d < p.defs.length):∀ n:Nat,InL (K+384000*n) (rndsL p ring g n D)
 |0=>h.mono (by omega)
 |n+1=>((h.rnds hp hl hK hg n).rnd hp g (by omega) hg).mono (by omega)
noncomputable def ringB (tos:List (List Nat)) (g:List Nat):Bool:=match g with
 |d::_=>reachB tos d d
 |[]=>false
def zeroL (p:Pgm):List (List Lg):=List.replicate p.defs.length (List.replicate p.srcs.length Lg.z)
noncomputable def lagsTo (p:Pgm) (gs:List (List Nat)):List (List Lg):=gs.foldl (fun D g=>rndsL p (ringB (tosR p) g) g (p.defs.length+1) D) (zeroL p)
noncomputable def lagsR (p:Pgm):List (List Lg):=lagsTo p (orderR (tosR p))
theorem Wide.zero (p:Pgm):Wide p (zeroL p) where
 len:=List.length_replicate ..
 row:=fun r hr=>by rw [List.eq_of_mem_replicate hr];exact List.length_replicate ..
 ok:=fun r hr a ha=>by rw [List.eq_of_mem_replicate hr] at ha;rw [List.eq_of_mem_replicate ha];exact Lg.okz
theorem colD_zero (p:Pgm) (s d:Nat):colD (zeroL p) s d=Lg.z:=by
 unfold colD zeroL
 rw [List.getD_eq_getElem?_getD,List.getD_eq_getElem?_getD,List.getElem?_replicate]
 split
 ·simp only [Option.getD_some,List.getElem?_replicate];split<;>rfl
 ·rfl
theorem colD_rnd {p:Pgm} {ring:Bool} {d:Nat}:∀ (g:List Nat) {D:List (List Lg)},d∉g->∀ s,colD (rndL p ring g D) s d=colD D s d
 |[],_,_,_=>rfl
 |x::g,D,h,s=>by
  rw [show rndL p ring (x::g) D=rndL p ring g (setL p ring D x) from rfl,colD_rnd g (fun hc=>h (List.mem_cons_of_mem _ hc))]
  unfold colD setL
  rw [List.getD_eq_getElem?_getD (l:=D.set x _),List.getElem?_set_ne (fun e=>by subst e;exact h (List.mem_cons_self ..)),<-List.getD_eq_getElem?_getD]
theorem colD_rnds {p:Pgm} {ring:Bool} {d:Nat} {g:List Nat} (h:d∉g) {D:List (List Lg)} (s:Nat):∀ n,colD (rndsL p ring g n D) s d=colD D s d
 |0=>rfl
 |n+1=>by rw [rndsL,colD_rnd g h,colD_rnds h s n]
structure SoFar (p:Pgm) (gs:List (List Nat)) (D:List (List Lg)):Prop where
 wide:Wide p D
 low:InL (2688000*gs.length) D
 rest:∀ d,d∉gs.flatten->∀ s,colD D s d=Lg.z
theorem SoFar.zero (p:Pgm):SoFar p [] (zeroL p) where
 wide:=Wide.zero p
 low:=fun r hr a ha=>by
  have hr:=List.eq_of_mem_replicate hr
  subst hr
  rw [List.eq_of_mem_replicate ha]
  exact Lg.inz (by simp)
 rest:=fun d _ s=>colD_zero p s d
theorem SoFar.step {p:Pgm} (hp:Small p) {gs:List (List Nat)} {D:List (List Lg)} (h:SoFar p gs D) {g:List Nat} (hl:g.length<=6) (hg:∀ d∈g,d < p.defs.length) {ring:Bool} {n:Nat} (hn:n<=7):SoFar p (gs++[g]) (rndsL p ring g n D) where
 wide:=h.wide.rnds ring g n
 low:=(h.low.rnds hp hl (by omega) hg n).mono (by simp only [List.length_append,List.length_cons,List.length_nil];omega)
 rest:=fun d hd s=>by
  rw [List.flatten_append,List.mem_append] at hd
  rw [colD_rnds (fun hc=>hd (.inr (by simpa using hc))) s n]
  exact h.rest d (fun hc=>hd (.inl hc)) s
theorem lagsTo_append (p:Pgm) (gs:List (List Nat)) (g:List Nat):lagsTo p (gs++[g])=rndsL p (ringB (tosR p) g) g (p.defs.length+1) (lagsTo p gs):=by
 unfold lagsTo
 rw [List.foldl_append];rfl
theorem lagsTo_far {p:Pgm} (hp:Small p):∀ (gs hs:List (List Nat)),(∀ g∈gs,g.length<=6/\∀ d∈g,d < p.defs.length)->∀ {D:List (List Lg)},SoFar p hs D->SoFar p (hs++gs) (gs.foldl (fun D g=>rndsL p (ringB (tosR p) g) g (p.defs.length+1) D) D)
 |[],hs,_,D,h=>by rw [List.append_nil];exact h
 |g::gs,hs,hg,D,h=>by
  have h1:=hg g (List.mem_cons_self ..)
  have:=lagsTo_far hp gs (hs++[g]) (fun x hx=>hg x (List.mem_cons_of_mem _ hx)) (h.step hp h1.1 h1.2 (ring:=ringB (tosR p) g) (n:=p.defs.length+1) (by have:=hp.len;omega))
  rw [List.append_assoc] at this
  exact this
end Go.Abs

/- Whether a list of numbers holds one of a kind, asked by reference. -/
open Go Go.Abs
namespace Go.Abs
set_option maxRecDepth 100000
set_option maxHeartbeats 4000000
instance fnis484:FnIs CC 184:=⟨rfl,fun _=>rfl⟩
instance fnis438:FnIs CC 138:=⟨rfl,fun _=>rfl⟩
theorem ret484 {l:List Nat} (hl:l.length<=1000) (k:Nat):∃ z:Int,Ret CC 184 [natsIV l,natIV k] (.int .i64 z)/\decide (z>=0)=l.contains k:=by
 have hlm:(l.map natIV).length=l.length:=List.length_map ..
 refine ⟨match l.findIdx? (fun x=>x==k) with|some i=>(i:Int)|none => -1,?_,?_⟩
 ·refine Ret.of (fn:=Go.Proofs.Tryz.f184) (by kernel_rfl) rfl rfl ?_
  refine BB ?_
  refine W.loop (X:=Nat) (fun i=>[(0, .imm (natsIV l)),(1, .imm (natIV k)),(6, .imm (natsIV l)),(7, .imm (.int .i64 (l.map natIV).length)),(8, .imm (.int .i64 i))])
   (fun i nx1 G1=>i<=l.length/\∀ j,j < i->∀ x,l[j]? = some x->(x==k)=false) (fun i=>l.length-i) 0 .auto ⟨Nat.zero_le _,fun j h=>absurd h (Nat.not_lt_zero j)⟩ ?_
  rintro i nx1 G1 ⟨hi,hno⟩
  refine BB ?_
  refine W.cond rfl (fun h1=>?_) (fun h1=>?_)
  ·have hlt:i < l.length:=by have:=of_decide_eq_true h1;rw [hlm] at this;omega
   obtain ⟨x,hx⟩:=at_lt hlt
   have hxi:=at_map natIV hx
   have hmu:l.length-(i+1) < l.length-i:=by omega
   cases hp:((k:Int)==(x:Int)) with
   |false=>
    refine BB ?_
    refine W.skipLop (i+1) hmu .auto ⟨hlt,fun j hj y hy=>?_⟩
    rcases Nat.lt_or_eq_of_le (Nat.le_of_lt_succ hj) with hj|rfl
    ·exact hno j hj y hy
    ·rw [hx] at hy;cases hy
     simp only [beq_eq_false_iff_ne,ne_eq] at hp ⊢;omega
   |true=>
    have:l.findIdx? (fun x=>x==k)=some i:=by
     rw [List.findIdx?_eq_some_iff_getElem]
     refine ⟨hlt,?_,fun j hj=>?_⟩
     ·have h2:=(List.getElem?_eq_some_iff.1 hx).2
      simp only [beq_iff_eq] at hp ⊢
      rw [h2];omega
     ·have:=hno j hj l[j] (List.getElem?_eq_getElem _)
      simpa using this
    rw [this]
    refine BB ?_
    exact W.retFin1 rfl ⟨[],rfl⟩
  ·have hge:l.length<=i:=by have:=of_decide_eq_false h1;rw [hlm] at this;omega
   have:l.findIdx? (fun x=>x==k)=none:=by
    rw [List.findIdx?_eq_none_iff]
    intro x hx
    obtain ⟨j,hj⟩:=List.mem_iff_getElem?.1 hx
    exact hno j (by have:=(List.getElem?_eq_some_iff.1 hj).1;omega) x hj
   rw [this]
   refine BB ?_
   exact W.retFin1 rfl ⟨[],rfl⟩
 ·cases h:l.findIdx? (fun x=>x==k) with
  |none=>
   rw [List.findIdx?_eq_none_iff] at h
   have:l.contains k=false:=by
    rw [List.contains_eq_mem,decide_eq_false_iff_not]
    intro hc
    have:=h k hc
    simp at this
   rw [this];rfl
  |some i=>
   obtain ⟨h1,h2,_⟩:=List.findIdx?_eq_some_iff_getElem.1 h
   have:l.contains k=true:=by
    rw [List.contains_iff_mem]
    simp only [beq_iff_eq] at h2
    exact h2▸List.getElem_mem h1
   rw [this]
   exact decide_eq_true (by show (0:Int)<=(i:Int);omega)
theorem ret438 {l:List Nat} (hl:l.length<=1000) (k:Nat):Ret CC 138 [natsIV l,natIV k] (.bool (l.contains k)):=by
 obtain ⟨z,h1,h2⟩:=ret484 hl k
 refine Ret.of (fn:=Go.Proofs.Tryz.f138) (by kernel_rfl) rfl rfl ?_
 refine BB ?_
 refine W.retFin1 rfl ⟨[],?_⟩
 rw [<-h2];rfl
section
variable {f:FuncId} {cap:List AV} {P:Nat->Bool} {K:(Nat->Obj)->Nat->Prop}
theorem cal457 (hb:CC.byref f=true) (hK:∀ G nx nx',K G nx->nx<=nx'->K G nx') {l:List Nat} (hl:l.length<=1000) (hf:∀ x∈l,∀ G nx,K G nx->Cal CC f ([.imm (natIV x)]++cap) G nx fun v G' nx'=>v = .imm (.bool (P x))/\K G' nx') {G:Nat->Obj} {nx:Nat} (h0:K G nx) :
  Cal CC 157 [.imm (natsIV l), .fn (.func f) cap] G nx fun v G' nx'=>∃ z:Int,v = .imm (.int .i64 z)/\decide (z>=0)=l.any P/\K G' nx':=by
 have hlm:(l.map natIV).length=l.length:=List.length_map ..
 refine Cal.of (fn:=Go.Proofs.Tryz.f157) (by kernel_rfl) rfl rfl ?_
 refine BN ?_
 refine W.loop (X:=Nat) (fun i=>[(0, .imm (natsIV l)),(1, .fn (.func f) cap),(6, .imm (natsIV l)),(7, .imm (.int .i64 (l.map natIV).length)),(8, .imm (.int .i64 i))])
  (fun i nx1 G1=>i<=l.length/\K G1 nx1/\(l.take i).any P=false) (fun i=>l.length-i) 0 .auto ⟨Nat.zero_le _,hK _ _ _ h0 (by omega),rfl⟩ ?_
 clear h0
 rintro i nx1 G1 ⟨hi,hI,hno⟩
 refine BN ?_
 refine W.cond rfl (fun h1=>?_) (fun h1=>?_)
 ·have hlt:i < l.length:=by have:=of_decide_eq_true h1;rw [hlm] at this;omega
  obtain ⟨x,hx⟩:=at_lt hlt
  have hxi:=at_map natIV hx
  have hcal:=fun nx2 (h:nx1<=nx2)=>hf x (List.mem_of_getElem? hx) G1 nx2 (hK _ _ _ hI h)
  have hmu:l.length-(i+1) < l.length-i:=by omega
  have htk:(l.take (i+1)).any P=P x:=by rw [List.take_add_one,hx,List.any_append,hno];simp
  refine BN ?_
  refine R.callB rfl rfl hb rfl rfl ((hcal _ (by omega)).mono fun v G' nx' hv=>?_)
  obtain ⟨rfl,h2⟩:=hv
  cases hp:P x with
  |false=>
   refine BN ?_
   exact W.skipLop (i+1) hmu .auto ⟨hlt,hK _ _ _ h2 (by omega),by rw [htk,hp]⟩
  |true=>
   refine BN ?_
   refine W.retFin1 rfl ⟨_,rfl,?_,hK _ _ _ h2 (by omega)⟩
   rw [decide_eq_true (by omega)]
   exact (List.any_eq_true.2 ⟨x,List.mem_of_getElem? hx,hp⟩).symm
 ·have hge:l.length<=i:=by have:=of_decide_eq_false h1;rw [hlm] at this;omega
  rw [List.take_of_length_le hge] at hno
  refine BN ?_
  exact W.retFin1 rfl ⟨-1,rfl,by rw [hno];rfl,hK _ _ _ hI (by omega)⟩
theorem cal386 (hb:CC.byref f=true) (hK:∀ G nx nx',K G nx->nx<=nx'->K G nx') {l:List Nat} (hl:l.length<=1000) (hf:∀ x∈l,∀ G nx,K G nx->Cal CC f ([.imm (natIV x)]++cap) G nx fun v G' nx'=>v = .imm (.bool (P x))/\K G' nx') {G:Nat->Obj} {nx:Nat} (h0:K G nx) :
  Cal CC 86 [.imm (natsIV l), .fn (.func f) cap] G nx fun v G' nx'=>v = .imm (.bool (l.any P))/\K G' nx':=by
 have hc:=fun nx1 (h:nx<=nx1)=>cal457 hb hK hl hf (hK _ _ nx1 h0 h)
 refine Cal.of (fn:=Go.Proofs.Tryz.f86) (by kernel_rfl) rfl rfl ?_
 refine BN ?_
 refine R.callB rfl rfl rfl rfl rfl ((hc _ (by omega)).mono fun v G' nx' hv=>?_)
 obtain ⟨z,rfl,h1,h2⟩:=hv
 refine BN ?_
 refine W.retFin1 rfl ⟨?_,hK _ _ _ h2 (by omega)⟩
 rw [<-h1]
end
end Go.Abs

/- Sorted numbers of a set. (No program in sight.) -/
open Go Go.Abs
namespace Go.Abs
theorem slt_ext:∀ {a b:List Int},a.Pairwise (· < ·)->b.Pairwise (· < ·)->(∀ x,x∈a↔x∈b)->a=b
 |[],[],_,_,_=>rfl
 |[],y::s,_,_,h=>absurd ((h y).2 (by simp)) (by simp)
 |x::r,[],_,_,h=>absurd ((h x).1 (by simp)) (by simp)
 |x::r,y::s,ha,hb,h=>by
  rw [List.pairwise_cons] at ha hb
  have hxy:x=y:=by
   have h1:=(h x).1 (by simp)
   have h2:=(h y).2 (by simp)
   rcases List.mem_cons.1 h1 with h1|h1
   ·exact h1
   ·rcases List.mem_cons.1 h2 with h2|h2
    ·exact h2.symm
    ·have:=ha.1 y h2
     have:=hb.1 x h1
     omega
  subst hxy
  rw [slt_ext ha.2 hb.2 fun z=>?_]
  constructor
  ·intro hz
   have:=ha.1 z hz
   rcases List.mem_cons.1 ((h z).1 (by simp [hz])) with h1|h1
   ·omega
   ·exact h1
  ·intro hz
   have:=hb.1 z hz
   rcases List.mem_cons.1 ((h z).2 (by simp [hz])) with h1|h1
   ·omega
   ·exact h1
theorem ins_mem {x z:Int}:∀ {l:List Int},z∈ins x l↔z=x\/z∈l
 |[]=>by simp [ins]
 |y::r=>by
  unfold ins
  split
  ·simp
  ·simp only [List.mem_cons,ins_mem (l:=r)]
   constructor
   ·rintro (h|h|h)<;>simp [h]
   ·rintro (h|h|h)<;>simp [h]
theorem isort_mem {z:Int}:∀ {l:List Int},z∈isort l↔z∈l
 |[]=>by simp [isort]
 |x::r=>by rw [isort,ins_mem,isort_mem,List.mem_cons]
theorem ins_slt {x:Int}:∀ {l:List Int},l.Pairwise (· < ·)->x∉l->(ins x l).Pairwise (· < ·)
 |[],_,_=>by simp [ins]
 |y::r,h,hx=>by
  have hne:x≠y:=fun e=>hx (by simp [e])
  have hr:x∉r:=fun e=>hx (by simp [e])
  unfold ins
  rw [List.pairwise_cons] at h
  split
  ·rename_i hle
   rw [List.pairwise_cons,List.pairwise_cons]
   refine ⟨fun z hz=>?_,h⟩
   rcases List.mem_cons.1 hz with rfl|hz
   ·omega
   ·have:=h.1 z hz;omega
  ·rename_i hle
   rw [List.pairwise_cons]
   refine ⟨fun z hz=>?_,ins_slt h.2 hr⟩
   rcases ins_mem.1 hz with rfl|hz
   ·omega
   ·exact h.1 z hz
theorem isort_slt:∀ {l:List Int},l.Nodup->(isort l).Pairwise (· < ·)
 |[],_=>by simp [isort]
 |x::r,h=>by
  rw [List.nodup_cons] at h
  exact ins_slt (isort_slt h.2) fun e=>h.1 (isort_mem.1 e)
theorem ints_nats (l:List Nat):ints (l.map natIV)=l.map Int.ofNat:=by
 induction l with
 |nil=>rfl
 |cons x r ih=>
  rw [List.map_cons,List.map_cons,<-ih];rfl
theorem sorted_eq {out:List Nat} {n:Nat} {P:Nat->Bool} (hn:out.Nodup) (hb:∀ x∈out,x < n) (hP:∀ x,x < n->(P x=true↔x∈out)):(isort (ints (out.map natIV))).map (IV.int .i64)=((List.range n).filter P).map natIV:=by
 have key:isort (ints (out.map natIV))=((List.range n).filter P).map Int.ofNat:=by
  rw [ints_nats]
  refine slt_ext (isort_slt ?_) ?_ fun z=>?_
  ·rw [List.Nodup,List.pairwise_map]
   exact hn.imp fun h e=>h (Int.ofNat.inj e)
  ·rw [List.pairwise_map]
   refine (List.Pairwise.filter _ List.pairwise_lt_range).imp fun h=>?_
   exact Int.ofNat_lt.2 h
  ·rw [isort_mem,List.mem_map,List.mem_map]
   constructor
   ·rintro ⟨x,hx,rfl⟩
    exact ⟨x,List.mem_filter.2 ⟨List.mem_range.2 (hb x hx),(hP x (hb x hx)).2 hx⟩,rfl⟩
   ·rintro ⟨x,hx,rfl⟩
    rw [List.mem_filter,List.mem_range] at hx
    exact ⟨x,(hP x hx.1).1 hx.2,rfl⟩
 rw [key,List.map_map]
 rfl
theorem natKeys_int (l:List Nat):(l.map natIV).all isIntIV=true:=by
 induction l with
 |nil=>rfl
 |cons x r ih=>rw [List.map_cons,List.all_cons,ih];rfl
end Go.Abs

/- Lists of numbers: comparing what is the same; the numbers of what is true. -/
open Go Go.Abs
namespace Go.Abs
set_option maxRecDepth 100000
set_option maxHeartbeats 4000000
instance fnis19:FnIs CC 38:=⟨rfl,fun _=>rfl⟩
theorem ret19 {l:List Int} (hl:l.length<=9223372036854775807):Ret CC 38 [intsIV l,intsIV l] (.bool true):=by
 have hlm:(l.map intIV).length=l.length:=List.length_map ..
 have b3:(((l.map intIV).length:Int) != ((l.map intIV).length:Int))=false:=by simp
 refine Ret.of (fn:=Go.Proofs.Tryz.f38) (by kernel_rfl) rfl rfl ?_
 refine AA ?_
 refine W.loop (X:=Nat) (fun i=>[(0, .imm (intsIV l)),(1, .imm (intsIV l)),(5, .imm (.int .i64 i))])
  (fun i nx G=>i<=l.length) (fun i=>l.length-i) 0 .auto (Nat.zero_le _) ?_
 rintro i nx G hi
 rcases Bool.eq_false_or_eq_true (decide ((i:Int) < ((l.map intIV).length:Int))) with hc|hc
 ·have hlt:i < l.length:=by have:=of_decide_eq_true hc;omega
  obtain ⟨d,hx⟩:=at_lt hlt
  have hxi:=at_map intIV hx
  have hmu:l.length-(i+1) < l.length-i:=by omega
  have hne:(d != d)=false:=by simp
  refine AA ?_
  exact W.skipLop (i+1) hmu .auto hlt
 ·refine AA ?_
  exact W.retFin1 rfl ⟨[],rfl⟩
end Go.Abs

/- The reference: on which sources a definition depends. -/
open Go Go.Abs
namespace Go.Abs
set_option maxRecDepth 100000
set_option maxHeartbeats 4000000
mutual
theorem expR_src (srcs defs:List Str) (ahead:Nat):∀ (e:Exp) (depth left:Int),0<=expR srcs defs ahead e depth left->∀ x∈allE e,x.op=1->x.name∈srcs
 | .mk op name n fold calcs kids,depth,left,h,x,hx,ho=>by
  rw [expR] at h
  rw [allE] at hx
  cases hs:shapeR op with
  |none=>rw [hs] at h;simp at h
  |some s=>
   rw [hs] at h
   dsimp only at h
   split at h
   ·omega
   ·split at h
    ·rename_i hh
     split at h
     ·omega
     ·rcases List.mem_cons.1 hx with he|hx
      ·rw [he] at ho ⊢
       have ho:op=1:=ho
       unfold headIs at hh
       simp only [Bool.and_eq_true] at hh
       have hni:=hh.2
       rw [ho] at hni
       have:srcs.contains name=true:=hni
       show name∈srcs
       simpa using this
      ·exact expRs_src srcs defs ahead kids depth left _ h x hx ho
    ·omega
theorem expRs_src (srcs defs:List Str) (ahead:Nat):∀ (l:List Exp) (depth left n:Int),0<=expRs srcs defs ahead l depth left n->∀ x∈allEs l,x.op=1->x.name∈srcs
 |[],_,_,_,_,x,hx,_=>by cases hx
 |k::r,depth,left,n,h,x,hx,ho=>by
  rw [expRs] at h
  rw [allEs] at hx
  split at h
  ·omega
  ·rcases List.mem_append.1 hx with hx|hx
   ·exact expR_src srcs defs ahead k (depth+1) (left-n) (by omega) x hx ho
   ·exact expRs_src srcs defs ahead r depth left _ h x hx ho
end
theorem countL_src (srcs names:List Str):∀ (ds:List Dfn) (i:Nat) (n:Int),0<=countL srcs names ds i n->∀ d∈ds,∀ x∈allE d.exp,x.op=1->x.name∈srcs
 |[],_,_,_,d,hd=>by cases hd
 |k::r,i,n,h,d,hd=>by
  rw [countL] at h
  split at h
  ·omega
  ·rcases List.mem_cons.1 hd with hk|hd
   ·rw [hk];exact expR_src srcs names i k.exp 1 (60-n) (by omega)
   ·exact countL_src srcs names r (i+1) _ h d hd
theorem countR_src {p:Pgm} (h:0<=countR p):∀ d∈p.defs,∀ x∈allE d.exp,x.op=1->x.name∈p.srcs:=by
 unfold countR at h
 split at h
 ·omega
 ·split at h
  ·exact countL_src _ _ _ _ _ h
  ·omega
def srcIs (srcs:List Str) (x:Exp) (s:Nat):Prop:=x.op=1/\idxN srcs x.name=s
def SrcTo (srcs:List Str) (defs:List Dfn) (tos:List (List Nat)) (d i s:Nat):Prop:=∃ i' y,i' < i/\defs[i']? = some y/\(i'=d\/Reach tos d i')/\∃ x∈allE y.exp,srcIs srcs x s
open Classical in
noncomputable def SrcB (srcs:List Str) (defs:List Dfn) (tos:List (List Nat)) (d i s:Nat):Bool:=decide (SrcTo srcs defs tos d i s)
theorem SrcB_iff {srcs:List Str} {defs:List Dfn} {tos:List (List Nat)} {d i s:Nat}:SrcB srcs defs tos d i s=true↔SrcTo srcs defs tos d i s:=by unfold SrcB;simp
noncomputable def srcsR (p:Pgm) (d:Nat):List Nat:=(List.range p.srcs.length).filter (SrcB p.srcs p.defs (tosR p) d p.defs.length)
end Go.Abs

/- TermParts: depths. -/
open Go Go.Abs
namespace Go.Abs
set_option maxRecDepth 100000
set_option maxHeartbeats 4000000
theorem allE_kid {kids:List Exp} {k:Exp} (h:k∈kids):(allE k).length<=(allEs kids).length:=by
 obtain ⟨i,hi⟩:=List.mem_iff_getElem?.1 h
 rw [allEs_split hi];simp;omega
noncomputable def errR (p:Pgm) (d:Int):Int:=if hasR p d then 0 else 2
end Go.Abs

/- What definitions depend on. -/
open Go Go.Abs
namespace Go.Abs
set_option maxRecDepth 100000
set_option maxHeartbeats 4000000
instance fnis15:FnIs CC 64:=⟨rfl,fun _=>rfl⟩
instance fnis17:FnIs CC 21:=⟨rfl,fun _=>rfl⟩
noncomputable def reachN (p:Pgm) (d:Nat):List Nat:=(List.range p.defs.length).filter (reachB (tosR p) d)
noncomputable def srcsA (p:Pgm) (d:Int):List Nat:=if hasR p d then srcsR p d.toNat else []
noncomputable def reachA (p:Pgm) (d:Int):List Nat:=if hasR p d then reachN p d.toNat else []
noncomputable def ringsA (p:Pgm):List (List Nat):=if progR p then ringsOf p else []
/-! ### sets -/
def addN (l:List Nat) (k:Nat):List Nat:=if l.contains k then l else l++[k]
theorem addN_mem {l:List Nat} {k x:Nat}:x∈addN l k↔x∈l\/x=k:=by
 unfold addN
 split
 ·rename_i h
  constructor
  ·exact .inl
  ·rintro (h'|rfl)
   ·exact h'
   ·simpa using h
 ·simp
theorem addN_nodup {l:List Nat} {k:Nat} (h:l.Nodup):(addN l k).Nodup:=by
 unfold addN
 split
 ·exact h
 ·rename_i h'
  rw [List.nodup_append]
  exact ⟨h,by simp,fun a ha b hb=>by rw [List.mem_singleton.1 hb];exact fun e=>h' (by simpa [e] using ha)⟩
theorem O.setPut {id:Nat} {l:Env} {G:Nat->Obj} {nx:Nat} {df:List (AV×List AV)} {pk:Pk} {m x y:Operand} {q k:Nat} {s:List Nat} (hm:lookO l m=some (.map q)) (hx:lookO l x=some (.imm (natIV k))) (hy:lookO l y=some (.imm (.bool true))) (hG:G q=setObj s) :
  OpV CC id l G nx df pk (.mapUpdate 116 m x y) .undef [(q, .set (setObj (addN s k)))]:=by
 unfold addN
 cases hc:s.contains k with
 |false=>
  rw [if_neg (by decide),setObj_add]
  exact O.mapNew (k:=ty74) (kk:=ty3) rfl inferInstance hm hx hy hG rfl (setNew hc)
 |true=>
  rw [if_pos rfl]
  have hsome:=findIdx_contains' k s
  rw [hc] at hsome
  obtain ⟨j,hj⟩:=Option.isSome_iff_exists.1 hsome
  have hlt:=findIdx_lt' hj
  have hkj:s[j]? = some k:=by
   rw [List.findIdx?_eq_some_iff_getElem] at hj
   obtain ⟨h1,h2,_⟩:=hj
   rw [List.getElem?_eq_getElem h1]
   have:k=s[j]:=by simpa using h2
   rw [<-this]
  have h1:(s.map natIV).set j (natIV k)=s.map natIV:=by
   rw [<-List.map_set]
   congr 1
   apply List.ext_getElem?
   intro i
   rw [List.getElem?_set]
   split
   ·rename_i he;subst he;rw [hkj];try simp [hlt]
   ·rfl
  have h2:((s.map fun _=>IV.bool true).map AV.imm).set j (.imm (.bool true))=(s.map fun _=>IV.bool true).map AV.imm:=by
   apply List.ext_getElem?
   intro i
   rw [List.getElem?_set]
   split
   ·rename_i he;subst he;simp [hlt]
   ·rfl
  refine O.of fun t' L hA=>?_
  have hkt:=(inferInstance:TyIs CC 116 ty74).is
  have hkt3:=(inferInstance:TyIs CC 3 ty3).is
  simp only [opA,hA.ev hm,hA.ev hx,hA.ev hy,aMapUpdate,hkt,hG,setObj,show ty74.d = .mp 3 4 from rfl,hkt3]
  rw [if_pos (show keyOk ty3.d (natIV k)=true from rfl),natKey,hj]
  simp only [h1,h2]
theorem orcSet {l:List Nat} {n:Nat} {P:Nat->Bool} (hn:l.Nodup) (hb:∀ x∈l,x < n) (hP:∀ x,x < n->(P x=true↔x∈l)) (hs:l.length<=4294967296):CC.orc 69 [setIV l]=some (.own 3 1 (((List.range n).filter P).map natIV)):=by
 show (if (l.map natIV).all isIntIV=true/\(l.map natIV).length<=4294967296 then some (OrcR.own 3 1 ((isort (ints (l.map natIV))).map (.int .i64))) else none)=_
 rw [if_pos ⟨natKeys_int l,by simpa using hs⟩,sorted_eq hn hb hP]
def SrcIn (srcs:List Str) (defs:List Dfn) (L:List Nat) (s:Nat):Prop:=∃ i∈L,∃ y,defs[i]? = some y/\∃ x∈allE y.exp,srcIs srcs x s
theorem ret15 (p:Pgm) (hp:p.Fits) (d:Int):Ret CC 64 [p.iv, .int .i64 d] (.tup [natsIV (srcsA p d),natsIV (reachA p d), .int .i64 (errR p d)]):=by
 have hr:=ret46 p hp d
 unfold srcsA reachA errR
 have hat:=hasR_at (p:=p) (d:=d)
 cases hb:hasR p d with
 |true=>
  rw [hb] at hr hat
  obtain ⟨hpr,d,y,rfl,hy⟩:=hat rfl
  have hc:=progR_count hpr
  have hg:=countR_good hc
  have htl:(tosR p).length=p.defs.length:=hg.steps.2.1
  have hi:d < p.defs.length:=(List.getElem?_eq_some_iff.1 hy).1
  have hlk:lookedIV p=scopeIV p ((p.defs.length-1:Nat):Int) (countR p):=by unfold lookedIV;rw [hpr];rfl
  rw [hlk] at hr
  obtain ⟨out,ho1,ho2,ho3,hr47⟩:=ret47 hp hg.tos ((p.defs.length-1:Nat):Int) (countR p) (d:=d) (by rw [htl];exact hi)
  have hsrc:=countR_src hc
  have hd6:=hg.defs
  have hs4:=hg.srcs
  have hfit:=hp.exp
  have holen:=nodup_lt ho1 ho2
  have horc:CC.orc 69 [setIV out]=some (.own 3 1 ((reachN p d).map natIV)):=orcSet (n:=p.defs.length) ho1 (fun x hx=>by rw [<-htl];exact ho2 x hx) (fun x hx=>by rw [ho3 x,reachB_iff]) (by omega)
  have hrm:∀ i,i∈reachN p d↔Reach (tosR p) d i:=fun i=>by
   unfold reachN
   rw [List.mem_filter,List.mem_range,reachB_iff]
   exact ⟨fun h=>h.2,fun h=>⟨by rw [<-htl];exact ho2 i ((ho3 i).2 h),h⟩⟩
  have hrl:(reachN p d).length<=6:=by
   have:=List.length_filter_le (reachB (tosR p) d) (List.range p.defs.length)
   rw [List.length_range] at this
   unfold reachN;omega
  have hrlt:∀ i∈reachN p d,i < p.defs.length:=fun i h=>by
   unfold reachN at h
   rw [List.mem_filter,List.mem_range] at h
   exact h.1
  simp only [if_true,Int.toNat_natCast]
  have hsrcs:∀ s,SrcB p.srcs p.defs (tosR p) d p.defs.length s=true↔SrcIn p.srcs p.defs (reachN p d++[d]) s:=fun s=>by
   rw [SrcB_iff]
   constructor
   ·rintro ⟨i,z,h1,h2,h3,h4⟩
    refine ⟨i,?_,z,h2,h4⟩
    rw [List.mem_append,hrm]
    rcases h3 with rfl|h3
    ·exact .inr (by simp)
    ·exact .inl h3
   ·rintro ⟨i,h1,z,h2,h4⟩
    refine ⟨i,z,(List.getElem?_eq_some_iff.1 h2).1,h2,?_,h4⟩
    rw [List.mem_append,hrm] at h1
    rcases h1 with h1|h1
    ·exact .inr h1
    ·exact .inl (by simpa using h1)
  unfold srcsR
  generalize reachN p d=rn at *
  generalize hSB:SrcB p.srcs p.defs (tosR p) d p.defs.length=SB at *
  clear hSB
  generalize ((p.defs.length-1:Nat):Int)=m1 at *
  generalize countR p=m2 at *
  have bf:(!true)=false:=rfl
  obtain ⟨srcs,defs⟩:=p
  simp only at *
  have hdm:(defs.map Dfn.iv).length=defs.length:=List.length_map ..
  refine Ret.of (fn:=Go.Proofs.Tryz.f64) (by kernel_rfl) rfl rfl ?_
  refine AA ?_
  refine R.op1 (O.callOwnI rfl horc rfl rfl) rfl ?_
  refine AA ?_
  refine R.op1 (O.appRow rfl rfl rfl at_upd (List.length_map ..) rfl (elems_row at_upd rfl) (by decide) (by decide) rfl rfl (by simp only [List.length_map,List.length_cons,List.length_nil,most];omega)) rfl ?_
  refine R.op0 (O.lenR rfl rfl at_upd rfl) rfl ?_
  refine AA ?_
  have hLl:(((rn.map natIV).map AV.imm)++[AV.imm (.int .i64 ((d:Nat):Int))]).length=(rn++[d]).length:=by simp
  rw [hLl]
  have hLm:(((rn++[d]).map natIV).map AV.imm).length=(rn++[d]).length:=by simp
  have hLlt:∀ i∈rn++[d],i < defs.length:=fun i h=>by
   rcases List.mem_append.1 h with h|h
   ·exact hrlt i h
   ·rw [List.mem_singleton.1 h];exact hi
  have hLn:(rn++[d]).length<=7:=by rw [List.length_append];simp;omega
  have hrow:((rn.map natIV).map AV.imm)++[AV.imm (.int .i64 ((d:Nat):Int))]=((rn++[d]).map natIV).map AV.imm:=by simp;rfl
  rw [hrow]
  generalize rn++[d]=L at *
  refine W.loop (X:=Nat) (fun j=>[(1, .imm (natIV d)),(2, .ptr 0 0),(7, .ptr 10 0),(9, .imm (setIV out)),(10, .ptr 21 0),(31, .row 24 L.length),(32, .imm (.int .i64 L.length)),(33, .imm (.int .i64 j))])
   (fun j nx G=>27<=nx/\G 0 = .box [.imm (.lst (srcs.map sv)), .imm (.lst (defs.map Dfn.iv))] false/\G 10 = .box [.imm (scopeIV ⟨srcs,defs⟩ m1 m2)] false/\G 21 = .box [.map 20] false/\G 24 = .row 3 1 ((L.map natIV).map AV.imm) false/\j<=L.length /\
    ∃ fm,G 20=setObj fm/\fm.Nodup/\(∀ s∈fm,s < srcs.length)/\∀ s,s∈fm↔SrcIn srcs defs (L.take j) s)
   (fun j=>L.length-j) 0 .auto ⟨by omega,rfl,rfl,rfl,rfl,Nat.zero_le _,[],rfl,by simp,by simp,fun s=>⟨(fun h=>by cases h),(fun ⟨_,h,_⟩=>by cases h)⟩⟩ ?_
  rintro j nx G ⟨hnx,hG0,hG10,hG21,hG24,hj,fm,hG20,hfn,hfb,hfm⟩
  rcases Bool.eq_false_or_eq_true (decide ((j:Int) < (L.length:Int))) with hcc|hcc
  ·have hlt:j < L.length:=by have:=of_decide_eq_true hcc;omega
   obtain ⟨i,hji⟩:=at_lt hlt
   have hjx:((L.map natIV).map AV.imm)[((j:Nat):Int).toNat]? = some (.imm (natIV i)):=by rw [Int.toNat_natCast];simp [hji]
   have hid:=hLlt i (List.mem_of_getElem? hji)
   obtain ⟨z,hx⟩:=at_lt hid
   have hxi:=at_map Dfn.iv hx
   have hdc:=z.cells_len
   have hm:=List.mem_of_getElem? hx
   have hf:=hfit z hm
   have hsz:=hsrc z hm
   have hr49:=ret49 z.exp
   have hmu:L.length-(j+1) < L.length-j:=by omega
   have hstep:∀ s,SrcIn srcs defs (L.take (j+1)) s↔SrcIn srcs defs (L.take j) s\/∃ x∈allE z.exp,srcIs srcs x s:=by
    intro s
    rw [List.take_add_one,hji]
    constructor
    ·rintro ⟨i',h1,y',h2,h3⟩
     rcases List.mem_append.1 h1 with h1|h1
     ·exact .inl ⟨i',h1,y',h2,h3⟩
     ·simp at h1;subst h1
      rw [hx] at h2;cases h2
      exact .inr h3
    ·rintro (⟨i',h1,y',h2,h3⟩|h3)
     ·exact ⟨i',by simp [h1],y',h2,h3⟩
     ·exact ⟨i,by simp,z,hx,h3⟩
   obtain ⟨nm,⟨o',s',n',f',c',k'⟩⟩:=z
   simp only at hf hsz hstep
   refine AA ?_
   refine W.nodes _ hf (fun k G1=>(∀ o,o < nx->o≠20->G1 o=G o)/\∃ fm1,G1 20=setObj fm1/\fm1.Nodup/\(∀ s∈fm1,s < srcs.length)/\∀ s,s∈fm1↔SrcIn srcs defs (L.take j) s\/∃ x∈(allE (.mk o' s' n' f' c' k')).take k,srcIs srcs x s) (fun _=>False) (fun _ _ _=>False)
    rfl rfl rfl rfl rfl ?_ ?_ ?_ ?_ ?_ ?_ ?_
   ·rintro k G1 G2 ⟨h1,fm1,h2,h3⟩ hG
    exact ⟨fun o h4 h5=>(hG o (by omega)).trans (h1 o h4 h5),fm1,(hG 20 (by omega)).trans h2,h3⟩
   ·intro _ _ h;exact h.elim
   ·exact ⟨fun o _ _=>rfl,fm,hG20,hfn,hfb,fun s=>by rw [hfm s];simp⟩
   ·rintro q k x G1 nx1 lp0 lp1 Φr hq hxa hn ⟨h1,fm1,h2,h3,h4,h5⟩ hlp next _ _
    have htake:∀ s,(∃ z∈(allE (.mk o' s' n' f' c' k')).take (k+1),srcIs srcs z s)↔(∃ z∈(allE (.mk o' s' n' f' c' k')).take k,srcIs srcs z s)\/srcIs srcs x s:=by
     intro s
     rw [List.take_add_one,hxa]
     simp only [List.mem_append,Option.mem_toList]
     constructor
     ·rintro ⟨z,h|h,h2⟩
      ·exact .inl ⟨z,h,h2⟩
      ·cases h;exact .inr h2
     ·rintro (⟨z,h,h2⟩|h)
      ·exact ⟨z, .inl h,h2⟩
      ·exact ⟨x, .inr rfl,h⟩
    have hxs:=hsz x (List.mem_of_getElem? hxa)
    obtain ⟨op',name',m',fold',calcs',kids'⟩:=x
    have hL1:=numLook0 srcs name'
    refine W.regionN ?_
    refine AQ ?_
    refine R.doneAstQ at_upd ?_
    refine W.gen' (fun G2=>G2 (nx1+0) = .box [.imm (.int .i64 op'), .imm (sv name'), .imm (.int .i64 m'), .imm (.int .i64 fold'), .imm (.lst (Trm.ivs calcs')), .imm (.lst (Exp.ivs kids'))] false/\G2 q=lp1/\∀ o,o < nx1->o≠q->G2 o=G1 o) ⟨at_upd,at_upd,fun o _ _=>at_upd⟩ ?_
    rintro G2 ⟨hbx,hlp2,hfr2⟩
    have h20:=(hfr2 20 (by omega) (by omega)).trans h2
    have h10:=(hfr2 10 (by omega) (by omega)).trans ((h1 10 (by omega) (by decide)).trans hG10)
    have h21:=(hfr2 21 (by omega) (by omega)).trans ((h1 21 (by omega) (by decide)).trans hG21)
    rcases Bool.eq_false_or_eq_true (op'==1) with hop|hop
    ·have hop1:op'=1:=by simpa using hop
     have hin:=hxs hop1
     refine AN ?_
     refine D.opN1 (O.setPut rfl rfl rfl h20) rfl ?_
     refine D.skip (by kernel_rfl) ?_
     refine AN ?_
     refine next (by omega) (fun o g5 g6=>?_) ⟨fun o g5 g6=>?_,addN fm1 (idxN srcs name'),upd_same _ _ _,addN_nodup h3,fun s hs=>?_,fun s=>?_⟩ at_upd
     ·rw [upd_ne _ _ _ _ (by omega)];exact hfr2 o g6 (by omega)
     ·rw [upd_ne _ _ _ _ g6,hfr2 o (by omega) (by omega),h1 o g5 g6]
     ·rcases addN_mem.1 hs with hs|rfl
      ·exact h4 s hs
      ·exact idxN_lt hin
     ·rw [addN_mem,h5 s,htake s,or_assoc]
      have:srcIs srcs (.mk op' name' m' fold' calcs' kids') s↔s=idxN srcs name':=⟨fun h=>h.2.symm,fun h=>⟨hop1,h.symm⟩⟩
      rw [this]
    ·have hop1:op'≠1:=by simpa using hop
     refine AN ?_
     refine next (by omega) (fun o g5 g6=>hfr2 o g6 (by omega)) ⟨fun o g5 g6=>?_,fm1,h20,h3,h4,fun s=>?_⟩ hlp2
     ·rw [hfr2 o (by omega) (by omega),h1 o g5 g6]
     ·rw [h5 s,htake s]
      have:¬ srcIs srcs (.mk op' name' m' fold' calcs' kids') s:=fun h=>hop1 h.1
      simp only [this,or_false]
   ·rintro G1 nx1 ⟨h1,fm1,h2,h3,h4,h5⟩ hn
    rw [List.take_length] at h5
    refine AN ?_
    exact W.skipLop (j+1) hmu .auto ⟨by omega,(h1 0 (by omega) (by decide)).trans hG0,(h1 10 (by omega) (by decide)).trans hG10,(h1 21 (by omega) (by decide)).trans hG21,(h1 24 (by omega) (by decide)).trans hG24,hlt,fm1,h2,h3,h4,fun s=>by rw [h5 s,hstep s]⟩
   ·intro _ _ h;exact h.elim
   ·intro _ _ _ h;exact h.elim
  ·have hge:L.length<=j:=by have:=of_decide_eq_false hcc;omega
   rw [List.take_of_length_le hge] at hfm
   have horc2:CC.orc 69 [setIV fm]=some (.own 3 1 (((List.range srcs.length).filter SB).map natIV)):=orcSet hfn hfb (fun s _=>by rw [hsrcs s,hfm s]) (by have:=nodup_lt hfn hfb;omega)
   refine AA ?_
   refine R.opU (O.callOwn rfl horc2 rfl (peeks_cons (vs:=[]) (peek_mpx hG20))) rfl ?_
   refine R.gen' (fun G2=>G2 (nx+1+1) = .row 3 1 ((((List.range srcs.length).filter SB).map natIV).map .imm) false) (by rw [updL_frz1,if_pos rfl]) ?_
   intro G2 hrow2
   refine AA ?_
   refine R.op1 (O.callOwnI rfl horc rfl rfl) rfl ?_
   refine AA ?_
   refine W.retFin rfl rfl ?_
   refine Rdx.peek (d:=2) (P:=fun _=>True) (Rdx.tup (d:=1) (.cons (Rdx.row (d:=0) (e:=3) (sz:=1) (fr:=false) ?_ (List.length_map ..) (All2.imms 0 _ _ _) trivial) (.cons (Rdx.row (d:=0) (e:=3) (sz:=1) (fr:=false) ?_ (List.length_map ..) (All2.imms 0 _ _ _) trivial) (.cons (.imm ..) .nil)))) (by decide)
   ·exact at_upd
   ·exact at_upd
 |false=>
  rw [hb] at hr
  unfold lookedIV at hr
  have bt:(!false)=true:=rfl
  generalize progR p=pr at *
  generalize ((p.defs.length-1:Nat):Int)=m1 at *
  generalize countR p=m2 at *
  obtain ⟨srcs,defs⟩:=p
  refine Ret.of (fn:=Go.Proofs.Tryz.f64) (by kernel_rfl) rfl rfl ?_
  cases pr with
  |true=>
   rw [if_pos rfl] at hr
   refine AA ?_
   exact W.retFin rfl rfl ⟨[],rfl⟩
  |false=>
   rw [if_neg (by decide)] at hr
   refine AA ?_
   exact W.retFin rfl rfl ⟨[],rfl⟩
end Go.Abs

/- The rings of a program, as the program finds them. -/
open Go Go.Abs
namespace Go.Abs
set_option maxRecDepth 100000
set_option maxHeartbeats 4000000
theorem ring_eq {tos:List (List Nat)} {i:Nat} (hi:i < tos.length) (hr:Reach tos i i):((List.range tos.length).filter (reachB tos i)).filter (fun k=>reachB tos k i)=ringTo (reachR tos) i tos.length:=by
 unfold ringTo
 rw [List.filter_filter]
 apply List.filter_congr
 intro k hk
 rw [List.mem_range] at hk
 rw [Bool.eq_iff_iff,inRing_iff hi hk,Bool.and_eq_true,reachB_iff,reachB_iff]
 constructor
 ·rintro ⟨a,b⟩;exact .inr ⟨b,a⟩
 ·rintro (rfl|⟨a,b⟩)
  ·exact ⟨hr,hr⟩
  ·exact ⟨b,a⟩
theorem head_ring {tos:List (List Nat)} {i:Nat} (hi:i < tos.length):(ringTo (reachR tos) i tos.length).head? = some i↔∀ k,k < i->¬ (Reach tos i k/\Reach tos k i):=by
 unfold ringTo
 have hn:tos.length=i+(tos.length-i-1+1):=by omega
 have hsplit:List.range tos.length=List.range i++(List.range (tos.length-i-1+1)).map (i + ·):=by
  conv=>lhs;rw [hn]
  rw [List.range_add]
 rw [hsplit,List.filter_append,List.range_succ_eq_map,List.map_cons,List.filter_cons]
 have hii:inRing (reachR tos) i (i+0)=true:=by unfold inRing;simp
 rw [if_pos hii]
 constructor
 ·intro h k hk hm
  have hmem:k∈(List.range i).filter (inRing (reachR tos) i):=List.mem_filter.2 ⟨List.mem_range.2 hk,(inRing_iff hi (by omega)).2 (.inr hm)⟩
  cases hf:(List.range i).filter (inRing (reachR tos) i) with
  |nil=>rw [hf] at hmem;cases hmem
  |cons a r=>
   rw [hf] at h
   simp at h
   subst h
   have:a∈(List.range a).filter (inRing (reachR tos) a):=by rw [hf];simp
   rw [List.mem_filter,List.mem_range] at this
   omega
 ·intro h
  have:(List.range i).filter (inRing (reachR tos) i)=[]:=by
   rw [List.filter_eq_nil_iff]
   intro k hk hr
   rw [List.mem_range] at hk
   rcases (inRing_iff hi (by omega)).1 hr with rfl|hm
   ·omega
   ·exact h k hk hm
  rw [this];simp
def InRing (tos:List (List Nat)) (i s:Nat):Prop:=∃ i',i' < i/\Reach tos i' i'/\Reach tos i' s/\Reach tos s i'
theorem ringIs_iff {tos:List (List Nat)} {i:Nat} (hi:i < tos.length):ringIs (reachR tos) i=true↔Reach tos i i/\¬ InRing tos i i:=by
 unfold ringIs
 rw [reachR_len,Bool.and_eq_true,at2_reach hi hi,reachB_iff,beq_iff_eq,head_ring hi]
 constructor
 ·rintro ⟨h1,h2⟩
  exact ⟨h1,fun ⟨i',h3,h4,h5,h6⟩=>h2 i' h3 ⟨h6,h5⟩⟩
 ·rintro ⟨h1,h2⟩
  exact ⟨h1,fun k hk ⟨h3,h4⟩=>h2 ⟨k,hk,h4.trans h3,h4,h3⟩⟩
theorem InRing.skip {tos:List (List Nat)} {i s:Nat} (h:¬ Reach tos i i\/InRing tos i i):InRing tos (i+1) s↔InRing tos i s:=by
 constructor
 ·rintro ⟨i',h1,h2,h3,h4⟩
  by_cases he:i'=i
  ·subst he
   rcases h with h|⟨j,g1,g2,g3,g4⟩
   ·exact absurd h2 h
   ·exact ⟨j,g1,g2,g3.trans h3,h4.trans g4⟩
  ·exact ⟨i',by omega,h2,h3,h4⟩
 ·rintro ⟨i',h1,h2⟩
  exact ⟨i',by omega,h2⟩
theorem InRing.step {tos:List (List Nat)} {i s:Nat} (h:Reach tos i i):InRing tos (i+1) s↔InRing tos i s\/(Reach tos i s/\Reach tos s i):=by
 constructor
 ·rintro ⟨i',h1,h2,h3,h4⟩
  by_cases he:i'=i
  ·subst he;exact .inr ⟨h3,h4⟩
  ·exact .inl ⟨i',by omega,h2,h3,h4⟩
 ·rintro (⟨i',h1,h2⟩|⟨h1,h2⟩)
  ·exact ⟨i',by omega,h2⟩
  ·exact ⟨i,by omega,h,h1,h2⟩
theorem ret17 (p:Pgm) (hp:p.Fits):Ret CC 21 [p.iv] (.tup [.lst ((ringsA p).map natsIV), .int .i64 (if progR p then 0 else 2)]):=by
 have hr:=ret54 p hp
 unfold lookedIV at hr
 unfold ringsA
 cases hb:progR p with
 |true=>
  rw [hb] at hr
  simp only [if_true] at hr ⊢
  have hc:=progR_count hb
  have hg:=countR_good hc
  have htos:=hg.tos
  have htl:(tosR p).length=p.defs.length:=hg.steps.2.1
  have hd6:=hg.defs
  have hreach:=fun (d:Nat) (h:d < p.defs.length)=>ret47 hp htos ((p.defs.length-1:Nat):Int) (countR p) (d:=d) (by rw [htl];exact h)
  have hrings:ringsOf p=ringsTo (reachR (tosR p)) p.defs.length:=by unfold ringsOf ringsR;rw [reachR_len,htl]
  rw [hrings]
  generalize ((p.defs.length-1:Nat):Int)=m1 at *
  generalize countR p=m2 at *
  generalize tosR p=tos at *
  obtain ⟨srcs,defs⟩:=p
  simp only at *
  have hdm:(defs.map Dfn.iv).length=defs.length:=List.length_map ..
  refine Ret.of (fn:=Go.Proofs.Tryz.f21) (by kernel_rfl) rfl rfl ?_
  refine AA ?_
  refine W.loop (X:=Nat×AV) (fun x=>[(1, .ptr 0 0),(4, .imm (scopeIV ⟨srcs,defs⟩ m1 m2)),(6, .map 9),(18, .imm (.lst (defs.map Dfn.iv))),(19, .imm (.int .i64 (defs.map Dfn.iv).length)),(20, .imm (.int .i64 x.1)),(5,x.2)])
   (fun x nx G=>11<=nx/\G 0 = .box [.imm (.lst (srcs.map sv)), .imm (.lst (defs.map Dfn.iv))] false/\(∃ ins,G 9=setObj ins/\ins.Nodup/\∀ s,s∈ins↔InRing tos x.1 s)/\x.1<=defs.length/\OwnV 1 44 1 11 nx ((ringsTo (reachR tos) x.1).map natsIV) G x.2)
   (fun x=>defs.length-x.1) (0, .nils) .auto ⟨by omega,rfl,⟨[],rfl,by simp,fun s=>⟨(fun h=>by cases h),(fun ⟨_,h,_⟩=>by omega)⟩⟩,Nat.zero_le _, .nil ..⟩ ?_
  rintro ⟨i,v⟩ nx G ⟨hnx,hG0,⟨ins,hG9,hin,him⟩,hi,ho⟩
  dsimp only at him hi ho ⊢
  rcases Bool.eq_false_or_eq_true (decide ((i:Int) < ((defs.map Dfn.iv).length:Int))) with hcc|hcc
  ·have hlt:i < defs.length:=by have:=of_decide_eq_true hcc;omega
   have hmu:defs.length-(i+1) < defs.length-i:=by omega
   obtain ⟨out,ho1,ho2,ho3,hr47⟩:=hreach i hlt
   have hset1:lookIs (some ty3) (some ty4) (mapKV G (.map 9)) (natIV i) false (.imm (.bool (ins.contains i))):=by
    simp only [mapKV,hG9,setObj];exact setLook ins i
   have hset2:=setLook out i
   have hins:ins.contains i=true↔InRing tos i i:=by rw [<-him i];simp
   have hout:out.contains i=true↔Reach tos i i:=by rw [<-ho3 i];simp
   have hsucc:=ringsTo_succ (reachR tos) i
   have skip:(¬ Reach tos i i\/InRing tos i i)->(∀ s,s∈ins↔InRing tos (i+1) s)/\ringsTo (reachR tos) (i+1)=ringsTo (reachR tos) i:=by
    intro h
    refine ⟨fun s=>by rw [him s,InRing.skip h],?_⟩
    rw [hsucc]
    have:ringIs (reachR tos) i=false:=by
     rw [Bool.eq_false_iff]
     intro h'
     have:=(ringIs_iff (by omega)).1 h'
     rcases h with h|h
     ·exact h this.1
     ·exact this.2 h
    rw [this,if_neg (by decide),List.append_nil]
   rcases Bool.eq_false_or_eq_true (ins.contains i) with hA|hA
   ·obtain ⟨s1,s2⟩:=skip (.inr (hins.1 hA))
    refine AA ?_
    refine W.skipLop (i+1,v) hmu .auto ⟨by omega,hG0,⟨ins,hG9,hin,s1⟩,hlt,?_⟩
    dsimp only
    rw [s2]
    exact ho.frame (by omega) fun _ _ _=>rfl
   rcases Bool.eq_false_or_eq_true (!out.contains i) with hB|hB
   ·have hB':out.contains i=false:=by simpa using hB
    obtain ⟨s1,s2⟩:=skip (.inl fun h=>by rw [hout.2 h] at hB';cases hB')
    refine AA ?_
    refine W.skipLop (i+1,v) hmu .auto ⟨by omega,hG0,⟨ins,hG9,hin,s1⟩,hlt,?_⟩
    dsimp only
    rw [s2]
    exact ho.frame (by omega) fun _ _ _=>rfl
   have hB':out.contains i=true:=by simpa using hB
   have hri:=hout.1 hB'
   have hni:¬ InRing tos i i:=fun h=>by rw [hins.2 h] at hA;cases hA
   have hri2:ringIs (reachR tos) i=true:=(ringIs_iff (by omega)).2 ⟨hri,hni⟩
   rw [hri2,if_pos rfl,reachR_len,<-ring_eq (by omega) hri] at hsucc
   have holen:=nodup_lt ho1 ho2
   have horc:CC.orc 69 [setIV out]=some (.own 3 1 (((List.range tos.length).filter (reachB tos i)).map natIV)):=orcSet ho1 ho2 (fun x _=>by rw [ho3 x,reachB_iff]) (by omega)
   have hLlt:∀ k∈(List.range tos.length).filter (reachB tos i),k < defs.length:=fun k h=>by
    rw [List.mem_filter,List.mem_range] at h;omega
   have hLr:∀ k∈(List.range tos.length).filter (reachB tos i),Reach tos i k:=fun k h=>by
    rw [List.mem_filter] at h;exact reachB_iff.1 h.2
   have hLa:∀ k,Reach tos i k->k∈(List.range tos.length).filter (reachB tos i):=fun k h=>by
    rw [List.mem_filter,List.mem_range];exact ⟨ho2 k ((ho3 k).2 h),reachB_iff.2 h⟩
   have hLl:((List.range tos.length).filter (reachB tos i)).length<=6:=by
    have:=List.length_filter_le (reachB tos i) (List.range tos.length)
    rw [List.length_range] at this;omega
   generalize (List.range tos.length).filter (reachB tos i)=L at *
   refine AA ?_
   refine R.op1 (O.callOwnI rfl horc rfl rfl) rfl ?_
   refine R.op0 (O.lenR rfl rfl at_upd (List.length_map ..)) rfl ?_
   refine AA ?_
   have hLm:(L.map natIV).length=L.length:=List.length_map ..
   rw [hLm]
   generalize hRR:nx+1+2+5+9+1+1=bR
   have hLm2:((L.map natIV).map AV.imm).length=L.length:=by simp
   generalize hP:(fun k=>reachB tos k i)=P at *
   have hPk:∀ k,P k=reachB tos k i:=fun k=>by rw [<-hP]
   refine W.loop (X:=Nat×AV) (fun x=>[(1, .ptr 0 0),(4, .imm (scopeIV ⟨srcs,defs⟩ m1 m2)),(6, .map 9),(7, .imm (natIV i)),(18, .imm (.lst (defs.map Dfn.iv))),(19, .imm (.int .i64 (defs.map Dfn.iv).length)),(20, .imm (.int .i64 i)),(5,v),(37, .row bR L.length),(38, .imm (.int .i64 L.length)),(39, .imm (.int .i64 x.1)),(9,x.2)])
    (fun x nx2 G2=>bR+1<=nx2/\G2 0 = .box [.imm (.lst (srcs.map sv)), .imm (.lst (defs.map Dfn.iv))] false/\G2 bR = .row 3 1 ((L.map natIV).map AV.imm) false/\(∃ insj,G2 9=setObj insj/\insj.Nodup/\∀ s,s∈insj↔s∈ins\/s∈(L.take x.1).filter P)/\x.1<=L.length/\OwnV 1 44 1 11 nx ((ringsTo (reachR tos) i).map natsIV) G2 v/\Own 3 1 (bR+1) nx2 (((L.take x.1).filter P).map natIV) G2 x.2)
    (fun x=>L.length-x.1) (0, .nils) .auto ⟨by omega,(upd_ne _ _ _ _ (by omega)).trans hG0,upd_same _ _ _,⟨ins,(upd_ne _ _ _ _ (by omega)).trans hG9,hin,fun s=>by simp⟩,Nat.zero_le _,ho.frame (Nat.le_refl _) (fun o _ h=>upd_ne _ _ _ _ (by omega)), .inl ⟨rfl,rfl⟩⟩ ?_
   rintro ⟨j,w⟩ nx2 G2 ⟨hnx2,hB0,hBR,⟨insj,hB9,hjn,hjm⟩,hj,hov,how⟩
   dsimp only at hjm hj hov how ⊢
   rcases Bool.eq_false_or_eq_true (decide ((j:Int) < (L.length:Int))) with hcj|hcj
   ·have hltj:j < L.length:=by have:=of_decide_eq_true hcj;omega
    obtain ⟨k,hjk⟩:=at_lt hltj
    have hjx:((L.map natIV).map AV.imm)[((j:Nat):Int).toNat]? = some (.imm (natIV k)):=by rw [Int.toNat_natCast];simp [hjk]
    have hkd:=hLlt k (List.mem_of_getElem? hjk)
    obtain ⟨outk,hk1,hk2,hk3,hr47k⟩:=hreach k hkd
    have hset3:=setLook outk i
    have hmu2:L.length-(j+1) < L.length-j:=by omega
    have htk:(L.take (j+1)).filter P=(L.take j).filter P++(if P k then [k] else []):=by
     rw [List.take_add_one,hjk,List.filter_append]
     congr 1
     simp only [Option.toList,List.filter_cons,List.filter_nil]
    have hPc:P k=outk.contains i:=by
     rw [hPk,Bool.eq_iff_iff,reachB_iff,<-hk3 i];simp
    have hll:((L.take j).filter P).length<=6:=by
     have h1:=List.length_filter_le P (L.take j)
     rw [List.length_take] at h1;omega
    rcases Bool.eq_false_or_eq_true (outk.contains i) with hC|hC
    ·rw [hPc,hC,if_pos rfl] at htk
     refine AA ?_
     refine R.app1 how at_upd (by simp only [List.length_map,most];omega) fun v' G' ho' hG'=>?_
     have hfr:∀ o,o < bR+1->G' o=G2 o:=fun o h=>by rw [hG' o h,upd_ne _ _ _ _ (by omega)]
     have h9:G' 9=setObj insj:=(hfr 9 (by omega)).trans hB9
     refine AA ?_
     refine R.opN1 (O.setPut rfl rfl rfl h9) ?_
     refine AA ?_
     refine W.skipLop (j+1,v') hmu2 .auto ⟨by omega,(upd_ne _ _ _ _ (by omega)).trans ((hfr 0 (by omega)).trans hB0),(upd_ne _ _ _ _ (by omega)).trans ((hfr bR (by omega)).trans hBR),⟨addN insj k,upd_same _ _ _,addN_nodup hjn,fun s=>?_⟩,hltj,hov.frame (Nat.le_refl _) (fun o h1 h2=>(upd_ne _ _ _ _ (by omega)).trans (hfr o (by omega))),?_⟩
     ·rw [addN_mem,hjm s,htk,List.mem_append,List.mem_singleton,or_assoc]
     ·show Own 3 1 (bR+1) _ (((L.take (j+1)).filter P).map natIV) _ v'
      rw [htk,List.map_append]
      exact ho'.frame (by omega) fun o h1 _=>upd_ne _ _ _ _ (by omega)
    ·rw [hPc,hC,if_neg (by decide),List.append_nil] at htk
     refine AA ?_
     refine W.skipLop (j+1,w) hmu2 .auto ⟨by omega,hB0,hBR,⟨insj,hB9,hjn,fun s=>by rw [hjm s,htk]⟩,hltj,hov,?_⟩
     show Own 3 1 (bR+1) _ (((L.take (j+1)).filter P).map natIV) _ w
     rw [htk]
     exact how.up (by omega)
   ·have hgej:L.length<=j:=by have:=of_decide_eq_false hcj;omega
    rw [List.take_of_length_le hgej] at hjm how
    refine AA ?_
    have hfit:=how.fits1
    have hrl:=ringsTo_len (reachR tos) i
    refine R.op1 (O.buildS (n:=1) (ke:=ty30) (xs:=[w]) rfl rfl rfl (by decide) rfl (by show ([w].all (AV.fits 1))=true;simp [hfit]) (by decide)) rfl ?_
    refine R.appOwnV (d':=1) (lo:=11) (hi:=nx) (ws:=[w]) (ys:=[natsIV (L.filter P)]) rfl rfl rfl (hov.frame (Nat.le_refl _) fun o _ h=>upd_ne _ _ _ _ (by omega)) rfl (by simp [elems,upd]) (by decide) (by decide) rfl (by show ([w].all (AV.fits 1))=true;simp [hfit]) (by simp only [List.length_map,List.length_cons,List.length_nil,most];omega) ⟨by omega,by omega⟩ (fun G' h1 h2=>⟨?_,trivial⟩) rfl fun v' G' ho' hG1 hG2=>?_
    ·exact how.rdx.frame (fun o ho=>by rw [h2 o (by omega) (by omega),upd_ne _ _ _ _ (by omega)]) fun o ho=>⟨by omega,by omega⟩
    ·refine AA ?_
     refine W.skipLop (i+1,v') hmu .auto ⟨by omega,by rw [hG1 0 (by omega),upd_ne _ _ _ _ (by omega)];exact hB0,⟨insj,by rw [hG1 9 (by omega),upd_ne _ _ _ _ (by omega)];exact hB9,hjn,fun s=>?_⟩,hlt,?_⟩
     ·rw [InRing.step hri,hjm s,him s,List.mem_filter,hPk,reachB_iff]
      constructor
      ·rintro (h|⟨h,h'⟩)
       ·exact .inl h
       ·exact .inr ⟨hLr s h,h'⟩
      ·rintro (h|⟨h,h'⟩)
       ·exact .inl h
       ·exact .inr ⟨hLa s h,h'⟩
     ·show OwnV 1 44 1 11 _ ((ringsTo (reachR tos) (i+1)).map natsIV) G' v'
      rw [hsucc,List.map_append]
      exact ho'.frame (by omega) fun _ _ _=>rfl
  ·have hge:defs.length<=i:=by have:=of_decide_eq_false hcc;omega
   have he:i=defs.length:=by omega
   subst he
   have hp:=ho.rdx
   refine AA ?_
   rcases ho with ⟨h0,rfl⟩|⟨o,vs,_,_,rfl,_⟩
   ·exact W.retFin2 rfl rfl ⟨[],by rw [h0];rfl⟩
   ·exact W.retFin2 rfl rfl (Rdx.peek (d:=3) (Rdx.tup (d:=2) (.cons hp (.cons (.imm ..) .nil))) (by decide))
 |false=>
  rw [hb] at hr
  simp only [Bool.false_eq_true,if_false] at hr ⊢
  obtain ⟨srcs,defs⟩:=p
  refine Ret.of (fn:=Go.Proofs.Tryz.f21) (by kernel_rfl) rfl rfl ?_
  refine AA ?_
  exact W.retFin2 rfl rfl ⟨[],rfl⟩
end Go.Abs
