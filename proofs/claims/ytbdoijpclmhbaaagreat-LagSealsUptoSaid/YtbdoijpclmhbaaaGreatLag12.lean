/- The groups of definitions, in their order, as the program finds them. -/
import Derived.Test.YtbdoijpclmhbaaaGreatLag11
open Go Go.Abs
namespace Go.Abs
set_option maxRecDepth 100000
set_option maxHeartbeats 4000000
theorem O.slNilT {C:Cfg} {id:Nat} {l:Env} {G:Nat->Obj} {nx:Nat} {df:List (AV×List AV)} {pk:Pk} {t t2 e:TypeId} {x y:Operand} {k:TyI} [hk:TyIs C t k] (hb:k.d = .sl e) (hx:lookO l x=some .nils) (hy:lookO l y=some .nils):OpV C id l G nx df pk (.binOp .eql t x y t2) (.imm (.bool true)) []:=
 O.of fun t L ht=>by simp only [opA,ht.ev hx,ht.ev hy,binA,eqAV,hk.is,hb,eqOp,Option.map_some]
theorem O.slNilF {C:Cfg} {id:Nat} {l:Env} {G:Nat->Obj} {nx:Nat} {df:List (AV×List AV)} {pk:Pk} {t t2 e:TypeId} {x y:Operand} {k:TyI} {a:IV} {r:List IV} [hk:TyIs C t k] (hb:k.d = .sl e) (hx:lookO l x=some (.imm (.lst (a::r)))) (hy:lookO l y=some .nils):OpV C id l G nx df pk (.binOp .eql t x y t2) (.imm (.bool false)) []:=
 O.of fun t L ht=>by simp only [opA,ht.ev hx,ht.ev hy,binA,eqAV,hk.is,hb,eqOp,Option.map_some]
instance fnis483:FnIs CC 183:=⟨rfl,fun _=>rfl⟩
theorem look_hd' {l:Env} {d:Nat} {v:AV}:lookO ((d,v)::l) (.tmp d)=some v:=by
 show look _ _=_
 unfold look
 rw [Nat.beq_refl]
theorem nodup_count:∀ {l:List Nat},(∀ x∈l,l.count x<=1)->l.Nodup
 |[],_=>List.nodup_nil
 |a::l,h=>by
  refine List.nodup_cons.2 ⟨fun ha=>?_,nodup_count fun x hx=>?_⟩
  ·have h1:=h a (List.mem_cons_self ..)
   rw [List.count_cons_self] at h1
   have:=List.count_pos_iff.2 ha
   omega
  ·have h1:=h x (List.mem_cons_of_mem _ hx)
   have:=List.count_le_count_cons (a:=x) (b:=a) (l:=l)
   omega
theorem rings_nodup {tos:List (List Nat)}:(ringsR (reachR tos)).flatten.Nodup:=by
 refine nodup_count fun x hx=>?_
 obtain ⟨r,hr,hxr⟩:=List.mem_flatten.1 hx
 have hxl:x < tos.length:=by
  have:=ringsTo_lt r hr x hxr
  rwa [reachR_len] at this
 have:=rings_count (tos:=tos) hxl
 unfold ringsR
 rw [reachR_len,this]
 split<;>omega
theorem rings_grp {tos:List (List Nat)} {r:List Nat} (hr:r∈ringsR (reachR tos)) {k:Nat} (hk:k∈r):r=grpR tos k:=by
 obtain ⟨f,r',hf,_,e⟩:=groups_is (List.mem_append_left _ hr)
 rw [e] at hk ⊢
 exact (grp_same hf hk).symm
theorem InIs.append {tos:List (List Nat)} {lo hi:Nat} {G:Nat->Obj} {ks ks2:List Nat} {vs vs2:List AV} (h:InIs tos lo hi G ks vs) (h2:InIs tos lo hi G ks2 vs2):InIs tos lo hi G (ks++ks2) (vs++vs2) where
 len:=by rw [List.length_append,List.length_append,h.len,h2.len]
 row:=fun i k w hk hw=>by
  by_cases hi:i < ks.length
  ·rw [List.getElem?_append_left hi] at hk
   rw [List.getElem?_append_left (by rw [h.len];exact hi)] at hw
   exact h.row i k w hk hw
  ·rw [List.getElem?_append_right (by omega)] at hk
   rw [List.getElem?_append_right (by rw [h.len];omega),h.len] at hw
   exact h2.row _ k w hk hw
theorem InIs.one {tos:List (List Nat)} {lo hi k:Nat} {G:Nat->Obj} {w:AV} (h:RowF lo hi G w (grpR tos k)):InIs tos lo hi G [k] [w]:=⟨rfl,fun i k' w' h1 h2=>by
 cases i with
 |zero=>cases h1;cases h2;exact h
 |succ i=>simp at h1⟩
noncomputable def grpV (tos:List (List Nat)) (ks:List Nat):List AV:=ks.map fun k => .imm (natsIV (grpR tos k))
theorem grp_snoc (tos:List (List Nat)) (A:List Nat) (k:Nat) {w:IV} (hw:w=natsIV (grpR tos k)):Obj.mp (A.map natIV++[natIV k]) (grpV tos A++[.imm w]) false = .mp ((A++[k]).map natIV) (grpV tos (A++[k])) false:=by
 subst hw;unfold grpV;simp
theorem InIs.grp (tos:List (List Nat)) (lo hi:Nat) (G:Nat->Obj) (ks:List Nat):InIs tos lo hi G ks (grpV tos ks):=⟨by simp [grpV],fun i k w h1 h2=>by
 unfold grpV at h2
 rw [List.getElem?_map,h1] at h2
 cases h2
 exact .inl rfl⟩
theorem InIs.first {tos:List (List Nat)} {A B:List Nat} {ws:List AV} {d:Nat} (hd:d∈A):lookIs (some ty3) (some ty30) (some ((A++B).map natIV,grpV tos A++ws)) (natIV d) false (.imm (natsIV (grpR tos d))):=by
 have hc:A.contains d=true:=List.contains_iff_mem.2 hd
 rw [<-findIdx_contains'] at hc
 obtain ⟨j,hj⟩:=Option.isSome_iff_exists.1 hc
 have hlt:=findIdx_lt' hj
 refine ⟨rfl, .inl ⟨j,_,?_,?_,rfl⟩⟩
 ·rw [natKey,List.findIdx?_append,hj];rfl
 ·unfold grpV
  rw [List.getElem?_append_left (by simpa using hlt),List.getElem?_map,findIdx_at' hj];rfl
def loneN (A:List Nat) (d:Nat):List Nat:=(List.range d).filter fun k => !A.contains k
theorem loneN_succ (A:List Nat) (d:Nat):loneN A (d+1)=loneN A d++(if d∈A then [] else [d]):=by
 unfold loneN
 rw [List.range_succ,List.filter_append]
 congr 1
 by_cases h:d∈A<;>simp [h]
theorem loneN_not (A:List Nat) (d:Nat):d∉loneN A d:=fun h=>by
 have:=List.mem_range.1 (List.mem_filter.1 h).1
 omega
theorem RowF.soft {lo hi hi':Nat} {G G':Nat->Obj} {w:AV} {g:List Nat} (h:RowF lo hi G w g) (hh:hi<=hi') (hG:∀ o,lo<=o->o < hi->G' o=G o\/G' o=(G o).freeze):RowF lo hi' G' w g:=by
 rcases h with h|⟨o,fr,h0,h1,h2,h3⟩
 ·exact .inl h
 ·rcases hG o h0 h1 with h4|h4
  ·exact .inr ⟨o,fr,h0,by omega,h2,by rw [h4];exact h3⟩
  ·exact .inr ⟨o,true,h0,by omega,h2,by rw [h4,h3];rfl⟩
theorem InIs.soft {tos:List (List Nat)} {lo hi hi':Nat} {G G':Nat->Obj} {ks:List Nat} {vs:List AV} (h:InIs tos lo hi G ks vs) (hh:hi<=hi') (hG:∀ o,lo<=o->o < hi->G' o=G o\/G' o=(G o).freeze):InIs tos lo hi' G' ks vs:=
 ⟨h.len,fun i k w h1 h2=>(h.row i k w h1 h2).soft hh hG⟩
theorem RowF.len {lo hi:Nat} {G:Nat->Obj} {w:AV} {g:List Nat} {e:TypeId} (h:RowF lo hi G w g):lenA G (.sl e) w=some g.length:=by
 rcases h with rfl|⟨o,fr,_,_,rfl,h3⟩
 ·show some _=_;rw [List.length_map,List.length_map]
 ·simp [lenA,elems,h3]
section
variable {nt:Nat} {ol r:List Oper} {base i:Nat} {l:Env} {G:Nat->Obj} {nx:Nat} {df:List (AV×List AV)} {pk:Pk} {Φ:Out->Prop} {x y:Operand} {ty1 ty2:TypeId} {pos1 pos2:String} {af1 af2:Array Edge} {d d1 d2 lo hi j k:Nat} {w:AV} {g:List Nat} {ats:Array TypeId}
theorem R.natAt (hr:RowF lo hi G w g) (hk:g[j]? = some k) (hx:lookO l x=some w) (hy:lookO l y=some (.imm (.int .i64 j))) (hd1:Nat.ble (d1+1) nt=true) (hd2:Nat.ble (d2+1) nt=true)
  (next:∀ a,R CC nt ol base (i+1+1) r ((d2, .imm (natIV k))::(d1,a)::l) G nx df pk Φ) :
  R CC nt ol base i (⟨some d1, .indexAddr 44 x y,ty1,pos1,af1,none⟩::⟨some d2, .load 3 (.tmp d1),ty2,pos2,af2,none⟩::r) l G nx df pk Φ:=by
 have hs:=(List.getElem?_eq_some_iff.1 hk).1
 rcases hr with rfl|⟨o,fr,_,_,rfl,hG⟩
 ·have hi:=at_map natIV hk
  exact R.op0 (O.addrX rfl inferInstance hx hy (by omega) hi rfl) hd1 (R.op0 (O.load1 look_hd' hi rfl rfl rfl) hd2 (next _))
 ·have hi:((g.map natIV).map AV.imm)[(j:Int).toNat]? = some (.imm (natIV k)):=by rw [Int.toNat_natCast,List.getElem?_map,List.getElem?_map,hk];rfl
  exact R.op0 (O.addrRX rfl inferInstance hx hy hG (by simp) (by omega) rfl) hd1 (R.op0 (O.loadRX look_hd' hG (by simp) hi rfl rfl rfl) hd2 (next _))
theorem R.cloneN (hrow:RowF lo hi G w g) (hg:g.length<=1000) (hx:lookO l x=some w) (hd:Nat.ble (d+1) nt=true) (hid:hi<=base+i)
  (next:∀ G',G' (base+i) = .row 3 1 ((g.map natIV).map .imm) false->(∀ o,o≠base+i->G' o=G o\/(lo<=o/\o < hi/\G' o=(G o).freeze))->R CC nt ol base (i+1) r ((d, .row (base+i) g.length)::l) G' nx df pk Φ) :
  R CC nt ol base i (⟨some d, .call { callee := .value (.func 205),args := #[x],argTypes:=ats },ty1,pos1,af1,none⟩::r) l G nx df pk Φ:=by
 have horc:CC.orc 205 [.lst (g.map natIV)]=some (.own 3 1 (g.map natIV)):=by
  show (if _ then _ else _)=_
  rw [if_pos ⟨natKeys_int g,by rw [List.length_map];omega⟩]
 have hl:(g.map natIV).length=g.length:=List.length_map ..
 rw [<-hl] at next
 have hxs:looks l [x]=some [w]:=by simp [looks,hx]
 rcases hrow with rfl|⟨o,fr,h0,h1,rfl,h3⟩
 ·exact R.op1 (O.callOwnI rfl horc hxs rfl) hd (next _ (upd_same ..) fun o ho => .inl (upd_ne _ _ _ _ ho))
 ·refine R.opU (O.callOwn rfl horc hxs (peeks_one (peek_row1 h3 (by simp)) peeks_nil)) hd (next _ ?_ fun q hq=>?_)
  ·exact (updL_frz1 (q:=o)).trans (if_pos rfl)
  ·by_cases e:q=o
   ·subst e
    exact .inr ⟨h0,h1,updL_frz1.trans ((if_neg hq).trans (if_pos rfl))⟩
   ·exact .inl (updL_frz1.trans ((if_neg hq).trans (if_neg e)))
end
theorem ret483 {p:Pgm} (hp:p.Fits) (hpr:progR p=true):Ret CC 183 [p.iv] (.lst ((orderR (tosR p)).map natsIV)):=by
 have hg:=progR_good hpr
 have hn:(tosR p).length=p.defs.length:=hg.steps.2.1
 have hd6:=hg.defs
 have h17:=ret17 p hp
 have hra:ringsA p=ringsOf p:=by unfold ringsA;rw [if_pos hpr]
 rw [hra,if_pos hpr] at h17
 have h503:=@cal503 p hp
 refine Ret.of (fn:=Go.Proofs.Tryz.f183) (by kernel_rfl) rfl rfl ?_
 have hfn:=rings_nodup (tos:=tosR p)
 have hrg:=fun r hr k hk=>rings_grp (tos:=tosR p) (r:=r) hr (k:=k) hk
 have hrl:=ringsOf_len hg
 have hrs:=ringsOf_le hg
 have hrm:=fun k=>rings_mem (tos:=tosR p) (k:=k)
 change (ringsOf p).flatten.Nodup at hfn
 change ∀ r∈ringsOf p,∀ k∈r,r=grpR (tosR p) k at hrg
 change ∀ k,(∃ r∈ringsOf p,k∈r)↔_ at hrm
 generalize ringsOf p=rings at *
 generalize tosR p=tos at *
 obtain ⟨srcs,defs⟩:=p
 have hrml:(rings.map natsIV).length=rings.length:=List.length_map ..
 refine BB ?_
 refine W.loop (X:=Nat) (fun i=>[(1, .ptr 0 0),(5, .ptr 10 0),(23, .imm (.lst (rings.map natsIV))),(24, .imm (.int .i64 (rings.map natsIV).length)),(25, .imm (.int .i64 i))])
  (fun i nx G=>11<=nx/\i<=rings.length/\G 0 = .box [.imm (.lst (srcs.map sv)), .imm (.lst (defs.map Dfn.iv))] false/\G 10 = .box [.map 9] false/\G 9 = .mp ((rings.take i).flatten.map natIV) (grpV tos (rings.take i).flatten) false)
  (fun i=>rings.length-i) 0 .auto ⟨by decide,Nat.zero_le _,rfl,rfl,rfl⟩ ?_
 rintro i nx G ⟨hnx,hi,g0,g10,g9⟩
 refine BB ?_
 refine W.cond rfl (fun h1=>?_) (fun h1=>?_)
 ·have h1':i < rings.length:=by have:=of_decide_eq_true h1;rw [hrml] at this;omega
  obtain ⟨r,hr⟩:=at_lt h1'
  have hri:=at_map natsIV hr
  have hrk:=hrg r (List.mem_of_getElem? hr)
  have hmu:rings.length-(i+1) < rings.length-i:=by omega
  have hr6:=hrs r (List.mem_of_getElem? hr)
  have hrml2:(r.map natIV).length=r.length:=List.length_map ..
  have htk:(rings.take (i+1)).flatten=(rings.take i).flatten++r:=by rw [List.take_add_one,hr,List.flatten_append];simp
  refine BB ?_
  refine W.loop (X:=Nat) (fun j=>[(1, .ptr 0 0),(5, .ptr 10 0),(7, .imm (natsIV r)),(23, .imm (.lst (rings.map natsIV))),(24, .imm (.int .i64 (rings.map natsIV).length)),(25, .imm (.int .i64 i)),(29, .imm (natsIV r)),(30, .imm (.int .i64 (r.map natIV).length)),(31, .imm (.int .i64 j))])
   (fun j nx G=>11<=nx/\j<=r.length/\G 0 = .box [.imm (.lst (srcs.map sv)), .imm (.lst (defs.map Dfn.iv))] false/\G 10 = .box [.map 9] false/\G 9 = .mp (((rings.take i).flatten++r.take j).map natIV) (grpV tos ((rings.take i).flatten++r.take j)) false)
   (fun j=>r.length-j) 0 .auto ⟨by omega,Nat.zero_le _,g0,g10,by simpa using g9⟩ ?_
  clear g0 g10 g9
  rintro j nx2 G2 ⟨hnx2,hj,g0,g10,g9⟩
  refine BB ?_
  refine W.cond rfl (fun h2=>?_) (fun h2=>?_)
  ·have h2':j < r.length:=by have:=of_decide_eq_true h2;rw [hrml2] at this;omega
   obtain ⟨k,hk⟩:=at_lt h2'
   have hki:=at_map natIV hk
   have hmu2:r.length-(j+1) < r.length-j:=by omega
   have hnew:((rings.take i).flatten++r.take j).contains k=false:=by
    rw [List.contains_eq_mem,decide_eq_false_iff_not]
    intro hc
    have hsp:rings.flatten=((rings.take i).flatten++r.take j)++(k::(r.drop (j+1)++(rings.drop (i+1)).flatten)):=by
     have e1:rings=rings.take i++r::rings.drop (i+1):=by
      have:=List.getElem_cons_drop h1'
      rw [(List.getElem?_eq_some_iff.1 hr).2] at this
      rw [this,List.take_append_drop]
     have e2:r=r.take j++k::r.drop (j+1):=by
      have:=List.getElem_cons_drop h2'
      rw [(List.getElem?_eq_some_iff.1 hk).2] at this
      rw [this,List.take_append_drop]
     conv=>lhs;rw [e1,List.flatten_append,List.flatten_cons,e2]
     simp [List.append_assoc]
    rw [hsp,List.nodup_append] at hfn
    exact hfn.2.2 k hc k (List.mem_cons_self ..) rfl
   have hkn:=setNew hnew
   refine BB ?_
   refine R.opN1 (O.mapNew (k:=ty561) (kk:=ty3) rfl inferInstance rfl rfl rfl g9 rfl hkn) ?_
   refine BB ?_
   refine W.skipLop (j+1) hmu2 .auto ⟨by omega,h2',?_,?_,?_⟩
   ·rw [upd_ne _ _ _ _ (by omega)];exact g0
   ·rw [upd_ne _ _ _ _ (by omega)];exact g10
   ·have e1:(rings.take i).flatten++r.take (j+1)=((rings.take i).flatten++r.take j)++[k]:=by rw [List.take_add_one,hk,<-List.append_assoc];rfl
    have ev:natsIV r=natsIV (grpR tos k):=congrArg natsIV (hrk k (List.mem_of_getElem? hk))
    rw [upd_same,e1]
    exact grp_snoc tos _ k ev
  ·have h2':¬ j < r.length:=by have:=of_decide_eq_false h2;rw [hrml2] at this;omega
   rw [List.take_of_length_le (l:=r) (by omega),<-htk] at g9
   refine BB ?_
   exact W.skipLop (i+1) hmu .auto ⟨by omega,h1',g0,g10,g9⟩
 ·have h1':¬ i < rings.length:=by have:=of_decide_eq_false h1;rw [hrml] at this;omega
  rw [List.take_of_length_le (l:=rings) (by omega)] at g9
  refine BB ?_
  have hdm:(defs.map Dfn.iv).length=defs.length:=List.length_map ..
  have hd6':defs.length<=6:=hd6
  refine W.loop (X:=Nat×List AV) (fun x=>[(1, .ptr 0 0),(5, .ptr 10 0),(42, .imm (.int .i64 (defs.map Dfn.iv).length)),(43, .imm (.int .i64 x.1))])
   (fun x nx G=>11<=nx/\x.1<=defs.length/\G 0 = .box [.imm (.lst (srcs.map sv)), .imm (.lst (defs.map Dfn.iv))] false/\G 10 = .box [.map 9] false/\G 9 = .mp ((rings.flatten++loneN rings.flatten x.1).map natIV) (grpV tos rings.flatten++x.2) false/\InIs tos 11 nx G (loneN rings.flatten x.1) x.2)
   (fun x=>defs.length-x.1) (0,[]) .auto ⟨by omega,Nat.zero_le _,g0,g10,by simpa [loneN] using g9,⟨rfl,fun i k w h=>by simp [loneN] at h⟩⟩ ?_
  clear g0 g10 g9
  rintro ⟨d,ws⟩ nx2 G2 ⟨hnx2,hd,g0,g10,g9,hin⟩
  dsimp only at hd g9 hin ⊢
  refine BN ?_
  refine W.cond rfl (fun h2=>?_) (fun h2=>?_)
  ·have hlt:d < defs.length:=by have:=of_decide_eq_true h2;omega
   have hmu:defs.length-(d+1) < defs.length-d:=by omega
   have hsucc:=loneN_succ rings.flatten d
   by_cases hdr:d∈rings.flatten
   ·rw [if_pos hdr,List.append_nil] at hsucc
    have hlk:=InIs.first (tos:=tos) (B:=loneN rings.flatten d) (ws:=ws) hdr
    obtain ⟨f,r,hfr⟩:∃ f r,grpR tos d=f::r:=by
     cases hg:grpR tos d with
     |nil=>have:=grp_self (tos:=tos) (d:=d) (by rw [hn];exact hlt);rw [hg] at this;cases this
     |cons f r=>exact ⟨f,r,rfl⟩
    rw [hfr] at hlk
    have hlk':lookIs (some ty3) (some ty30) (mapKV G2 (.map 9)) (natIV d) false (.imm (natsIV (f::r))):=by simp only [mapKV,g9];exact hlk
    refine BN ?_
    refine R.op0 (O.slNilF (a:=natIV f) (r:=r.map natIV) rfl rfl rfl) rfl ?_
    refine BN ?_
    exact W.skipLop (d+1,ws) hmu .auto ⟨by omega,hlt,g0,g10,by rw [hsucc];exact g9,by rw [hsucc];exact hin.frame (by omega) fun _ _ _=>rfl⟩
   ·rw [if_neg hdr] at hsucc
    have hdn:d∉rings.flatten++loneN rings.flatten d:=fun hc=>(List.mem_append.1 hc).elim hdr (loneN_not _ _)
    have hlk:lookIs (some ty3) (some ty30) (mapKV G2 (.map 9)) (natIV d) false .nils:=by simp only [mapKV,g9];exact InIs.miss hdn
    have hal:grpR tos d=[d]:=grp_alone (by rw [hn];exact hlt) fun hc=>hdr (by
     obtain ⟨r,hr1,hr2⟩:=(hrm d).2 ⟨by rw [hn];exact hlt,hc⟩
     exact List.mem_flatten.2 ⟨r,hr1,hr2⟩)
    have hkn:=setNew (l:=rings.flatten++loneN rings.flatten d) (k:=d) (by rw [List.contains_eq_mem];exact decide_eq_false hdn)
    refine BN ?_
    refine R.op0 (O.slNilT rfl rfl rfl) rfl ?_
    refine BN ?_
    refine R.opN1 (O.mapNew (k:=ty561) (kk:=ty3) rfl inferInstance rfl rfl rfl at_upd rfl hkn) ?_
    refine BN ?_
    refine W.skipLop (d+1,ws++[.row (nx2+1+2+4+3) 1]) hmu .auto ⟨by omega,hlt,at_upd,at_upd,?_,?_⟩
    ·rw [upd_same,hsucc,<-List.append_assoc,List.append_assoc (grpV _ _),List.map_append (l₂:=[d])]
     rfl
    ·rw [hsucc]
     refine InIs.append (hin.frame (by omega) fun o h1 h2=>?_) (InIs.one ?_)
     ·rw [upd_ne _ _ _ _ (by omega),upd_ne _ _ _ _ (by omega)]
     ·rw [hal]
      exact .inr ⟨nx2+1+2+4+3,false,by omega,by omega,rfl,(upd_ne _ _ _ _ (by omega)).trans (upd_same ..)⟩
  ·have h2':¬ d < defs.length:=by have:=of_decide_eq_false h2;omega
   have:d=defs.length:=by omega
   subst this
   generalize hks:rings.flatten++loneN rings.flatten defs.length=ks at *
   have hall:∀ d,d < defs.length->d∈ks:=fun d hd=>by
    rw [<-hks]
    by_cases hdr:d∈rings.flatten
    ·exact List.mem_append_left _ hdr
    ·refine List.mem_append_right _ ?_
     unfold loneN
     exact List.mem_filter.2 ⟨List.mem_range.2 hd,by simpa using hdr⟩
   have hIn:InIs tos 11 nx2 G2 ks (grpV tos rings.flatten++ws):=by rw [<-hks];exact (InIs.grp tos 11 nx2 G2 _).append hin
   generalize grpV tos rings.flatten++ws=vs at *
   clear hin hks hrm hrg hfn
   refine BN ?_
   refine W.loop (X:=List Nat×List (List Nat)×AV) (fun x=>[(1, .ptr 0 0),(5, .ptr 10 0),(11, .ptr (nx2+1+1) 0),(12, .fn (.func 203) [.ptr 0 0, .ptr (nx2+1+1) 0, .ptr 10 0]),(13,x.2.2)])
    (fun x nx G=>nx2+3<=nx/\G 0 = .box [.imm (.lst (srcs.map sv)), .imm (.lst (defs.map Dfn.iv))] false/\G 10 = .box [.map 9] false/\G 9 = .mp (ks.map natIV) vs false/\InIs tos 11 nx2 G ks vs/\G (nx2+1+1) = .box [.map (nx2+1+0)] false/\G (nx2+1+0)=setObj x.1 /\
     OwnV 1 44 1 (nx2+3) nx (x.2.1.map natsIV) G x.2.2/\DoneIs tos x.1/\x.2.1++orderTo tos (tos.length-x.2.1.length) x.1=orderR tos/\x.2.1.length<=x.1.length)
    (fun x=>tos.length-x.1.length) ([],[], .nils) .auto ⟨by omega,at_upd,at_upd,at_upd,hIn.frame (Nat.le_refl _) fun o h1 h2=>at_upd,upd_same ..,(upd_ne _ _ _ _ (by omega)).trans ((upd_ne _ _ _ _ (by omega)).trans (upd_same ..)), .inl ⟨rfl,rfl⟩,DoneIs.nil,rfl,Nat.le_refl _⟩ ?_
   clear g0 g10 g9 hIn
   rintro ⟨done,out,v⟩ nx3 G3 ⟨hnx3,g0,g10,g9,hin,gb,gQ,hout,hdone,hord,hle⟩
   dsimp only at gQ hout hdone hord hle ⊢
   have hdl:=hdone.len
   have hsm:(List.map sv srcs).length=srcs.length:=List.length_map ..
   refine BN ?_
   refine R.op0 (O.len (m:=done.length) rfl (by show lenA G3 (.mp _ _) (.map _)=_;simp only [lenA,gQ,setObj,List.length_map])) rfl ?_
   refine BN ?_
   refine W.cond rfl (fun h3=>?_) (fun h3=>?_)
   ·have hlt:done.length < tos.length:=by have:=of_decide_eq_true h3;rw [List.length_map] at this;have hn':tos.length=defs.length:=hn;have this:(done.length:Int) < (defs.length:Int):=this;omega
    obtain ⟨dn,hdn,_,_⟩:=next_some hlt
    refine BN ?_
    refine W.loop (X:=Nat) (fun d=>[(1, .ptr 0 0),(5, .ptr 10 0),(11, .ptr (nx2+1+1) 0),(12, .fn (.func 203) [.ptr 0 0, .ptr (nx2+1+1) 0, .ptr 10 0]),(13,v),(65, .imm (.int .i64 (defs.map Dfn.iv).length)),(66, .imm (.int .i64 d))])
     (fun d nx G=>nx3<=nx/\(∀ o,o < nx3->G o=G3 o)/\d<=defs.length/\∀ e,e < d->readyR tos done e=false) (fun d=>defs.length-d) 0 .auto ⟨by omega,fun _ _=>rfl,Nat.zero_le _,fun _ h=>absurd h (Nat.not_lt_zero _)⟩ ?_
    rintro d nx4 G4 ⟨hnx4,hG4,hd4,hno⟩
    refine BN ?_
    refine W.cond rfl (fun h4=>?_) (fun h4=>?_)
    ·have hd:d < defs.length:=by have:=of_decide_eq_true h4;omega
     have hmu4:defs.length-(d+1) < defs.length-d:=by omega
     have hdk:=hall d hd
     have hcal:=fun nx5 (h:nx4<=nx5)=>h503 (done:=done) (ks:=ks) (vs:=vs) (pb:=0) (dp:=nx2+1+1) (md:=nx2+1+0) (ip:=10) (mi:=9) (lo:=11) (hi:=nx2) (d:=d) hpr hd hdk (G:=G4) (nx:=nx5) (by omega) ((hG4 _ (by omega)).trans g0) (by omega) ((hG4 _ (by omega)).trans gb) ((hG4 _ (by omega)).trans gQ) ((hG4 _ (by omega)).trans g10) ((hG4 _ (by omega)).trans g9) (hin.frame (Nat.le_refl _) fun o _ ho=>hG4 o (by omega))
     refine BN ?_
     refine R.callB rfl rfl rfl rfl rfl ((hcal _ (by omega)).mono fun v5 G5 nx5 hv=>?_)
     obtain ⟨rfl,hn5,hG5⟩:=hv
     have c5:∀ o,o < nx3->G5 o=G3 o:=fun o ho=>(hG5 o (by omega)).trans (hG4 o ho)
     cases hr:readyR tos done d with
     |false=>
      refine BN ?_
      exact W.skipLop (d+1) hmu4 .auto ⟨by omega,c5,hd,fun e he=>by
       rcases Nat.lt_or_eq_of_le (Nat.le_of_lt_succ he) with h|rfl
       ·exact hno e h
       ·exact hr⟩
     |true=>
      have hdt:d < tos.length:=by rw [hn];exact hd
      have hnx:=next_is hdt hr hno
      have hnd:d∉done:=(ready_iff.1 hr).1
      have hin5:InIs tos 11 nx2 G5 ks vs:=hin.frame (Nat.le_refl _) fun o _ ho=>c5 o (by omega)
      obtain ⟨w,hlk,hrow⟩:=hin5.look hdk
      have hlk':lookIs (some ty3) (some ty30) (mapKV G5 (.map 9)) (natIV d) false w:=by simp only [mapKV,c5 9 (by omega),g9];exact hlk
      have hgl:(grpR tos d).length<=6:=by
       have:=nodup_lt (grp_nodup (tos:=tos) d) (fun k hk=>grp_lt hk)
       omega
      have hg0:0 < (grpR tos d).length:=List.length_pos_of_mem (grp_self hdt)
      have g105:=(c5 10 (by omega)).trans g10
      refine BN ?_
      refine R.cloneN hrow (by omega) rfl rfl (by omega) fun G6 h61 h62=>?_
      have c6:∀ o,o < nx3->nx2<=o\/o < 11->G6 o=G3 o:=fun o ho ho2=>(h62 o (by omega)).elim (fun h=>h.trans (c5 o ho)) fun h=>by omega
      have hl1:out.length+1<=1000:=by omega
      refine BN ?_
      refine R.appOwnV (d':=1) (lo:=nx2+3) (hi:=nx3) (ws:=[.row (nx5+4) (grpR tos d).length]) (ys:=[natsIV (grpR tos d)]) rfl rfl rfl (hout.frame (Nat.le_refl _) fun o h1 h2=>(upd_ne _ _ _ _ (by omega)).trans (c6 o h2 (.inl (by omega)))) rfl (by simp [elems,upd]) (by decide) (by decide) rfl rfl (by simp only [List.length_map,List.length_cons,List.length_nil,most];omega) ⟨by omega,by omega⟩ (fun G' h1 h2=>⟨?_,trivial⟩) rfl fun v' G7 ho7 h71 h72=>?_
      ·refine Rdx.row (G:=G') (e:=3) (sz:=1) (fr:=false) ((h2 _ (by omega) (by omega)).trans ((upd_ne _ _ _ _ (by omega)).trans h61)) (by simp) (All2.imms 0 _ _ _) ⟨by omega,by omega⟩
      ·have c7:∀ o,o < nx2+3->(nx2<=o\/o < 11)->G7 o=G3 o:=fun o ho ho2=>(h71 o ho).trans ((upd_ne _ _ _ _ (by omega)).trans (c6 o (by omega) ho2))
       have hsoft:∀ o,11<=o->o < nx2->G7 o=G5 o\/G7 o=(G5 o).freeze:=fun o h1 h2=>by
        rw [h71 o (by omega),upd_ne _ _ _ _ (by omega)]
        exact (h62 o (by omega)).elim .inl fun h => .inr h.2.2
       have in7:=hin5.soft (Nat.le_refl _) hsoft
       have row7:=hrow.soft (Nat.le_refl _) hsoft
       have g07:=(c7 0 (by omega) (by omega)).trans g0
       have g107:=(c7 10 (by omega) (by omega)).trans g10
       have g97:=(c7 9 (by omega) (by omega)).trans g9
       have gb7:=(c7 _ (by omega) (by omega)).trans gb
       have gQ7:=(c7 _ (by omega) (by omega)).trans gQ
       have hlk7:lookIs (some ty3) (some ty30) (mapKV G7 (.map 9)) (natIV d) false w:=by simp only [mapKV,g97];exact hlk
       have hout7:OwnV 1 44 1 (nx2+3) (nx5+8) ((out++[grpR tos d]).map natsIV) G7 v':=by
        rw [List.map_append]
        exact ho7.frame (by omega) fun _ _ _=>rfl
       have hstep:=hdone.step hdt hnd
       have hord2:(out++[grpR tos d])++orderTo tos (tos.length-(out++[grpR tos d]).length) (done++grpR tos d)=orderR tos:=by
        rw [<-hord,List.append_assoc,List.length_append]
        congr 1
        rw [show tos.length-out.length=(tos.length-(out.length+[grpR tos d].length))+1 by simp only [List.length_cons,List.length_nil];omega,orderTo,hnx]
        rfl
       have hle2:(out++[grpR tos d]).length<=(done++grpR tos d).length:=by rw [List.length_append,List.length_append];simp only [List.length_cons,List.length_nil];omega
       have hmu3:tos.length-(done++grpR tos d).length < tos.length-done.length:=by rw [List.length_append];omega
       have hap:∀ k∈grpR tos d,k∉done:=fun k hk=>hdone.apart hdt hnd hk
       have hgn:=grp_nodup (tos:=tos) d
       generalize grpR tos d=g at *
       clear hlk' hlk hrow hin5 c5 c6 h61 h62 h71 h72 hsoft hcal
       refine BN ?_
       refine R.op0 (O.len (m:=g.length) rfl (row7.len)) rfl ?_
       refine BN ?_
       refine W.loop (X:=Nat) (fun j=>[(1, .ptr 0 0),(5, .ptr 10 0),(11, .ptr (nx2+1+1) 0),(12, .fn (.func 203) [.ptr 0 0, .ptr (nx2+1+1) 0, .ptr 10 0]),(13,v'),(81,w),(82, .imm (.int .i64 g.length)),(83, .imm (.int .i64 j))])
        (fun j nx G=>nx5+8<=nx/\j<=g.length/\G (nx2+1+0)=setObj (done++g.take j)/\∀ o,o≠nx2+1+0->G o=G7 o) (fun j=>g.length-j) 0 .auto ⟨by omega,Nat.zero_le _,by simpa using gQ7,fun _ _=>rfl⟩ ?_
       rintro j nx8 G8 ⟨hnx8,hj,gQ8,hG8⟩
       refine BN ?_
       refine W.cond rfl (fun h5=>?_) (fun h5=>?_)
       ·have hjl:j < g.length:=by have:=of_decide_eq_true h5;omega
        have hmu5:g.length-(j+1) < g.length-j:=by omega
        have hk:=List.getElem?_eq_getElem hjl
        have hnew:(done++g.take j).contains g[j]=false:=by
         rw [List.contains_eq_mem,decide_eq_false_iff_not]
         intro hc
         rcases List.mem_append.1 hc with hc|hc
         ·exact hap _ (List.getElem_mem hjl) hc
         ·obtain ⟨i',hi',he⟩:=List.mem_iff_getElem.1 hc
          rw [List.length_take] at hi'
          rw [List.getElem_take] at he
          have:=(List.getElem_inj hgn).1 he
          omega
        have row8:RowF 11 nx2 G8 w g:=row7.frame (Nat.le_refl _) fun o _ ho=>hG8 o (by omega)
        have gb8:=(hG8 (nx2+1+1) (by omega)).trans gb7
        refine BN ?_
        refine R.natAt row8 hk rfl rfl rfl rfl fun a=>?_
        refine BN ?_
        refine R.opN1 (O.mapNew rfl inferInstance rfl rfl rfl gQ8 rfl (setNew hnew)) ?_
        refine BN ?_
        refine W.skipLop (j+1) hmu5 .auto ⟨by omega,hjl,?_,fun o ho=>(upd_ne _ _ _ _ ho).trans (hG8 o ho)⟩
        rw [upd_same,List.take_add_one,hk,<-List.append_assoc]
        exact (setObj_add _ _).symm
       ·have hge:j=g.length:=by have:=of_decide_eq_false h5;omega
        subst hge
        rw [List.take_length] at gQ8
        refine BN ?_
        refine W.skipLop (done++g,out++[g],v') hmu3 .auto ⟨by omega,(hG8 _ (by omega)).trans g07,(hG8 _ (by omega)).trans g107,(hG8 _ (by omega)).trans g97,in7.frame (Nat.le_refl _) fun o _ ho=>hG8 o (by omega),(hG8 _ (by omega)).trans gb7,gQ8,hout7.frame (by omega) fun o h1 h2=>hG8 o (by omega),hstep,hord2,hle2⟩
    ·have hge:defs.length<=d:=by have:=of_decide_eq_false h4;omega
     exfalso
     have h1:=next_inv hdn
     have hn':tos.length=defs.length:=hn
     rw [hno dn (by omega)] at h1
     exact absurd h1.2.1 (by decide)
   ·have hge:tos.length<=done.length:=by have:=of_decide_eq_false h3;rw [List.length_map] at this;have hn':tos.length=defs.length:=hn;have this:¬ (done.length:Int) < (defs.length:Int):=this;omega
    rw [orderTo_end hdone hge,List.append_nil] at hord
    rw [<-hord]
    refine BN ?_
    exact W.retFin1 rfl (hout.rdx.peek (by decide))
end Go.Abs

/- The program: the groups of definitions, in their order, or the error. -/
open Go Go.Abs
namespace Go.Abs
set_option maxRecDepth 100000
set_option maxHeartbeats 4000000
instance fnis437:FnIs CC 137:=⟨rfl,fun _=>rfl⟩
theorem ret437 {p:Pgm} (hp:p.Fits) (hpr:progR p=true):Ret CC 137 [p.iv] (.tup [.lst ((orderR (tosR p)).map natsIV), .int .i64 0]):=by
 have h29:=ret29 p hp
 have h483:=ret483 hp hpr
 rw [if_pos hpr] at h29
 generalize orderR (tosR p)=L at *
 obtain ⟨srcs,defs⟩:=p
 have bz:((0:Int) != 0)=false:=rfl
 refine Ret.of (fn:=Go.Proofs.Tryz.f137) (by kernel_rfl) rfl rfl ?_
 refine BB ?_
 exact W.retFin2 rfl rfl ⟨[],rfl⟩
end Go.Abs

/- The program: the lags of all definitions. -/
open Go Go.Abs
namespace Go.Abs
set_option maxRecDepth 100000
set_option maxHeartbeats 4000000
instance fnis376:FnIs CC 76:=⟨rfl,fun _=>rfl⟩
theorem strNew {l:List Str} {s:Str} (h:s∉l):keyFind (sv s) (l.map sv)=some none:=by
 rw [keyFind_sv]
 have h0:=findIdx_contains s l
 have hc:l.contains s=false:=by simpa using h
 rw [hc] at h0
 cases hf:l.findIdx? fun x=>s==x with
 |none=>rfl
 |some j=>rw [hf] at h0;cases h0
theorem not_take {l:List Str} (hn:l.Nodup) {i:Nat} {s:Str} (h:l[i]? = some s):s∉l.take i:=fun hc=>by
 obtain ⟨hk,rfl⟩:=List.getElem?_eq_some_iff.1 h
 obtain ⟨j,hj,he⟩:=List.mem_iff_getElem.1 hc
 rw [List.length_take] at hj
 rw [List.getElem_take] at he
 have:=(List.getElem_inj hn).1 he
 omega
noncomputable def knIV (p:Pgm) (E:List (List Lg)):IV := .fptr [.lst (p.srcs.map sv), .lst (p.defs.map Dfn.iv), .fmp (numKs p) (numVs p), .lst (E.map lagsIV), .fmp wayKs wayVs] 0
theorem cal440 {a:Lg} {i:Nat} {G:Nat->Obj} {nx:Nat}:Cal CC 140 [.imm (natIV i), .imm a.iv] G nx fun v G' nx'=>v = .imm (a.thru true 0 0).iv/\nx<=nx'/\∀ o,o < nx->G' o=G o:=by
 have h1:=ret441 (a:=a)
 generalize a.thru=A at *
 obtain ⟨on,e,b,f⟩:=a
 rw [Lg.iv_mk] at *
 refine Cal.of (fn:=Go.Proofs.Tryz.f140) (by kernel_rfl) rfl rfl ?_
 refine BN ?_
 exact W.retFinCA rfl (upd_same ..) rfl rfl ⟨rfl,by omega,fun o ho=>at_upd⟩
theorem Rdx.map {d o:Nat} {P:Nat->Prop} {G:Nat->Obj} {ks xs:List IV} {vs:List AV} {fr:Bool} (hG:G o = .mp ks vs fr) (h:All2 (Rdx d G P) vs xs) (ho:P o):Rdx (d+1) G P (.map o) (.fmp ks xs):=by
 obtain ⟨ids,h1,h2⟩:=h.peekL
 refine ⟨o::ids,fun k=>?_,fun i hi=>(List.mem_cons.1 hi).elim (fun h=>h▸ho) (h2 i)⟩
 rw [<-Nat.add_assoc,Go.Abs.peek,hG]
 simp only [h1]
theorem Rdx.ptr {d o off:Nat} {P:Nat->Prop} {G:Nat->Obj} {xs:List IV} {vs:List AV} {fr:Bool} (hG:G o = .box vs fr) (h:All2 (Rdx d G P) vs xs) (ho:P o):Rdx (d+1) G P (.ptr o off) (.fptr xs off):=by
 obtain ⟨ids,h1,h2⟩:=h.peekL
 refine ⟨o::ids,fun k=>?_,fun i hi=>(List.mem_cons.1 hi).elim (fun h=>h▸ho) (h2 i)⟩
 rw [<-Nat.add_assoc,Go.Abs.peek,hG]
 simp only [h1]
theorem ret376 {p:Pgm} (hp:p.Fits) (hpr:progR p=true):Ret CC 76 [p.iv] (knIV p (lagsR p)):=by
 have hg:=progR_good hpr
 have htl:(tosR p).length=p.defs.length:=hg.steps.2.1
 have h437:=ret437 hp hpr
 have h436:=ret436
 obtain ⟨hgl,hgs⟩:=order_small hpr
 have hsm:=progR_small hpr
 have h6:=hsm.len
 have h4:=hsm.srcs
 have hnd:(p.srcs++p.defs.map Dfn.name).Nodup:=(progR_parts hpr).1
 have hdm:(p.defs.map Dfn.iv).length=p.defs.length:=List.length_map ..
 have hss:(p.srcs.map sv).length=p.srcs.length:=List.length_map ..
 refine Ret.of (fn:=Go.Proofs.Tryz.f76) (by kernel_rfl) rfl rfl ?_
 refine BB ?_
 refine D.op1 (O.makeSlice (ke:=ty432) rfl inferInstance rfl rfl ⟨by omega,Int.le_refl _,by unfold most;omega⟩ (by decide) rfl (by decide)) rfl rfl ?_
 rw [hdm,Int.toNat_natCast]
 refine BB ?_
 have hnumK:∀ (n:Nat),((List.range n).map natIV).map AV.imm++[.imm (natIV n)]=((List.range (n+1)).map natIV).map AV.imm:=fun n=>by rw [List.range_succ];simp
 refine W.loop (X:=Nat) (fun i=>[(1, .ptr 0 0),(3, .ptr 10 0),(30, .imm (.lst (p.srcs.map sv))),(31, .imm (.int .i64 (p.srcs.map sv).length)),(32, .imm (.int .i64 i))])
  (fun i nx G=>11<=nx/\i<=p.srcs.length/\G 0 = .box [.imm (.lst (p.srcs.map sv)), .imm (.lst (p.defs.map Dfn.iv))] false/\G 3 = .mp ((p.srcs.take i).map sv) (((List.range i).map natIV).map .imm) false /\
   G 10 = .box [.imm (.lst (p.srcs.map sv)), .imm (.lst (p.defs.map Dfn.iv)), .map 3, .row 7 p.defs.length, .imm (.fmp wayKs wayVs)] false/\G 7 = .row 132 1 (List.replicate p.defs.length .nils) false)
  (fun i=>p.srcs.length-i) 0 .auto ⟨by omega,Nat.zero_le _,rfl,rfl,rfl,rfl⟩ ?_
 rintro i nx G ⟨hnx,hi,g0,g3,g10,g7⟩
 refine BN ?_
 refine W.cond rfl (fun h1=>?_) (fun h1=>?_)
 ·have hlt:i < p.srcs.length:=by have:=of_decide_eq_true h1;rw [hss] at this;omega
  have hmu:p.srcs.length-(i+1) < p.srcs.length-i:=by omega
  obtain ⟨s,hs⟩:=at_lt hlt
  have hsi:=at_map sv hs
  have hnew:=not_take (List.nodup_append.1 hnd).1 hs
  refine BN ?_
  refine R.opN1 (O.mapNew rfl inferInstance rfl rfl rfl g3 rfl (strNew hnew)) ?_
  refine BN ?_
  refine W.skipLop (i+1) hmu .auto ⟨by omega,hlt,(upd_ne _ _ _ _ (by omega)).trans g0,?_,(upd_ne _ _ _ _ (by omega)).trans g10,(upd_ne _ _ _ _ (by omega)).trans g7⟩
  rw [upd_same,<-hnumK i,List.take_add_one,hs,List.map_append]
  rfl
 ·have hge:i=p.srcs.length:=by have:=of_decide_eq_false h1;rw [hss] at this;omega
  subst hge
  rw [List.take_length] at g3
  refine BN ?_
  refine W.loop (X:=Nat) (fun i=>[(1, .ptr 0 0),(3, .ptr 10 0),(45, .imm (.lst (p.defs.map Dfn.iv))),(46, .imm (.int .i64 (p.defs.map Dfn.iv).length)),(47, .imm (.int .i64 i))])
   (fun i nx G=>11<=nx/\i<=p.defs.length/\G 0 = .box [.imm (.lst (p.srcs.map sv)), .imm (.lst (p.defs.map Dfn.iv))] false/\G 3 = .mp ((p.srcs++(p.defs.map Dfn.name).take i).map sv) (((List.range p.srcs.length++List.range i).map natIV).map .imm) false /\
    G 10 = .box [.imm (.lst (p.srcs.map sv)), .imm (.lst (p.defs.map Dfn.iv)), .map 3, .row 7 p.defs.length, .imm (.fmp wayKs wayVs)] false /\
    ∃ ws,ws.length=i/\G 7 = .row 132 1 (ws++List.replicate (p.defs.length-ws.length) .nils) false/\All2 (RowL 153 11 nx G) ws (List.replicate i (List.replicate p.srcs.length Lg.z)))
   (fun i=>p.defs.length-i) 0 .auto ⟨by omega,Nat.zero_le _,g0,by simpa using g3,g10,[],rfl,g7,trivial⟩ ?_
  clear g0 g3 g10 g7
  rintro i nx2 G2 ⟨hnx2,hi,g0,g3,g10,ws,hwl,g7,hall2⟩
  have hwl2:(ws++List.replicate (p.defs.length-ws.length) AV.nils).length=p.defs.length:=by simp;omega
  refine BN ?_
  refine W.cond rfl (fun h2=>?_) (fun h2=>?_)
  ·have hlt:i < p.defs.length:=by have:=of_decide_eq_true h2;rw [hdm] at this;omega
   have hmu:p.defs.length-(i+1) < p.defs.length-i:=by omega
   obtain ⟨x,hx⟩:=at_lt hlt
   have hxi:=at_map Dfn.iv hx
   have hnm:(p.srcs++p.defs.map Dfn.name)[p.srcs.length+i]? = some x.name:=by rw [List.getElem?_append_right (by omega),Nat.add_sub_cancel_left,List.getElem?_map,hx];rfl
   have hnew:=not_take hnd hnm
   rw [List.take_append,List.take_of_length_le (by omega),Nat.add_sub_cancel_left] at hnew
   have hnt:(p.defs.map Dfn.name).take (i+1)=(p.defs.map Dfn.name).take i++[x.name]:=by rw [List.take_add_one,List.getElem?_map,hx];rfl
   have hxc:=x.cells_len
   obtain ⟨nm,⟨o',s',n',f',c',k'⟩⟩:=x
   refine BN ?_
   refine D.opN1 (O.mapNew rfl inferInstance rfl rfl rfl at_upd rfl (strNew hnew)) rfl ?_
   refine BB ?_
   refine D.op1 (O.makeL (n:=p.srcs.length) (fun _=>Lg.z) rfl inferInstance ⟨rfl,rfl,by decide⟩ rfl rfl (by omega) (by omega)) rfl rfl ?_
   refine D.op0 (O.addrRX rfl inferInstance rfl rfl (at_upd:_=Obj.row 132 1 (ws++List.replicate (p.defs.length-ws.length) AV.nils) false) hwl2 (by omega) rfl) rfl rfl ?_
   refine D.opN1 (O.storeR rfl rfl rfl rfl at_upd hwl2 (by rw [Int.toNat_natCast,<-hwl];exact rep_at (by omega)) rfl rfl) rfl ?_
   refine BB ?_
   have hz:mixL p.srcs.length 0 (fun _=>Lg.z) (fun _=>Lg.z)=List.replicate p.srcs.length Lg.z:=by rw [mixL_zero,List.map_const',List.length_range]
   refine W.skipLop (i+1) hmu .auto ⟨by omega,hlt,at_upd,?_,at_upd,ws++[.row (nx2+1+6+8+8) p.srcs.length],by simp [hwl],?_,?_⟩
   ·refine (upd_ne _ _ _ _ (by omega)).trans ((upd_ne _ _ _ _ (by omega)).trans ((upd_same ..).trans ?_))
    rw [hnt,<-List.append_assoc,List.range_succ,<-List.append_assoc]
    simp [natIV]
   ·rw [upd_same,Int.toNat_natCast,<-hwl,rep_set (by omega)]
   ·rw [List.replicate_succ']
    refine All2.append (hall2.imp fun _ _ h=>h.frame (Nat.le_refl _) (by omega) fun o ho1 ho2 _=>at_upd) ⟨⟨nx2+1+6+8+8,false,by omega,by omega,by simp,?_⟩,trivial⟩
    rw [upd_ne _ _ _ _ (by omega),upd_same,hz]
  ·have hge:i=p.defs.length:=by have:=of_decide_eq_false h2;rw [hdm] at this;omega
   subst hge
   rw [hwl,Nat.sub_self,List.replicate_zero,List.append_nil] at g7
   rw [List.take_of_length_le (by simp)] at g3
   have hrows:RowsL 153 132 7 11 nx2 G2 (lagsTo p ((orderR (tosR p)).take 0)):=by
    rw [List.take_zero]
    exact ⟨ws,by rw [hwl];exact (List.length_replicate ..).symm,g7,hall2⟩
   have hexp:=fun (E:List (List Lg)) (hW:Wide p E) (hI:InL 40000000 E) (d:Nat) (hd:d < p.defs.length) G nx lo hi kv=>@cal382 p hp hpr E 40000000 (by omega) hW hI 1000 (expAt p d) (hsm.cnt d) (Nat.le_refl _) (progR_nodeP hpr hd) G nx lo hi kv
   have hw:=fun g i k=>lags3_wide hpr g i k
   have hin:=fun g i k=>lags3_in hpr (g:=g) (i:=i) (k:=k)
   have hstl:=fun g r=>lags3_still hpr (g:=g) (r:=r)
   have hmst:=fun g r=>lags3_must hpr (g:=g) (r:=r)
   unfold lagsR
   generalize hgsE:orderR (tosR p)=gs at *
   have hgm:(gs.map natsIV).length=gs.length:=List.length_map ..
   clear hall2 g7 hwl2
   refine BN ?_
   refine W.loop (X:=Nat) (fun g=>[(1, .ptr 0 0),(3, .ptr 10 0),(75, .imm (.lst (gs.map natsIV))),(76, .imm (.int .i64 (gs.map natsIV).length)),(77, .imm (.int .i64 g))])
    (fun g nx G=>11<=nx/\g<=gs.length/\G 0 = .box [.imm (.lst (p.srcs.map sv)), .imm (.lst (p.defs.map Dfn.iv))] false/\G 3 = .mp (numKs p) ((numVs p).map .imm) false /\
     G 10 = .box [.imm (.lst (p.srcs.map sv)), .imm (.lst (p.defs.map Dfn.iv)), .map 3, .row 7 p.defs.length, .imm (.fmp wayKs wayVs)] false/\RowsL 153 132 7 11 nx G (lagsTo p (gs.take g)))
    (fun g=>gs.length-g) 0 .auto ⟨by omega,Nat.zero_le _,g0,g3,g10,hrows.frame rfl (Nat.le_refl _) (by omega) fun _ _ _ _=>rfl⟩ ?_
   clear hrows g0 g3 g10
   rintro g nx3 G3 ⟨hnx3,hgi,g0,g3,g10,hrows⟩
   refine BN ?_
   refine W.cond rfl (fun h3=>?_) (fun h3=>?_)
   ·have hlt:g < gs.length:=by have:=of_decide_eq_true h3;rw [hgm] at this;omega
    have hmu:gs.length-(g+1) < gs.length-g:=by omega
    have hgr:gs[g]? = some (gs.getD g []):=by rw [List.getD_eq_getElem?_getD,List.getElem?_eq_getElem hlt];rfl
    obtain ⟨hg6,hgd,hgi2⟩:=hgs _ (List.mem_of_getElem? hgr)
    have hgat:=at_map natsIV hgr
    have hrnd:=fun i=>lags3_round (p:=p) (gs:=gs) (g:=g) (i:=i)
    have hnxt:=fun i k d (h:(gs.getD g [])[k]? = some d)=>lags3_next (p:=p) (gs:=gs) (g:=g) (i:=i) (k:=k) h
    have hstep:=fun r k d (h:(gs.getD g [])[k]? = some d) (hl:d < (lags3 p gs g r k).length)=>still_step (p:=p) (ring:=ringB (tosR p) (gs.getD g [])) (E:=rndsL p (ringB (tosR p) (gs.getD g [])) (gs.getD g []) r (lagsTo p (gs.take g))) hgi2.nodup h hl
    rw [<-lags3_zero] at hrows
    have hw:=fun i k=>hw g i k
    have hin:=fun i k hi=>hin g i k hlt hi
    have hstl:=fun r=>hstl g r hlt
    have hmst:=fun r=>hmst g r hlt
    have hD0:∀ r,rndsL p (ringB (tosR p) (gs.getD g [])) (gs.getD g []) r (lagsTo p (gs.take g))=lags3 p gs g r 0:=fun r=>by unfold lags3;rw [List.take_zero];rfl
    have hDk:∀ r k,rndL p (ringB (tosR p) (gs.getD g [])) ((gs.getD g []).take k) (rndsL p (ringB (tosR p) (gs.getD g [])) (gs.getD g []) r (lagsTo p (gs.take g)))=lags3 p gs g r k:=fun r k=>rfl
    simp only [hDk] at hstep
    simp only [hD0] at hstep
    clear hD0 hDk
    generalize hgrE:gs.getD g []=gr at *
    obtain ⟨f,rest,hfr⟩:=hgi2.ne
    have hf:f∈gr:=by rw [hfr];exact List.mem_cons_self ..
    have hfl:=hgd f hf
    have hf0:(gr.map natIV)[((0:Int)).toNat]? = some (natIV f):=by rw [hfr];rfl
    have hhas:hasR p (f:Int)=true:=by
     unfold hasR
     rw [hpr,decide_eq_true (by omega),decide_eq_true (by omega)];rfl
    have h15:=ret15 p hp (f:Int)
    have hra:reachA p (f:Int)=reachN p f:=by unfold reachA;rw [if_pos hhas,Int.toNat_natCast]
    rw [hra] at h15
    have hrl:(reachN p f).length<=1000:=by
     unfold reachN
     have:=List.length_filter_le (reachB (tosR p) f) (List.range p.defs.length)
     rw [List.length_range] at this
     omega
    have h438:=ret438 hrl f
    have hcon:(reachN p f).contains f=ringB (tosR p) gr:=by
     rw [<-hgi2.ring f hf,Bool.eq_iff_iff,List.contains_iff_mem]
     unfold reachN
     rw [List.mem_filter,List.mem_range]
     exact ⟨fun h=>h.2,fun h=>⟨hfl,h⟩⟩
    rw [hcon] at h438
    generalize srcsA p (f:Int)=sr at *
    generalize errR p (f:Int)=er at *
    generalize reachN p f=rl at *
    have hrm:(gr.map natIV).length=gr.length:=List.length_map ..
    refine BN ?_
    refine W.loop (X:=Nat) (fun _=>[(1, .ptr 0 0),(3, .ptr 10 0),(75, .imm (.lst (gs.map natsIV))),(76, .imm (.int .i64 (gs.map natsIV).length)),(77, .imm (.int .i64 g)),(11, .imm (natsIV gr)),(15, .imm (.bool (ringB (tosR p) gr)))])
     (fun r nx G=>11<=nx/\r<=gr.length/\G 0 = .box [.imm (.lst (p.srcs.map sv)), .imm (.lst (p.defs.map Dfn.iv))] false/\G 3 = .mp (numKs p) ((numVs p).map .imm) false /\
      G 10 = .box [.imm (.lst (p.srcs.map sv)), .imm (.lst (p.defs.map Dfn.iv)), .map 3, .row 7 p.defs.length, .imm (.fmp wayKs wayVs)] false/\RowsL 153 132 7 11 nx G (lags3 p gs g r 0))
     (fun r=>gr.length+1-r) 0 .auto ⟨by omega,Nat.zero_le _,g0,g3,g10,hrows.frame rfl (Nat.le_refl _) (by omega) fun _ _ _ _=>rfl⟩ ?_
    clear hrows g0 g3 g10
    rintro r nx4 G4 ⟨hnx4,hr,g0,g3,g10,hrows⟩
    refine BN ?_
    refine W.loop (X:=Nat×Bool) (fun s=>[(1, .ptr 0 0),(3, .ptr 10 0),(75, .imm (.lst (gs.map natsIV))),(76, .imm (.int .i64 (gs.map natsIV).length)),(77, .imm (.int .i64 g)),(11, .imm (natsIV gr)),(15, .imm (.bool (ringB (tosR p) gr))),(16, .imm (.bool s.2)),(95, .imm (natsIV gr)),(96, .imm (.int .i64 (gr.map natIV).length)),(97, .imm (.int .i64 s.1))])
     (fun s nx G=>11<=nx/\s.1<=gr.length/\(s.2=true↔lags3 p gs g r s.1=lags3 p gs g r 0)/\G 0 = .box [.imm (.lst (p.srcs.map sv)), .imm (.lst (p.defs.map Dfn.iv))] false/\G 3 = .mp (numKs p) ((numVs p).map .imm) false /\
      G 10 = .box [.imm (.lst (p.srcs.map sv)), .imm (.lst (p.defs.map Dfn.iv)), .map 3, .row 7 p.defs.length, .imm (.fmp wayKs wayVs)] false/\RowsL 153 132 7 11 nx G (lags3 p gs g r s.1))
     (fun s=>gr.length-s.1) (0,true) .auto ⟨by omega,Nat.zero_le _,⟨fun _=>rfl,fun _=>rfl⟩,g0,g3,g10,hrows.frame rfl (Nat.le_refl _) (by omega) fun _ _ _ _=>rfl⟩ ?_
    clear hrows g0 g3 g10
    rintro ⟨k,st⟩ nx5 G5 ⟨hnx5,hk,hst,g0,g3,g10,hrows⟩
    dsimp only at hk hst hrows ⊢
    refine BN ?_
    refine W.cond rfl (fun h4=>?_) (fun h4=>?_)
    ·have hkl:k < gr.length:=by have:=of_decide_eq_true h4;omega
     have hmu4:gr.length-(k+1) < gr.length-k:=by omega
     obtain ⟨d,hd⟩:=at_lt hkl
     have hdi:=at_map natIV hd
     have hdl:=hgd d (List.mem_of_getElem? hd)
     obtain ⟨x,hx⟩:=at_lt hdl
     have hxi:=at_map Dfn.iv hx
     have hE:=(hw r k).len
     have hkn:KnV p 11 nx5 G5 (.ptr 10 0) (lags3 p gs g r k) := .inr ⟨10,3,7,⟨by omega,by omega,by omega⟩,rfl,by rw [hE];exact g10,g3,hrows⟩
     have hc:=fun nx6 (h:nx5<=nx6)=>hexp (lags3 p gs g r k) (hw r k) (hin r k (by omega)) d hdl G5 nx6 11 nx5 (.ptr 10 0) hkn h
     have hnx:=hnxt r k d hd
     have hsp:=hstep r k d hd (by omega)
     rw [expAt_at hx] at hc
     have hrow:rowL p (ringB (tosR p) gr) (lags3 p gs g r k) d=(allL p (lags3 p gs g r k) x.exp).map (ringL (ringB (tosR p) gr)):=by unfold rowL;rw [expAt_at hx]
     have hri:=rowL_in hsm (by omega) (hin r k (by omega)) (ringB (tosR p) gr) hdl
     have hin5:=hin r k (by omega)
     have hall_len:(allL p (lags3 p gs g r k) x.exp).length=p.srcs.length:=by simp [allL]
     have hsp1:1<=p.srcs.length:=(progR_parts hpr).2.1.1
     rw [hrow] at hsp hri
     generalize allL p (lags3 p gs g r k) x.exp=al at *
     generalize lags3 p gs g r k=E at *
     generalize hrb:ringB (tosR p) gr=rb at *
     have hxc:=x.cells_len
     obtain ⟨nm,⟨o',s',n',f',c',k'⟩⟩:=x
     refine BN ?_
     refine R.callB rfl rfl rfl rfl rfl ((hc _ (by omega)).mono fun v G6 nx6 hv=>?_)
     obtain ⟨hv,hn6,hG6⟩:=hv
     have c6:∀ o,o < nx5->G6 o=G5 o:=fun o ho=>(hG6 o (by omega)).trans rfl
     refine BN ?_
     refine W.unseq (W.cut (X:=AV) (fun v=>[(1, .ptr 0 0),(3, .ptr 10 0),(75, .imm (.lst (gs.map natsIV))),(76, .imm (.int .i64 (gs.map natsIV).length)),(77, .imm (.int .i64 g)),(11, .imm (natsIV gr)),(15, .imm (.bool rb)),(16, .imm (.bool st)),(95, .imm (natsIV gr)),(96, .imm (.int .i64 (gr.map natIV).length)),(97, .imm (.int .i64 k)),(18, .imm (natIV d)),(19,v)])
      (fun v nx G=>nx5<=nx/\(∀ o,o < nx5->G o=G5 o)/\RowL 153 nx5 nx G v (al.map (ringL rb))) ?_ ?_)
     ·cases rb with
      |true=>
       refine BN ?_
       refine R.callB rfl rfl rfl rfl rfl ((cal439 (l:=al) (g:=fun _ a=>(a.thru true 0 0).iv) rfl rfl (fun _ _=>rfl) (.inr hv) (by omega) (by omega) fun i a _ G' nx' _ _=>cal440).mono fun v2 G7 nx7 hv2=>?_)
       obtain ⟨ho,hn7,hG7⟩:=hv2
       rw [mapIdx_map fun a=>a.thru true 0 0] at ho
       refine BN ?_
       exact W.skipCut v2 .auto ⟨by omega,fun o ho=>(hG7 o (by omega)).trans (c6 o ho),(ho.rowL fun hc=>by have:=congrArg List.length hc;rw [List.length_map,List.length_nil] at this;omega).frame (by omega) (by omega) fun _ _ _ _=>rfl⟩
      |false=>
       refine BN ?_
       exact W.skipCut v .auto ⟨by omega,c6,by rw [show al.map (ringL false)=al from List.map_id' al];exact hv.frame (by omega) (by omega) fun _ _ _ _=>rfl⟩
     ·rintro v2 nx7 G7 ⟨hnx7,c7,hv2⟩
      have g07:=(c7 0 (by omega)).trans g0
      have g37:=(c7 3 (by omega)).trans g3
      have g107:=(c7 10 (by omega)).trans g10
      have hrows7:=hrows.frame (G':=G7) (hi':=nx7) (c7 7 (by omega)) (Nat.le_refl _) (by omega) fun o _ ho _=>c7 o ho
      obtain ⟨ws,hwl,h7,hset⟩:=hrows7.set (hv2.frame (by omega) (Nat.le_refl _) fun _ _ _ _=>rfl) d
      obtain ⟨ws2,hw21,hw22,hw23⟩:=hrows7
      have hwe:ws2=ws:=by rw [h7] at hw22;cases hw22;rfl
      subst hwe
      have hwl':ws2.length=p.defs.length:=by omega
      obtain ⟨ld,hld⟩:∃ r,E[d]? = some r:=at_lt (by omega)
      have hld':E.getD d []=ld:=by rw [List.getD_eq_getElem?_getD,hld];rfl
      obtain ⟨wd,hwd1,hwd2⟩:=hw23.at hld
      have hldi:∀ a∈ld,a.In 4294967296:=fun a ha=>(hin5 ld (List.mem_of_getElem? hld) a ha).mono (by omega)
      have hali:∀ a∈al.map (ringL rb),a.In 4294967296:=fun a ha=>(hri a ha).mono (by omega)
      have h442:=ret442 hali hldi (by rw [List.length_map];omega)
      obtain ⟨q1,_,_,hq1⟩:=hv2.peek
      obtain ⟨q2,_,_,hq2⟩:=hwd2.peek
      obtain ⟨o2,fr2,ho21,ho22,rfl,ho23⟩:=hwd2
      have hwi:ws2[(d:Int).toNat]? = some (.row o2 ld.length):=by rw [Int.toNat_natCast];exact hwd1
      rw [hld'] at hsp
      have hnew:(st&&lagsEq (al.map (ringL rb)) ld)=true↔lags3 p gs g r (k+1)=lags3 p gs g r 0:=by
       rw [Bool.and_eq_true,lagsEq_iff,hst];exact hsp.symm
      have hv2f:=hv2.fits
      obtain ⟨ov,frv,hv21,hv22,rfl,hv23⟩:=hv2
      generalize lagsEq (al.map (ringL rb)) ld=eq at *
      cases st with
      |true=>
       refine BN ?_
       refine R.op0 (O.callG rfl (peeks_one hq1 (peeks_one hq2 peeks_nil)) h442 rfl) rfl ?_
       refine BN ?_
       refine R.opN1 (O.storeR rfl rfl rfl rfl h7 hwl' hwi rfl rfl) ?_
       refine BN ?_
       exact W.skipLop (k+1,eq) hmu4 .auto ⟨by omega,hkl,hnew,(upd_ne _ _ _ _ (by omega)).trans g07,(upd_ne _ _ _ _ (by omega)).trans g37,(upd_ne _ _ _ _ (by omega)).trans g107,by rw [hnx];unfold setL;rw [hrow];exact hset.frame rfl (Nat.le_refl _) (by omega) fun _ _ _ _=>rfl⟩
      |false=>
       refine BN ?_
       refine R.opN1 (O.storeR rfl rfl rfl rfl h7 hwl' hwi rfl rfl) ?_
       refine BN ?_
       exact W.skipLop (k+1,false) hmu4 .auto ⟨by omega,hkl,hnew,(upd_ne _ _ _ _ (by omega)).trans g07,(upd_ne _ _ _ _ (by omega)).trans g37,(upd_ne _ _ _ _ (by omega)).trans g107,by rw [hnx];unfold setL;rw [hrow];exact hset.frame rfl (Nat.le_refl _) (by omega) fun _ _ _ _=>rfl⟩
    ·have hge:k=gr.length:=by have:=of_decide_eq_false h4;omega
     subst hge
     cases st with
     |true=>
      rw [hst.1 rfl,hstl r (hst.1 rfl)] at hrows
      refine BN ?_
      exact W.skipLop (g+1) hmu .auto ⟨by omega,hlt,g0,g3,g10,hrows.frame rfl (Nat.le_refl _) (by omega) fun _ _ _ _=>rfl⟩
     |false=>
      have hrl:r < gr.length:=Classical.byContradiction fun hc=>by
       have:=hst.2 (hmst r (by omega))
       cases this
      rw [hrnd r] at hrows
      have hmu5:gr.length+1-(r+1) < gr.length+1-r:=by omega
      refine BN ?_
      exact W.skipLop (r+1) hmu5 .auto ⟨by omega,hrl,g0,g3,g10,hrows.frame rfl (Nat.le_refl _) (by omega) fun _ _ _ _=>rfl⟩
   ·have hge:gs.length<=g:=by have:=of_decide_eq_false h3;rw [hgm] at this;omega
    rw [List.take_of_length_le hge] at hrows
    have hl:=((lags_so hpr gs.length).wide).len
    rw [hgsE,List.take_of_length_le (Nat.le_refl _)] at hl
    have hrd:=hrows.rdx
    rw [hl] at hrd
    refine BN ?_
    have hkn:Rdx 3 G3 (fun _=>True) (.ptr 10 0) (knIV p (lagsTo p gs)):=Rdx.ptr g10 ⟨Rdx.imm _ _ _ _,Rdx.imm _ _ _ _,(Rdx.map g3 (All2.imms 1 _ _ _) trivial),hrd,Rdx.imm _ _ _ _,trivial⟩ trivial
    exact W.retFin1 rfl (hkn.peek (by decide))
end Go.Abs

/- The reference: the lags of all definitions: the walk. -/
open Go Go.Abs
namespace Go.Abs
set_option maxRecDepth 100000
set_option maxHeartbeats 4000000
theorem ret379 {p:Pgm} (hp:p.Fits) (hpr:progR p=true):Ret CC 79 [p.iv] (.lst ((lagsR p).map lagsIV)):=by
 have hg:=progR_good hpr
 have htl:(tosR p).length=p.defs.length:=hg.steps.2.1
 have h445:=ret445 hg hp
 have h53:=hg.ret53 hp
 obtain ⟨hgl,hgs⟩:=order_small hpr
 have hsm:=progR_small hpr
 have h6:=hsm.len
 have h4:=hsm.srcs
 have hdm:(p.defs.map Dfn.iv).length=p.defs.length:=List.length_map ..
 have hss:(p.srcs.map sv).length=p.srcs.length:=List.length_map ..
 have hw:=fun g i k=>lags3_wide hpr g i k
 have hin:=fun g i k=>lags3_in hpr (g:=g) (i:=i) (k:=k)
 unfold lagsR
 generalize hgsE:orderR (tosR p)=gs at *
 have hgm:(gs.map natsIV).length=gs.length:=List.length_map ..
 have hall:=fun (E:List (List Lg)) (hW:Wide p E) (hI:InL 40000000 E) (d:Nat) (hd:d < p.defs.length) G nx lo hi dv=>@cal385 p hp hpr E 40000000 (by omega) hW hI 1000 (expAt p d) (hsm.cnt d) (Nat.le_refl _) (progR_nodeP hpr hd) G nx lo hi dv
 refine Ret.of (fn:=Go.Proofs.Tryz.f79) (by kernel_rfl) rfl rfl ?_
 refine BB ?_
 refine R.op1 (O.makeSlice (ke:=ty349) rfl inferInstance rfl rfl ⟨by omega,Int.le_refl _,by unfold most;omega⟩ (by decide) rfl (by decide)) rfl ?_
 rw [hdm,Int.toNat_natCast]
 refine BB ?_
 refine W.loop (X:=Nat) (fun d=>[(1, .ptr 0 0),(3, .row 5 p.defs.length),(4, .imm (.int .i64 d))])
  (fun d nx G=>8<=nx/\d<=p.defs.length/\G 0 = .box [.imm (.lst (p.srcs.map sv)), .imm (.lst (p.defs.map Dfn.iv))] false/\∃ ws,ws.length=d/\G 5 = .row 49 1 (ws++List.replicate (p.defs.length-ws.length) .nils) false/\All2 (RowL 147 6 nx G) ws (List.replicate d (List.replicate p.srcs.length Lg.z)))
  (fun d=>p.defs.length-d) 0 .auto ⟨by omega,Nat.zero_le _,rfl,[],rfl,rfl,trivial⟩ ?_
 rintro d nx G ⟨hnx,hd,g0,ws,hwl,g5,hall2⟩
 have hwl2:(ws++List.replicate (p.defs.length-ws.length) AV.nils).length=p.defs.length:=by simp;omega
 refine BN ?_
 refine W.cond rfl (fun h1=>?_) (fun h1=>?_)
 ·have hlt:d < p.defs.length:=by have:=of_decide_eq_true h1;omega
  have hmu:p.defs.length-(d+1) < p.defs.length-d:=by omega
  refine BN ?_
  refine R.op1 (O.makeL (n:=p.srcs.length) (fun _=>Lg.z) rfl inferInstance ⟨rfl,rfl,by decide⟩ rfl rfl (by omega) (by omega)) rfl ?_
  refine R.op0 (O.addrRX rfl inferInstance rfl rfl ((upd_ne _ _ _ _ (by omega)).trans g5) hwl2 (by omega) rfl) rfl ?_
  refine R.opN1 (O.storeR rfl rfl rfl rfl ((upd_ne _ _ _ _ (by omega)).trans g5) hwl2 (by rw [Int.toNat_natCast,<-hwl];exact rep_at (by omega)) rfl rfl) ?_
  refine BN ?_
  have hz:mixL p.srcs.length 0 (fun _=>Lg.z) (fun _=>Lg.z)=List.replicate p.srcs.length Lg.z:=by rw [mixL_zero,List.map_const',List.length_range]
  refine W.skipLop (d+1) hmu .auto ⟨by omega,hlt,at_upd,ws++[.row (nx+4+5) p.srcs.length],by simp [hwl],?_,?_⟩
  ·rw [upd_same,Int.toNat_natCast,<-hwl,rep_set (by omega)]
  ·rw [List.replicate_succ']
   refine All2.append (hall2.imp fun _ _ h=>h.frame (Nat.le_refl _) (by omega) fun o ho1 ho2 _=>(upd_ne _ _ _ _ (by omega)).trans (upd_ne _ _ _ _ (by omega))) ⟨⟨nx+4+5,false,by omega,by omega,by simp,?_⟩,trivial⟩
   rw [upd_ne _ _ _ _ (by omega),upd_same,hz]
 ·have hge:d=p.defs.length:=by have:=of_decide_eq_false h1;omega
  subst hge
  rw [hwl,Nat.sub_self,List.replicate_zero,List.append_nil] at g5
  have hrows:RowsL 147 49 5 6 nx G (lagsTo p (gs.take 0)):=by
   rw [List.take_zero]
   exact ⟨ws,by rw [hwl];exact (List.length_replicate ..).symm,g5,hall2⟩
  refine BN ?_
  refine W.loop (X:=Nat) (fun g=>[(1, .ptr 0 0),(3, .row 5 p.defs.length),(5, .imm (.lst ((reachR (tosR p)).map boolsIV))),(6, .imm (.lst (gs.map natsIV))),(7, .imm (.int .i64 g))])
   (fun g nx G=>8<=nx/\g<=gs.length/\G 0 = .box [.imm (.lst (p.srcs.map sv)), .imm (.lst (p.defs.map Dfn.iv))] false/\RowsL 147 49 5 6 nx G (lagsTo p (gs.take g)))
   (fun g=>gs.length-g) 0 .auto ⟨by omega,Nat.zero_le _,g0,hrows.frame rfl (Nat.le_refl _) (by omega) fun _ _ _ _=>rfl⟩ ?_
  clear hrows g5 hall2 hwl hwl2 g0
  rintro g nx2 G2 ⟨hnx2,hgi,g0,hrows⟩
  refine BN ?_
  refine W.cond rfl (fun h2=>?_) (fun h2=>?_)
  ·have hlt:g < gs.length:=by have:=of_decide_eq_true h2;omega
   have hmu:gs.length-(g+1) < gs.length-g:=by omega
   have hgr:gs[g]? = some (gs.getD g []):=by rw [List.getD_eq_getElem?_getD,List.getElem?_eq_getElem hlt];rfl
   obtain ⟨hg6,hgd,hgi2⟩:=hgs _ (List.mem_of_getElem? hgr)
   have hgat:=at_map natsIV hgr
   have hnext:=lags3_group (p:=p) hlt
   have hrnd:=fun i=>lags3_round (p:=p) (gs:=gs) (g:=g) (i:=i)
   have hnxt:=fun i k d (h:(gs.getD g [])[k]? = some d)=>lags3_next (p:=p) (gs:=gs) (g:=g) (i:=i) (k:=k) h
   rw [<-lags3_zero] at hrows
   have hw:=fun i k=>hw g i k
   have hin:=fun i k hi=>hin g i k hlt hi
   generalize hgrE:gs.getD g []=gr at *
   have hrm:(gr.map natIV).length=gr.length:=List.length_map ..
   refine BN ?_
   refine W.loop (X:=Nat) (fun i=>[(1, .ptr 0 0),(3, .row 5 p.defs.length),(5, .imm (.lst ((reachR (tosR p)).map boolsIV))),(6, .imm (.lst (gs.map natsIV))),(7, .imm (.int .i64 g)),(8, .imm (.int .i64 i))])
    (fun i nx G=>8<=nx/\i<=p.defs.length+1/\G 0 = .box [.imm (.lst (p.srcs.map sv)), .imm (.lst (p.defs.map Dfn.iv))] false/\RowsL 147 49 5 6 nx G (lags3 p gs g i 0))
    (fun i=>p.defs.length+1-i) 0 .auto ⟨by omega,Nat.zero_le _,g0,hrows.frame rfl (Nat.le_refl _) (by omega) fun _ _ _ _=>rfl⟩ ?_
   clear hrows g0
   rintro i nx3 G3 ⟨hnx3,hi,g0,hrows⟩
   refine BN ?_
   refine W.cond rfl (fun h3=>?_) (fun h3=>?_)
   ·have hil:i<=p.defs.length:=by have:=of_decide_eq_true h3;omega
    have hmu3:p.defs.length+1-(i+1) < p.defs.length+1-i:=by omega
    refine BN ?_
    refine W.loop (X:=Nat) (fun k=>[(1, .ptr 0 0),(3, .row 5 p.defs.length),(5, .imm (.lst ((reachR (tosR p)).map boolsIV))),(6, .imm (.lst (gs.map natsIV))),(7, .imm (.int .i64 g)),(8, .imm (.int .i64 i)),(9, .imm (.int .i64 k))])
     (fun k nx G=>8<=nx/\k<=gr.length/\G 0 = .box [.imm (.lst (p.srcs.map sv)), .imm (.lst (p.defs.map Dfn.iv))] false/\RowsL 147 49 5 6 nx G (lags3 p gs g i k))
     (fun k=>gr.length-k) 0 .auto ⟨by omega,Nat.zero_le _,g0,hrows.frame rfl (Nat.le_refl _) (by omega) fun _ _ _ _=>rfl⟩ ?_
    clear hrows g0
    rintro k nx4 G4 ⟨hnx4,hk,g0,hrows⟩
    refine BN ?_
    refine W.cond rfl (fun h4=>?_) (fun h4=>?_)
    ·have hkl:k < gr.length:=by have:=of_decide_eq_true h4;omega
     have hmu4:gr.length-(k+1) < gr.length-k:=by omega
     obtain ⟨d,hd⟩:=at_lt hkl
     have hdi:=at_map natIV hd
     have hdl:=hgd d (List.mem_of_getElem? hd)
     obtain ⟨x,hx⟩:=at_lt hdl
     have hxi:=at_map Dfn.iv hx
     have hc:=fun nx5 (h:nx4<=nx5)=>hall (lags3 p gs g i k) (hw i k) (hin i k (by omega)) d hdl G4 nx5 6 nx4 (.row 5 (lags3 p gs g i k).length) (.inr ⟨5,by omega,rfl,hrows⟩) h
     rw [(hw i k).len] at hc
     have hst:=hnxt i k d hd
     have hring:=hgi2.ring d (List.mem_of_getElem? hd)
     rw [expAt_at hx] at hc
     have hrow:rowL p (ringB (tosR p) gr) (lags3 p gs g i k) d=(allL p (lags3 p gs g i k) x.exp).map (ringL (ringB (tosR p) gr)):=by unfold rowL;rw [expAt_at hx]
     have hal:=allL_in (p:=p) (by omega) (hin i k (by omega)) (e:=x.exp) (by rw [<-expAt_at hx];exact hsm.node d hdl) (by rw [<-expAt_at hx];exact hsm.cnt d)
     have hall_len:(allL p (lags3 p gs g i k) x.exp).length=p.srcs.length:=by simp [allL]
     generalize allL p (lags3 p gs g i k) x.exp=al at *
     have hxc:=x.cells_len
     obtain ⟨nm,⟨o',s',n',f',c',k'⟩⟩:=x
     refine BN ?_
     refine D.callB rfl rfl rfl rfl rfl (by kernel_rfl) ((hc _ (by omega)).mono fun v G5 nx5 hv=>?_)
     obtain ⟨⟨ov,hv1,hv2,rfl,hv3⟩,hn5,hG5⟩:=hv
     have hdt:d < (tosR p).length:=by rw [htl];exact hdl
     have hr1:((reachR (tosR p)).map boolsIV)[(d:Int).toNat]? = some (boolsIV (reachRow (tosR p) (tosR p).length d)):=by
      rw [Int.toNat_natCast,List.getElem?_map];simp [reachR,hdt]
     have hr2:((reachRow (tosR p) (tosR p).length d).map IV.bool)[(d:Int).toNat]? = some (.bool (ringB (tosR p) gr)):=by
      rw [Int.toNat_natCast,List.getElem?_map,<-hring];simp [reachRow,hdt]
     have hali:∀ s,(al.getD s Lg.z).In 4294967296:=fun s=>by
      rw [List.getD_eq_getElem?_getD]
      cases hs:al[s]? with
      |none=>exact Lg.inz (by omega)
      |some a=>exact (hal a (List.mem_of_getElem? hs)).mono (by omega)
     have hb0:∀ o,o < nx4->G5 o=G4 o:=fun o ho=>(hG5 o (by omega)).trans rfl
     have g05:=(hb0 0 (by omega)).trans g0
     have hrows5:=hrows.frame (G':=G5) (hb0 5 (by omega)) (Nat.le_refl _) (Nat.le_refl _) fun o _ ho _=>hb0 o ho
     have hrange:=getD_range (L:=al) hall_len
     have hE5:=(hw i k).len
     clear hc hG5 hrows hb0 g0 hal
     generalize lags3 p gs g i k=E at *
     generalize hrb:ringB (tosR p) gr=rb at *
     refine BN ?_
     refine W.loop (X:=Nat) (fun s=>[(1, .ptr 0 0),(3, .row 5 p.defs.length),(5, .imm (.lst ((reachR (tosR p)).map boolsIV))),(6, .imm (.lst (gs.map natsIV))),(7, .imm (.int .i64 g)),(8, .imm (.int .i64 i)),(9, .imm (.int .i64 k)),(10, .imm (natIV d)),(11, .row ov al.length),(12, .imm (.int .i64 s))])
      (fun s nx G=>nx5<=nx/\s<=al.length/\(rb=false->s=0)/\G 0 = .box [.imm (.lst (p.srcs.map sv)), .imm (.lst (p.defs.map Dfn.iv))] false/\RowsL 147 49 5 6 nx4 G E/\G ov = .row 147 4 (((mixL al.length s (fun s=>(al.getD s Lg.z).thru true 0 0) fun s=>al.getD s Lg.z).map Lg.iv).map .imm) false)
      (fun s=>al.length-s) 0 .auto ⟨by omega,Nat.zero_le _,fun _=>rfl,g05,hrows5,by rw [mixL_zero,hall_len,hrange];exact hv3⟩ ?_
     clear g05 hrows5 hv3
     rintro s nx6 G6 ⟨hnx6,hs,hs0,g0,hrows,gv⟩
     have hml:=mixL_ivlen (n:=al.length) (j:=s) (f:=fun s=>(al.getD s Lg.z).thru true 0 0) (g:=fun s=>al.getD s Lg.z)
     by_cases hgo:s < al.length/\rb=true
     ·obtain ⟨hsl,rfl⟩:=hgo
      have hcj:decide ((s:Int) < (al.length:Int))=true:=decide_eq_true (by omega)
      have hat:=mixL_ivat (f:=fun s=>(al.getD s Lg.z).thru true 0 0) (g:=fun s=>al.getD s Lg.z) hsl
      have h446:=ret446 (ev:=true) (bk:=0) (ah:=0) (hali s) (by omega) (by omega)
      have hset:=mixL_set (f:=fun s=>(al.getD s Lg.z).thru true 0 0) (g:=fun s=>al.getD s Lg.z) hsl
      have hmu6:al.length-(s+1) < al.length-s:=by omega
      refine BN ?_
      refine R.opN1 (O.storeRS (by decide) rfl rfl rfl gv mixL_ivlen (mixL_ivat hsl) rfl rfl) ?_
      refine BN ?_
      exact W.skipLop (s+1) hmu6 .auto ⟨by omega,hsl,(fun h=>by cases h),(upd_ne _ _ _ _ (by omega)).trans g0,hrows.frame (upd_ne _ _ _ _ (by omega)) (Nat.le_refl _) (Nat.le_refl _) fun o _ ho _=>upd_ne _ _ _ _ (by omega),(upd_same ..).trans (congrArg (fun x=>Obj.row 147 4 x false) hset)⟩
     ·have hfin:mixL al.length s (fun s=>(al.getD s Lg.z).thru true 0 0) (fun s=>al.getD s Lg.z)=al.map (ringL rb):=by
       cases rb with
       |false=>
        obtain rfl:=hs0 rfl
        rw [mixL_zero,getD_range rfl]
        exact (List.map_id' al).symm
       |true=>
        have:s=al.length:=by have:¬ s < al.length:=fun h=>hgo ⟨h,rfl⟩;omega
        subst this
        rw [mixL_all]
        conv=>rhs;rw [<-getD_range (L:=al) rfl]
        rw [List.map_map];rfl
      rw [hfin] at gv hml
      have hrl:(al.map (ringL rb)).length=al.length:=List.length_map ..
      obtain ⟨ws,hwl,h5,hset⟩:=(hrows.frame (G':=G6) (hi':=nx6) rfl (Nat.le_refl _) (by omega) fun _ _ _ _=>rfl).set (v := .row ov al.length) (l:=al.map (ringL rb)) ⟨ov,false,by omega,by omega,by rw [hrl],gv⟩ d
      have hwl':ws.length=p.defs.length:=by omega
      obtain ⟨wd,hwd⟩:∃ w,ws[d]? = some w:=at_lt (by omega)
      obtain ⟨ws2,hw21,hw22,hw23⟩:=hrows
      have hwe:ws2=ws:=by rw [h5] at hw22;cases hw22;rfl
      subst hwe
      obtain ⟨ld,hld⟩:∃ r,E[d]? = some r:=at_lt (by omega)
      obtain ⟨wd',hwd1,hwd2⟩:=hw23.at hld
      obtain ⟨o2,fr2,ho21,ho22,rfl,ho23⟩:=hwd2
      have hwi:ws2[(d:Int).toNat]? = some (.row o2 ld.length):=by rw [Int.toNat_natCast];exact hwd1
      have hcase:decide ((s:Int) < (al.length:Int))=false\/(decide ((s:Int) < (al.length:Int))=true/\rb=false):=by
       by_cases h:s < al.length
       ·right
        refine ⟨decide_eq_true (by omega),?_⟩
        cases rb with
        |false=>rfl
        |true=>exact absurd ⟨h,rfl⟩ hgo
       ·exact .inl (decide_eq_false (by omega))
      rcases hcase with hcj|⟨hcj,rfl⟩
      all_goals
       refine BN ?_
       refine R.opN1 (O.storeR rfl rfl rfl rfl h5 hwl' hwi rfl rfl) ?_
       refine BN ?_
       exact W.skipLop (k+1) hmu4 .auto ⟨by omega,hkl,(upd_ne _ _ _ _ (by omega)).trans g0,by rw [hst];unfold setL;rw [hrow];exact hset.frame rfl (Nat.le_refl _) (by omega) fun _ _ _ _=>rfl⟩
    ·have hge:k=gr.length:=by have:=of_decide_eq_false h4;omega
     subst hge
     rw [hrnd] at hrows
     refine BN ?_
     exact W.skipLop (i+1) hmu3 .auto ⟨by omega,by omega,g0,hrows.frame rfl (Nat.le_refl _) (by omega) fun _ _ _ _=>rfl⟩
   ·have hge:i=p.defs.length+1:=by have:=of_decide_eq_false h3;omega
    subst hge
    rw [hnext] at hrows
    refine BN ?_
    exact W.skipLop (g+1) hmu .auto ⟨by omega,hlt,g0,hrows.frame rfl (Nat.le_refl _) (by omega) fun _ _ _ _=>rfl⟩
  ·have hge:gs.length<=g:=by have:=of_decide_eq_false h2;omega
   rw [List.take_of_length_le hge] at hrows
   have hl:=((lags_so hpr gs.length).wide).len
   refine BN ?_
   have hrd:=hrows.rdx
   rw [<-List.take_of_length_le (l:=gs) (i:=gs.length) (Nat.le_refl _)] at hrd
   rw [hgsE,List.take_of_length_le (Nat.le_refl _)] at hl
   rw [List.take_of_length_le (l:=gs) (i:=gs.length) (Nat.le_refl _),hl] at hrd
   exact W.retFin1 rfl (hrd.peek (by decide))
end Go.Abs

/- The reference: marks that are needed; which times meet. -/
open Go Go.Abs
namespace Go.Abs
set_option maxRecDepth 100000
set_option maxHeartbeats 4000000
instance fnis395:FnIs CC 95:=⟨rfl,fun _=>rfl⟩
instance fnis392:FnIs CC 92:=⟨rfl,fun _=>rfl⟩
instance fnis396:FnIs CC 96:=⟨rfl,fun _=>rfl⟩
instance fnis347:FnIs CC 47:=⟨rfl,fun _=>rfl⟩
def meetsB (a:Lg) (t w:Int):Bool:=a.on&&decide (w<=t+a.ahead)&&(a.ever||decide (w>=t-a.back))
theorem ret396 {a:Lg} (h:a.In 4294967296) {t w:Int} (ht:0<=t/\t<=201):Ret CC 96 [a.iv, .int .i64 t, .int .i64 w] (.bool (meetsB a t w)):=by
 have h1:=h.back
 have h2:=h.ahead
 obtain ⟨on,e,b,f⟩:=a
 simp only at h1 h2
 rw [Lg.iv_mk]
 refine Ret.of (fn:=Go.Proofs.Tryz.f96) (by kernel_rfl) rfl rfl ?_
 cases on
 ·refine BB ?_
  exact W.retFin1 rfl ⟨[],rfl⟩
 ·unfold meetsB
  simp only [Bool.true_and]
  cases hc:decide (w<=t+f) with
  |false=>
   refine BB ?_
   exact W.retFin1 rfl ⟨[],rfl⟩
  |true=>
   cases e
   ·refine BB ?_
    exact W.retFin1 rfl ⟨[],rfl⟩
   ·refine BB ?_
    exact W.retFin1 rfl ⟨[],rfl⟩
theorem ret395 {l:List Lg} (hl:l.length<=1000) (h:∀ a∈l,a.In 4294967296) {t:Int} (ht:0<=t/\t<=201):Ret CC 95 [lagsIV l, .int .i64 t] (intsIV (l.map fun a=>needN a t)):=by
 have hlm:(l.map Lg.iv).length=l.length:=List.length_map ..
 refine Ret.of (fn:=Go.Proofs.Tryz.f95) (by kernel_rfl) rfl rfl ?_
 refine BB ?_
 refine W.loop (X:=Nat×AV) (fun s=>[(0, .imm (lagsIV l)),(1, .imm (.int .i64 t)),(5,s.2),(6, .imm (.int .i64 s.1))])
  (fun s nx G=>s.1<=l.length/\Own 3 1 0 nx (((l.take s.1).map fun a=>needN a t).map intIV) G s.2) (fun s=>l.length-s.1) (0, .nils) .auto ⟨Nat.zero_le _, .inl ⟨rfl,rfl⟩⟩ ?_
 rintro ⟨i,w⟩ nx G ⟨hi,ho⟩
 dsimp only at hi ho ⊢
 refine BN ?_
 refine W.cond rfl (fun h1=>?_) (fun h1=>?_)
 ·have hlt:i < l.length:=by have:=of_decide_eq_true h1;rw [hlm] at this;omega
  obtain ⟨a,hx⟩:=at_lt hlt
  have hxi:=at_map Lg.iv hx
  have hmu:l.length-(i+1) < l.length-i:=by omega
  have hin:=(h a (List.mem_of_getElem? hx)).ahead
  have htk:((l.take (i+1)).map fun a=>needN a t).map intIV=((l.take i).map fun a=>needN a t).map intIV++[intIV (needN a t)]:=by rw [List.take_add_one,hx];simp
  have htl:(((l.take i).map fun a=>needN a t).map intIV).length<=1000:=by simp only [List.length_map,List.length_take];omega
  obtain ⟨on,e,b,f⟩:=a
  simp only at hin
  rw [Lg.iv_mk] at *
  cases on
  ·refine BN ?_
   refine R.app1 ho at_upd (by simp only [most];omega) fun v' G' ho' hG'=>?_
   refine BN ?_
   refine W.skipLop (i+1,v') hmu .auto ⟨hlt,?_⟩
   show Own _ _ _ _ (((l.take (i+1)).map fun a=>needN a t).map intIV) _ _
   rw [htk]
   exact ho'.up (by omega)
  ·have hm : -9223372036854775808<=mnI (t+f) 200+1/\mnI (t+f) 200+1<=9223372036854775807:=by rw [mnI_eq];omega
   unfold mnI at hm
   refine BN ?_
   refine R.app1 ho at_upd (by simp only [most];omega) fun v' G' ho' hG'=>?_
   refine BN ?_
   refine W.skipLop (i+1,v') hmu .auto ⟨hlt,?_⟩
   show Own _ _ _ _ (((l.take (i+1)).map fun a=>needN a t).map intIV) _ _
   rw [htk]
   exact ho'.up (by omega)
 ·have hge:l.length<=i:=by have:=of_decide_eq_false h1;rw [hlm] at this;omega
  rw [List.take_of_length_le hge] at ho
  refine BN ?_
  refine W.retFin1 rfl ?_
  exact ho.peek
end Go.Abs

/- Which answers an event touches. -/
open Go Go.Abs
namespace Go.Abs
set_option maxRecDepth 100000
set_option maxHeartbeats 4000000
instance fnis380:FnIs CC 80:=⟨rfl,fun _=>rfl⟩
instance fnis339:FnIs CC 39:=⟨rfl,fun _=>rfl⟩
instance fnis340:FnIs CC 40:=⟨rfl,fun _=>rfl⟩
theorem ret380 {p:Pgm} (hp:p.Fits) (d:Int):Ret CC 80 [p.iv, .int .i64 d] (.bool (hasR p d)):=by
 have h29:=ret29 p hp
 have hdm:(p.defs.map Dfn.iv).length=p.defs.length:=List.length_map ..
 unfold hasR
 cases hpr:progR p with
 |false=>
  rw [hpr] at h29
  obtain ⟨srcs,defs⟩:=p
  have bz:((2:Int)==0)=false:=rfl
  refine Ret.of (fn:=Go.Proofs.Tryz.f80) (by kernel_rfl) rfl rfl ?_
  refine BB ?_
  exact W.retFin1 rfl ⟨[],rfl⟩
 |true=>
  rw [hpr] at h29
  obtain ⟨srcs,defs⟩:=p
  have bz:((0:Int)==0)=true:=rfl
  simp only [Bool.true_and]
  rw [<-hdm]
  refine Ret.of (fn:=Go.Proofs.Tryz.f80) (by kernel_rfl) rfl rfl ?_
  cases h0:decide (d>=0) with
  |false=>
   refine BB ?_
   exact W.retFin1 rfl ⟨[],rfl⟩
  |true=>
   refine BB ?_
   exact W.retFin1 rfl ⟨[],rfl⟩
def touchF (a:Lg) (w:Int):Int:=mxI 0 (w-a.ahead)
def touchL (a:Lg) (w:Int):Int:=if a.ever then 200 else mnI 200 (w+a.back)
def touchT (a:Lg) (w:Int):Int×Int×Int:=if a.on then (if decide (touchF a w > touchL a w) then (0,0,5) else (touchF a w,touchL a w,0)) else (0,0,5)
noncomputable def touchA (p:Pgm) (d src w:Int):Int×Int×Int:=
 if hasR p d && !decide (src < 0) && !decide (src>=(p.srcs.length:Int)) && !decide (w < 0) && !decide (w > 200) then touchT (((lagsR p).getD d.toNat []).getD src.toNat Lg.z) w else (0,0,2)
def trip (x:Int×Int×Int):IV := .tup [.int .i64 x.1, .int .i64 x.2.1, .int .i64 x.2.2]
theorem lagsR_far {p:Pgm} (hp:progR p=true):Wide p (lagsR p)/\InL 40000000 (lagsR p):=by
 have h:=lags_so hp (orderR (tosR p)).length
 rw [List.take_length] at h
 have h6:=(order_small hp).1
 exact ⟨h.wide,h.low.mono (by omega)⟩
theorem lagsR_row {p:Pgm} (hp:progR p=true) {d:Nat} (hd:d < p.defs.length):((lagsR p).map lagsIV)[(d:Int).toNat]? = some (lagsIV ((lagsR p).getD d []))/\((lagsR p).getD d []).length=p.srcs.length/\∀ a∈(lagsR p).getD d [],a.In 40000000/\a.Ok:=by
 obtain ⟨h1,h2⟩:=lagsR_far hp
 have hlt:d < (lagsR p).length:=by rw [h1.len];exact hd
 rw [List.getD_eq_getElem?_getD,List.getElem?_eq_getElem hlt]
 refine ⟨by rw [Int.toNat_natCast,List.getElem?_map,List.getElem?_eq_getElem hlt];rfl,h1.row _ (List.getElem_mem hlt),fun a ha=>⟨h2 _ (List.getElem_mem hlt) a ha,h1.ok _ (List.getElem_mem hlt) a ha⟩⟩
theorem ret339 {p:Pgm} (hp:p.Fits) (d src w:Int):Ret CC 39 [p.iv, .int .i64 d, .int .i64 src, .int .i64 w] (trip (touchA p d src w)):=by
 have h380:=ret380 hp d
 have hss:(p.srcs.map sv).length=p.srcs.length:=List.length_map ..
 unfold touchA
 cases hh:hasR p d with
 |false=>
  rw [hh] at h380
  obtain ⟨srcs,defs⟩:=p
  have bt:(!false)=true:=rfl
  refine Ret.of (fn:=Go.Proofs.Tryz.f39) (by kernel_rfl) rfl rfl ?_
  refine BB ?_
  exact W.retFin rfl rfl ⟨[],rfl⟩
 |true=>
  obtain ⟨hpr,n,x,rfl,hx⟩:=hasR_at hh
  have hdl:=(List.getElem?_eq_some_iff.1 hx).1
  have h376:=ret376 hp hpr
  obtain ⟨hrow,hrl,hri⟩:=lagsR_row hpr hdl
  rw [Int.toNat_natCast]
  unfold knIV at h376
  generalize (lagsR p).getD n []=row at *
  generalize (lagsR p).map lagsIV=E at *
  rw [hh] at h380
  rw [<-hss]
  have bf:(!true)=false:=rfl
  cases h1:decide (src < 0) with
  |true=>
   refine Ret.of (fn:=Go.Proofs.Tryz.f39) (by kernel_rfl) rfl rfl ?_
   refine BB ?_
   exact W.retFin rfl rfl ⟨[],rfl⟩
  |false=>
   cases h2:decide (src>=((p.srcs.map sv).length:Int)) with
   |true=>
    refine Ret.of (fn:=Go.Proofs.Tryz.f39) (by kernel_rfl) rfl rfl ?_
    refine BB ?_
    exact W.retFin rfl rfl ⟨[],rfl⟩
   |false=>
    cases h3:decide (w < 0) with
    |true=>
     refine Ret.of (fn:=Go.Proofs.Tryz.f39) (by kernel_rfl) rfl rfl ?_
     refine BB ?_
     exact W.retFin rfl rfl ⟨[],rfl⟩
    |false=>
     cases h4:decide (w > 200) with
     |true=>
      refine Ret.of (fn:=Go.Proofs.Tryz.f39) (by kernel_rfl) rfl rfl ?_
      refine BB ?_
      exact W.retFin rfl rfl ⟨[],rfl⟩
     |false=>
      have g1:=of_decide_eq_false h1
      have g2:=of_decide_eq_false h2
      have g3:=of_decide_eq_false h3
      have g4:=of_decide_eq_false h4
      obtain ⟨s,rfl⟩:=Int.eq_ofNat_of_zero_le (show 0<=src by omega)
      have hsl:s < row.length:=by omega
      have hat:=lag_ivat hsl
      have hai:=getD_in (K:=40000000) (by omega) (fun a ha=>(hri a ha).1) s
      rw [Int.toNat_natCast]
      generalize row.getD s Lg.z=a at *
      have hb:=hai.back
      have ha:=hai.ahead
      obtain ⟨on,e,b,f⟩:=a
      simp only at ha hb
      rw [Lg.iv_mk] at *
      have hneg:w-f=w + -f:=Int.sub_eq_add_neg
      refine Ret.of (fn:=Go.Proofs.Tryz.f39) (by kernel_rfl) rfl rfl ?_
      cases on with
      |false=>
       cases e
       all_goals
        refine BB ?_
        exact W.retFin rfl rfl ⟨[],rfl⟩
      |true=>
       unfold touchT
       rcases Bool.eq_false_or_eq_true (decide (touchF ⟨true,e,b,f⟩ w > touchL ⟨true,e,b,f⟩ w)) with hd|hd
       all_goals
        rw [hd]
        unfold touchF touchL mxI mnI at *
        simp only [hneg] at *
        cases e
        all_goals
         simp only [Bool.false_eq_true,if_false,if_true] at hd ⊢
         refine BB ?_
         exact W.retFin rfl rfl ⟨[],rfl⟩
end Go.Abs

/- Which answers an event touches: the reference. -/
open Go Go.Abs
namespace Go.Abs
set_option maxRecDepth 100000
set_option maxHeartbeats 4000000
structure TouchAt (a:Lg) (w:Int) (t:Nat) (x y:Int):Prop where
 no:x = -1->y = -1/\∀ s:Nat,s < t->meetsB a s w=false
 yes:x ≠ -1->0<=x/\x<=y/\y < t/\meetsB a x w=true/\meetsB a y w=true/\(∀ s:Nat,(s:Int) < x->meetsB a s w=false)/\∀ s:Nat,y < s->s < t->meetsB a s w=false
theorem TouchAt.skip {a:Lg} {w:Int} {t:Nat} {x y:Int} (h:TouchAt a w t x y) (hm:meetsB a t w=false):TouchAt a w (t+1) x y where
 no:=fun hx=>⟨(h.no hx).1,fun s hs=>by
  rcases Nat.lt_or_eq_of_le (Nat.le_of_lt_succ hs) with h1|rfl
  ·exact (h.no hx).2 s h1
  ·exact hm⟩
 yes:=fun hx=>by
  obtain ⟨h0,h1,h2,h3,h4,h5,h6⟩:=h.yes hx
  refine ⟨h0,h1,by omega,h3,h4,h5,fun s hs1 hs2=>?_⟩
  rcases Nat.lt_or_eq_of_le (Nat.le_of_lt_succ hs2) with h7|rfl
  ·exact h6 s hs1 h7
  ·exact hm
theorem TouchAt.first {a:Lg} {w:Int} {t:Nat} {y:Int} (h:TouchAt a w t (-1) y) (hm:meetsB a t w=true):TouchAt a w (t+1) t t where
 no:=fun hx=>by omega
 yes:=fun _=>⟨by omega,Int.le_refl _,by omega,hm,hm,fun s hs=>(h.no rfl).2 s (by omega),fun s hs1 hs2=>by omega⟩
theorem TouchAt.next {a:Lg} {w:Int} {t:Nat} {x y:Int} (h:TouchAt a w t x y) (hx:x ≠ -1) (hm:meetsB a t w=true):TouchAt a w (t+1) x t where
 no:=fun hc=>absurd hc hx
 yes:=fun hx=>by
  obtain ⟨h0,h1,h2,h3,h4,h5,h6⟩:=h.yes hx
  exact ⟨h0,by omega,by omega,h3,hm,h5,fun s hs1 hs2=>by omega⟩
theorem meets_iff {a:Lg} {t w:Int}:meetsB a t w=true↔a.on=true/\w-a.ahead<=t/\(a.ever=true\/t<=w+a.back):=by
 unfold meetsB
 simp only [Bool.and_eq_true,Bool.or_eq_true,decide_eq_true_eq]
 constructor
 ·rintro ⟨⟨h1,h2⟩,h3⟩
  exact ⟨h1,by omega,h3.imp id fun h=>by omega⟩
 ·rintro ⟨h1,h2,h3⟩
  exact ⟨⟨h1,by omega⟩,h3.imp id fun h=>by omega⟩
theorem touch_end {a:Lg} {w x y:Int} (h:TouchAt a w 201 x y):touchT a w=if decide (x < 0) then (0,0,5) else (x,y,0):=by
 have hm:∀ t:Int,0<=t->t<=200->(meetsB a t w=true↔a.on=true/\touchF a w<=t/\t<=touchL a w):=fun t h0 h1=>by
  rw [meets_iff]
  unfold touchF touchL
  rw [mxI_eq,mnI_eq]
  cases a.ever<;>simp<;>omega
 have hF:0<=touchF a w:=by unfold touchF;rw [mxI_eq];omega
 have hL:touchL a w<=200:=by unfold touchL;rw [mnI_eq];split<;>omega
 unfold touchT
 by_cases hx:x = -1
 ·obtain ⟨_,hno⟩:=h.no hx
  rw [decide_eq_true (show x < 0 by omega)]
  simp only [if_true]
  cases ho:a.on with
  |false=>rfl
  |true=>
   simp only [if_true]
   rw [decide_eq_true,if_pos rfl]
   refine Classical.byContradiction fun hc=>?_
   have h1:=(hm (touchF a w) hF (by omega)).2 ⟨ho,Int.le_refl _,by omega⟩
   have h2:=hno (touchF a w).toNat (by omega)
   rw [Int.toNat_of_nonneg hF] at h2
   rw [h1] at h2;cases h2
 ·obtain ⟨h0,h1,h2,h3,h4,h5,h6⟩:=h.yes hx
  have e1:=(hm x h0 (by omega)).1 h3
  have e2:=(hm y (by omega) (by omega)).1 h4
  have h2':y < 201:=h2
  rw [decide_eq_false (show ¬ x < 0 by omega)]
  simp only [e1.1,if_true,Bool.false_eq_true,if_false]
  rw [decide_eq_false (by omega)]
  simp only [Bool.false_eq_true,if_false]
  have f1:touchF a w=x:=by
   refine Int.le_antisymm e1.2.1 (Int.not_lt.1 fun hc=>?_)
   have g1:=(hm (touchF a w) hF (by omega)).2 ⟨e1.1,Int.le_refl _,by omega⟩
   have g2:=h5 (touchF a w).toNat (by omega)
   rw [Int.toNat_of_nonneg hF] at g2
   rw [g1] at g2;cases g2
  have f2:touchL a w=y:=by
   refine Int.le_antisymm (Int.not_lt.1 fun hc=>?_) e2.2.2
   have g1:=(hm (touchL a w) (by omega) hL).2 ⟨e1.1,by omega,Int.le_refl _⟩
   have g2:=h6 (touchL a w).toNat (by omega) (by omega)
   rw [Int.toNat_of_nonneg (by omega)] at g2
   rw [g1] at g2;cases g2
  rw [f1,f2]
theorem ret340 {p:Pgm} (hp:p.Fits) (d src w:Int):Ret CC 40 [p.iv, .int .i64 d, .int .i64 src, .int .i64 w] (trip (touchA p d src w)):=by
 have h50:=ret50 p hp d
 have hss:(p.srcs.map sv).length=p.srcs.length:=List.length_map ..
 unfold touchA
 cases hh:hasR p d with
 |false=>
  rw [hh] at h50
  obtain ⟨srcs,defs⟩:=p
  have bt:(!false)=true:=rfl
  refine Ret.of (fn:=Go.Proofs.Tryz.f40) (by kernel_rfl) rfl rfl ?_
  refine BB ?_
  exact W.retFin rfl rfl ⟨[],rfl⟩
 |true=>
  obtain ⟨hpr,n,x,rfl,hx⟩:=hasR_at hh
  have hdl:=(List.getElem?_eq_some_iff.1 hx).1
  have h379:=ret379 hp hpr
  obtain ⟨hrow,hrl,hri⟩:=lagsR_row hpr hdl
  rw [Int.toNat_natCast]
  generalize (lagsR p).getD n []=row at *
  generalize (lagsR p).map lagsIV=E at *
  rw [hh] at h50
  rw [<-hss]
  have bf:(!true)=false:=rfl
  cases h1:decide (src < 0) with
  |true=>
   refine Ret.of (fn:=Go.Proofs.Tryz.f40) (by kernel_rfl) rfl rfl ?_
   refine BB ?_
   exact W.retFin rfl rfl ⟨[],rfl⟩
  |false=>
   cases h2:decide (src>=((p.srcs.map sv).length:Int)) with
   |true=>
    refine Ret.of (fn:=Go.Proofs.Tryz.f40) (by kernel_rfl) rfl rfl ?_
    refine BB ?_
    exact W.retFin rfl rfl ⟨[],rfl⟩
   |false=>
    cases h3:decide (w < 0) with
    |true=>
     refine Ret.of (fn:=Go.Proofs.Tryz.f40) (by kernel_rfl) rfl rfl ?_
     refine BB ?_
     exact W.retFin rfl rfl ⟨[],rfl⟩
    |false=>
     cases h4:decide (w > 200) with
     |true=>
      refine Ret.of (fn:=Go.Proofs.Tryz.f40) (by kernel_rfl) rfl rfl ?_
      refine BB ?_
      exact W.retFin rfl rfl ⟨[],rfl⟩
     |false=>
      have g1:=of_decide_eq_false h1
      have g2:=of_decide_eq_false h2
      have g3:=of_decide_eq_false h3
      have g4:=of_decide_eq_false h4
      obtain ⟨s,rfl⟩:=Int.eq_ofNat_of_zero_le (show 0<=src by omega)
      have hsl:s < row.length:=by omega
      have hat:=lag_ivat hsl
      have hai:=getD_in (K:=40000000) (by omega) (fun a ha=>(hri a ha).1) s
      rw [Int.toNat_natCast]
      generalize row.getD s Lg.z=a at *
      have h396:=fun t ht=>ret396 (a:=a) (hai.mono (by omega)) (t:=t) (w:=w) ht
      have htend:=fun x y=>touch_end (a:=a) (w:=w) (x:=x) (y:=y)
      generalize touchT a w=T at *
      refine Ret.of (fn:=Go.Proofs.Tryz.f40) (by kernel_rfl) rfl rfl ?_
      refine BB ?_
      refine W.loop (X:=Nat×Int×Int) (fun s=>[(3, .imm (.int .i64 w)),(11, .ptr 35 0),(12, .imm (.int .i64 s.2.1)),(13, .imm (.int .i64 s.2.2)),(14, .imm (.int .i64 s.1))])
       (fun s nx G=>36<=nx/\s.1<=201/\G 35 = .box [.imm (.bool a.on), .imm (.bool a.ever), .imm (.int .i64 a.back), .imm (.int .i64 a.ahead)] false/\TouchAt a w s.1 s.2.1 s.2.2) (fun s=>201-s.1) (0, -1, -1) .auto ⟨by omega,by omega,?_,⟨fun _=>⟨rfl,fun _ h=>absurd h (Nat.not_lt_zero _)⟩,fun h=>absurd rfl h⟩⟩ ?_
      ·rfl
      ·rintro ⟨t,x,y⟩ nx G ⟨hnx,ht,gB,hT⟩
       dsimp only at ht hT ⊢
       refine BN ?_
       refine W.cond rfl (fun h5=>?_) (fun h5=>?_)
       ·have ht2:t<=200:=by have:=of_decide_eq_true h5;omega
        have hmu:201-(t+1) < 201-t:=by omega
        have hc:=h396 t (by omega)
        cases hm:meetsB a t w with
        |false=>
         rw [hm] at hc
         refine BN ?_
         exact W.skipLop (t+1,x,y) hmu .auto ⟨by omega,by omega,gB,hT.skip hm⟩
        |true=>
         rw [hm] at hc
         by_cases hx:x = -1
         ·subst hx
          have hd:decide ((-1:Int) < 0)=true:=rfl
          refine BN ?_
          exact W.skipLop (t+1,t,t) hmu .auto ⟨by omega,by omega,gB,hT.first hm⟩
         ·have hx0:=(hT.yes hx).1
          have hd:decide (x < 0)=false:=decide_eq_false (by omega)
          refine BN ?_
          exact W.skipLop (t+1,x,t) hmu .auto ⟨by omega,by omega,gB,hT.next hx hm⟩
       ·have ht2:t=201:=by have:=of_decide_eq_false h5;omega
        subst ht2
        rw [htend x y hT]
        cases hd:decide (x < 0) with
        |true=>
         refine BN ?_
         exact W.retFin rfl rfl ⟨[],rfl⟩
        |false=>
         refine BN ?_
         exact W.retFin rfl rfl ⟨[],rfl⟩
end Go.Abs

/- Marks that are needed: both sides. -/
open Go Go.Abs
namespace Go.Abs
set_option maxRecDepth 100000
set_option maxHeartbeats 4000000
instance fnis336:FnIs CC 36:=⟨rfl,fun _=>rfl⟩
instance fnis337:FnIs CC 37:=⟨rfl,fun _=>rfl⟩
theorem own_tup {e sz lo hi:Nat} {xs:List IV} {G:Nat->Obj} {v:AV} {n:IV} (h:Own e sz lo hi xs G v):∃ ids,Go.Abs.peek G pkDepth (mkTup [v, .imm n])=some (.tup [.lst xs,n],ids):=by
 have hr:=h.rdx
 rcases h with ⟨rfl,rfl⟩|⟨o,_,_,rfl,_⟩
 ·exact ⟨[],rfl⟩
 ·exact (Rdx.tup (d:=1) (vs:=[.row o xs.length, .imm n]) (xs:=[.lst xs,n]) ⟨hr,Rdx.imm _ _ _ _,trivial⟩).peek (by decide)
noncomputable def needA (p:Pgm) (d t:Int):List Int×Int:=
 if hasR p d && !decide (t < 0) && !decide (t > 200) then (((lagsR p).getD d.toNat []).map fun a=>needN a t,0) else ([],2)
def pairIV (x:List Int×Int):IV := .tup [intsIV x.1, .int .i64 x.2]
theorem cal394 {a:Lg} {i b:Nat} {t:Int} {fr:Bool} {G:Nat->Obj} {nx:Nat} (h:a.In 4294967296) (ht:0<=t/\t<=201) (hb:G b = .box [.imm (.int .i64 t)] fr) (hlt:b < nx) :
  Cal CC 94 [.imm (natIV i), .imm a.iv, .ptr b 0] G nx fun v G' nx'=>v = .imm (.int .i64 (needN a t))/\nx<=nx'/\∀ o,o < nx->G' o=G o:=by
 have h391:=ret391 h ht
 generalize needN a t=n at *
 obtain ⟨on,e,bk,f⟩:=a
 rw [Lg.iv_mk] at *
 refine Cal.of (fn:=Go.Proofs.Tryz.f94) (by kernel_rfl) rfl rfl ?_
 refine BN ?_
 exact W.retFin1 rfl ⟨rfl,by omega,fun o ho=>at_upd⟩
theorem ret336 {p:Pgm} (hp:p.Fits) (d t:Int):Ret CC 36 [p.iv, .int .i64 d, .int .i64 t] (pairIV (needA p d t)):=by
 have h380:=ret380 hp d
 unfold needA
 cases hh:hasR p d with
 |false=>
  rw [hh] at h380
  obtain ⟨srcs,defs⟩:=p
  have bt:(!false)=true:=rfl
  refine Ret.of (fn:=Go.Proofs.Tryz.f36) (by kernel_rfl) rfl rfl ?_
  refine BB ?_
  exact W.retFin2 rfl rfl ⟨[],rfl⟩
 |true=>
  obtain ⟨hpr,n,x,rfl,hx⟩:=hasR_at hh
  have hdl:=(List.getElem?_eq_some_iff.1 hx).1
  have h376:=ret376 hp hpr
  obtain ⟨hrow,hrl,hri⟩:=lagsR_row hpr hdl
  have h4:=(progR_small hpr).srcs
  rw [Int.toNat_natCast]
  unfold knIV at h376
  generalize (lagsR p).getD n []=row at *
  generalize (lagsR p).map lagsIV=E at *
  rw [hh] at h380
  have bf:(!true)=false:=rfl
  cases h1:decide (t < 0) with
  |true=>
   refine Ret.of (fn:=Go.Proofs.Tryz.f36) (by kernel_rfl) rfl rfl ?_
   refine BB ?_
   exact W.retFin2 rfl rfl ⟨[],rfl⟩
  |false=>
   cases h2:decide (t > 200) with
   |true=>
    refine Ret.of (fn:=Go.Proofs.Tryz.f36) (by kernel_rfl) rfl rfl ?_
    refine BB ?_
    exact W.retFin2 rfl rfl ⟨[],rfl⟩
   |false=>
    have g1:=of_decide_eq_false h1
    have g2:=of_decide_eq_false h2
    refine Ret.of (fn:=Go.Proofs.Tryz.f36) (by kernel_rfl) rfl rfl ?_
    refine BB ?_
    refine R.callB rfl rfl rfl rfl rfl ((cal393 (l:=row) (lo:=0) (hi:=0) (g:=fun _ a => .int .i64 (needN a t)) rfl rfl (fun _ _=>rfl) (.inl rfl) (by omega) (by omega) fun i a hx G' nx' h5 h6=>cal394 ((hri a (List.mem_of_getElem? hx)).1.mono (by omega)) (by omega) ((h6 _ (by omega)).trans rfl) (by omega)).mono fun v G2 nx2 hv=>?_)
    obtain ⟨ho,hn2,hG2⟩:=hv
    refine BN ?_
    refine W.retFin2 rfl rfl ?_
    have he:row.mapIdx (fun _ a=>IV.int .i64 (needN a t))=(row.map fun a=>needN a t).map intIV:=by
     refine List.ext_getElem? fun s=>?_
     simp [List.getElem?_mapIdx,Function.comp_def,intIV]
    rw [he] at ho
    exact own_tup ho
theorem ret337 {p:Pgm} (hp:p.Fits) (d t:Int):Ret CC 37 [p.iv, .int .i64 d, .int .i64 t] (pairIV (needA p d t)):=by
 have h50:=ret50 p hp d
 unfold needA
 cases hh:hasR p d with
 |false=>
  rw [hh] at h50
  obtain ⟨srcs,defs⟩:=p
  have bt:(!false)=true:=rfl
  refine Ret.of (fn:=Go.Proofs.Tryz.f37) (by kernel_rfl) rfl rfl ?_
  refine BB ?_
  exact W.retFin2 rfl rfl ⟨[],rfl⟩
 |true=>
  obtain ⟨hpr,n,x,rfl,hx⟩:=hasR_at hh
  have hdl:=(List.getElem?_eq_some_iff.1 hx).1
  have h379:=ret379 hp hpr
  obtain ⟨hrow,hrl,hri⟩:=lagsR_row hpr hdl
  have h4:=(progR_small hpr).srcs
  rw [Int.toNat_natCast]
  generalize (lagsR p).getD n []=row at *
  generalize (lagsR p).map lagsIV=E at *
  rw [hh] at h50
  have bf:(!true)=false:=rfl
  cases h1:decide (t < 0) with
  |true=>
   refine Ret.of (fn:=Go.Proofs.Tryz.f37) (by kernel_rfl) rfl rfl ?_
   refine BB ?_
   exact W.retFin2 rfl rfl ⟨[],rfl⟩
  |false=>
   cases h2:decide (t > 200) with
   |true=>
    refine Ret.of (fn:=Go.Proofs.Tryz.f37) (by kernel_rfl) rfl rfl ?_
    refine BB ?_
    exact W.retFin2 rfl rfl ⟨[],rfl⟩
   |false=>
    have g1:=of_decide_eq_false h1
    have g2:=of_decide_eq_false h2
    have h395:=ret395 (l:=row) (t:=t) (by omega) (fun a ha=>(hri a ha).1.mono (by omega)) (by omega)
    refine Ret.of (fn:=Go.Proofs.Tryz.f37) (by kernel_rfl) rfl rfl ?_
    refine BB ?_
    exact W.retFin2 rfl rfl ⟨[],rfl⟩
end Go.Abs

/- Up to when answers are sealed by marks. -/
open Go Go.Abs
namespace Go.Abs
set_option maxRecDepth 100000
set_option maxHeartbeats 4000000
instance fnis334:FnIs CC 34:=⟨rfl,fun _=>rfl⟩
instance fnis335:FnIs CC 35:=⟨rfl,fun _=>rfl⟩
instance fnis388:FnIs CC 88:=⟨rfl,fun _=>rfl⟩
instance fnis458:FnIs CC 158:=⟨rfl,fun _=>rfl⟩
def markBad (m:Int):Bool:=decide (m < 0)||decide (m > 201)
def marksOk (marks:List Int) (n:Nat):Bool := !(marks.any markBad)&&marks.length==n
def opens (l:List Lg) (marks:List Int) (t:Int):Bool:=(List.range l.length).any fun s=>decide (needN (l.getD s Lg.z) t > marks.getD s 0)
def sealN (l:List Lg) (marks:List Int):Nat:=((List.range 201).findIdx? fun (t:Nat)=>opens l marks t).getD 201
theorem seal_is {l:List Lg} {marks:List Int} {t:Nat} (ht:t<=201) (hno:∀ s:Nat,s < t->opens l marks s=false) (hy:t=201\/opens l marks t=true):sealN l marks=t:=by
 unfold sealN
 by_cases h:t=201
 ·subst h
  rw [List.findIdx?_eq_none_iff.2 fun x hx=>hno x (List.mem_range.1 hx)];rfl
 ·have hy:=hy.resolve_left h
  have:((List.range 201).findIdx? fun (t:Nat)=>opens l marks t)=some t:=by
   rw [List.findIdx?_eq_some_iff_getElem]
   exact ⟨by rw [List.length_range];omega,by rw [List.getElem_range];exact hy,fun j hj=>by rw [List.getElem_range,hno j hj];decide⟩
  rw [this];rfl
theorem ints_ivat {a:List Int} {i:Nat} (h:i < a.length):(a.map intIV)[(i:Int).toNat]? = some (.int .i64 (a.getD i 0)):=by
 rw [Int.toNat_natCast,List.getElem?_map,List.getD_eq_getElem?_getD,List.getElem?_eq_getElem h];rfl
theorem cal387 {m:Int} {G:Nat->Obj} {nx:Nat}:Cal CC 87 [.imm (.int .i64 m)] G nx fun v G' nx'=>v = .imm (.bool (markBad m))/\nx<=nx'/\∀ o,o < nx->G' o=G o:=by
 unfold markBad
 refine Cal.of (fn:=Go.Proofs.Tryz.f87) (by kernel_rfl) rfl rfl ?_
 cases h:decide (m < 0) with
 |true=>
  refine BN ?_
  exact W.retFin1 rfl ⟨rfl,by omega,fun o ho=>rfl⟩
 |false=>
  refine BN ?_
  exact W.retFin1 rfl ⟨rfl,by omega,fun o ho=>rfl⟩
theorem any_take_end {a:List Int} {i:Nat} (hi:i < a.length) (h:markBad (a.getD i 0)=true):a.any markBad=true:=by
 rw [List.getD_eq_getElem?_getD,List.getElem?_eq_getElem hi] at h
 exact List.any_eq_true.2 ⟨a[i],List.getElem_mem hi,h⟩
theorem any_take_step {a:List Int} {i:Nat} (hi:i < a.length) (h0:(a.take i).any markBad=false) (h:markBad (a.getD i 0)=false):(a.take (i+1)).any markBad=false:=by
 rw [List.getD_eq_getElem?_getD,List.getElem?_eq_getElem hi] at h
 rw [List.take_add_one,List.getElem?_eq_getElem hi,List.any_append,h0]
 simpa using h
theorem cal457M {a:List Int} (hl:a.length<=maxI) {G:Nat->Obj} {nx:Nat}:Cal CC 157 [.imm (intsIV a), .imm (.fn (.func 87) [])] G nx fun v G' nx'=>∃ z:Int,v = .imm (.int .i64 z)/\decide (z>=0)=a.any markBad/\nx<=nx'/\∀ o,o < nx->G' o=G o:=by
 have hlm:(a.map intIV).length=a.length:=List.length_map ..
 have hl:a.length<=9223372036854775807:=hl
 refine Cal.of (fn:=Go.Proofs.Tryz.f157) (by kernel_rfl) rfl rfl ?_
 refine BN ?_
 refine W.loop (X:=Nat) (fun i=>[(0, .imm (intsIV a)),(1, .imm (.fn (.func 87) [])),(6, .imm (intsIV a)),(7, .imm (.int .i64 (a.map intIV).length)),(8, .imm (.int .i64 i))])
  (fun i nx1 G1=>i<=a.length/\nx<=nx1/\(∀ o,o < nx->G1 o=G o)/\(a.take i).any markBad=false) (fun i=>a.length-i) 0 .auto ⟨Nat.zero_le _,by omega,fun _ _=>rfl,rfl⟩ ?_
 rintro i nx1 G1 ⟨hi,hnx,hG,hno⟩
 refine BN ?_
 refine W.cond rfl (fun h1=>?_) (fun h1=>?_)
 ·have hlt:i < a.length:=by have:=of_decide_eq_true h1;rw [hlm] at this;omega
  have hxi:=ints_ivat hlt
  have hmu:a.length-(i+1) < a.length-i:=by omega
  refine BN ?_
  refine R.callB rfl rfl rfl rfl rfl (cal387.mono fun v G2 nx2 hv=>?_)
  obtain ⟨rfl,h2,h3⟩:=hv
  have hfr:∀ o,o < nx->G2 o=G o:=fun o ho=>(h3 o (by omega)).trans (hG o ho)
  cases hp:markBad (a.getD i 0) with
  |false=>
   refine BN ?_
   exact W.skipLop (i+1) hmu .auto ⟨hlt,by omega,hfr,any_take_step hlt hno hp⟩
  |true=>
   refine BN ?_
   exact W.retFin1 rfl ⟨_,rfl,by rw [any_take_end hlt hp];exact decide_eq_true (by omega),by omega,hfr⟩
 ·have hge:a.length<=i:=by have:=of_decide_eq_false h1;rw [hlm] at this;omega
  rw [List.take_of_length_le hge] at hno
  refine BN ?_
  exact W.retFin1 rfl ⟨-1,rfl,by rw [hno];rfl,by omega,hG⟩
theorem cal386M {a:List Int} (hl:a.length<=maxI) {G:Nat->Obj} {nx:Nat}:Cal CC 86 [.imm (intsIV a), .imm (.fn (.func 87) [])] G nx fun v G' nx'=>v = .imm (.bool (a.any markBad))/\nx<=nx'/\∀ o,o < nx->G' o=G o:=by
 refine Cal.of (fn:=Go.Proofs.Tryz.f86) (by kernel_rfl) rfl rfl ?_
 refine BN ?_
 refine R.callB rfl rfl rfl rfl rfl ((cal457M hl).mono fun v G2 nx2 hv=>?_)
 obtain ⟨z,rfl,h1,h2,h3⟩:=hv
 refine BN ?_
 exact W.retFin1 rfl ⟨by rw [<-h1],by omega,fun o ho=>(h3 o (by omega)).trans rfl⟩
theorem ret347 {a:List Int} (hl:a.length<=maxI) (n:Nat):Ret CC 47 [intsIV a,natIV n] (.bool (marksOk a n)):=by
 have hlm:(a.map intIV).length=a.length:=List.length_map ..
 have hl:a.length<=9223372036854775807:=hl
 refine Ret.of (fn:=Go.Proofs.Tryz.f47) (by kernel_rfl) rfl rfl ?_
 refine BB ?_
 refine W.loop (X:=Nat) (fun i=>[(0, .imm (intsIV a)),(1, .imm (natIV n)),(5, .imm (.int .i64 i))])
  (fun i nx1 G1=>i<=a.length/\(a.take i).any markBad=false) (fun i=>a.length-i) 0 .auto ⟨Nat.zero_le _,rfl⟩ ?_
 rintro i nx1 G1 ⟨hi,hno⟩
 refine BN ?_
 refine W.cond rfl (fun h1=>?_) (fun h1=>?_)
 ·have hlt:i < a.length:=by have:=of_decide_eq_true h1;rw [hlm] at this;omega
  have hxi:=ints_ivat hlt
  have hmu:a.length-(i+1) < a.length-i:=by omega
  have hend:=any_take_end hlt
  have hstep:=any_take_step hlt hno
  unfold markBad at hend hstep
  cases h2:decide (a.getD i 0 < 0) with
  |true=>
   refine BN ?_
   refine W.retFin1 rfl ⟨[],?_⟩
   unfold marksOk markBad
   rw [hend (by rw [h2];rfl)];rfl
  |false=>
   cases h3:decide (a.getD i 0 > 201) with
   |true=>
    refine BN ?_
    refine W.retFin1 rfl ⟨[],?_⟩
    unfold marksOk markBad
    rw [hend (by rw [h2,h3];rfl)];rfl
   |false=>
    refine BN ?_
    exact W.skipLop (i+1) hmu .auto ⟨hlt,hstep (by rw [h2,h3];rfl)⟩
 ·have hge:a.length<=i:=by have:=of_decide_eq_false h1;rw [hlm] at this;omega
  rw [List.take_of_length_le hge] at hno
  refine BN ?_
  refine W.retFin1 rfl ⟨[],?_⟩
  unfold marksOk
  rw [hno,<-hlm]
  have hb:(((a.map intIV).length:Int)==(n:Int))=((a.map intIV).length==n):=by
   rw [Bool.eq_iff_iff,beq_iff_eq,beq_iff_eq];omega
  show some (IV.bool _,[])=_
  rw [hb];rfl
theorem ret458 {l:List Bool} (hl:l.length<=1000):∃ z:Int,Ret CC 158 [.lst (l.map .bool), .bool true] (.int .i64 z)/\decide (z>=0)=l.any id:=by
 have hlm:(l.map IV.bool).length=l.length:=List.length_map ..
 refine ⟨match l.findIdx? id with|some i=>(i:Int)|none => -1,?_,?_⟩
 ·refine Ret.of (fn:=Go.Proofs.Tryz.f158) (by kernel_rfl) rfl rfl ?_
  refine BB ?_
  refine W.loop (X:=Nat) (fun i=>[(0, .imm (.lst (l.map .bool))),(1, .imm (.bool true)),(6, .imm (.lst (l.map .bool))),(7, .imm (.int .i64 (l.map IV.bool).length)),(8, .imm (.int .i64 i))])
   (fun i nx1 G1=>i<=l.length/\∀ j,j < i->∀ x,l[j]? = some x->x=false) (fun i=>l.length-i) 0 .auto ⟨Nat.zero_le _,fun j h=>absurd h (Nat.not_lt_zero j)⟩ ?_
  rintro i nx1 G1 ⟨hi,hno⟩
  refine BN ?_
  refine W.cond rfl (fun h1=>?_) (fun h1=>?_)
  ·have hlt:i < l.length:=by have:=of_decide_eq_true h1;rw [hlm] at this;omega
   obtain ⟨x,hx⟩:=at_lt hlt
   have hxi:=at_map IV.bool hx
   have hmu:l.length-(i+1) < l.length-i:=by omega
   cases x with
   |false=>
    refine BN ?_
    refine W.skipLop (i+1) hmu .auto ⟨hlt,fun j hj y hy=>?_⟩
    rcases Nat.lt_or_eq_of_le (Nat.le_of_lt_succ hj) with hj|rfl
    ·exact hno j hj y hy
    ·rw [hx] at hy;cases hy;rfl
   |true=>
    have:l.findIdx? id=some i:=by
     rw [List.findIdx?_eq_some_iff_getElem]
     refine ⟨hlt,(List.getElem?_eq_some_iff.1 hx).2,fun j hj=>?_⟩
     have:=hno j hj l[j] (List.getElem?_eq_getElem _)
     simp [this]
    rw [this]
    refine BN ?_
    exact W.retFin1 rfl ⟨[],rfl⟩
  ·have hge:l.length<=i:=by have:=of_decide_eq_false h1;rw [hlm] at this;omega
   have:l.findIdx? id=none:=by
    rw [List.findIdx?_eq_none_iff]
    intro x hx
    obtain ⟨j,hj⟩:=List.mem_iff_getElem?.1 hx
    exact hno j (by have:=(List.getElem?_eq_some_iff.1 hj).1;omega) x hj
   rw [this]
   refine BN ?_
   exact W.retFin1 rfl ⟨[],rfl⟩
 ·cases h:l.findIdx? id with
  |none=>
   rw [List.findIdx?_eq_none_iff] at h
   have:l.any id=false:=by rw [List.any_eq_false];exact fun x hx=>by rw [h x hx];decide
   rw [this];rfl
  |some i=>
   obtain ⟨h1,h2,_⟩:=List.findIdx?_eq_some_iff_getElem.1 h
   rw [List.any_eq_true.2 ⟨_,List.getElem_mem h1,h2⟩]
   exact decide_eq_true (by show (0:Int)<=(i:Int);omega)
theorem ret388 {l:List Bool} (hl:l.length<=1000):Ret CC 88 [.lst (l.map .bool), .bool true] (.bool (l.any id)):=by
 obtain ⟨z,h1,h2⟩:=ret458 hl
 refine Ret.of (fn:=Go.Proofs.Tryz.f88) (by kernel_rfl) rfl rfl ?_
 refine BB ?_
 refine W.retFin1 rfl ⟨[],?_⟩
 rw [<-h2];rfl
end Go.Abs

/- Up to when answers are sealed by marks: both sides. -/
open Go Go.Abs
namespace Go.Abs
set_option maxRecDepth 100000
set_option maxHeartbeats 4000000
theorem cal390 {a:Lg} {i tb mb:Nat} {t:Int} {marks:List Int} {G:Nat->Obj} {nx:Nat} (h:a.In 4294967296) (ht:0<=t/\t<=201) (hi:i < marks.length) (hb:G tb = .box [.imm (.int .i64 t)] false) (hm:G mb = .box [.imm (intsIV marks)] false) (hlt:tb < nx/\mb < nx) :
  Cal CC 90 [.imm (natIV i), .imm a.iv, .ptr tb 0, .ptr mb 0] G nx fun v G' nx'=>v = .imm (.bool (decide (needN a t > marks.getD i 0)))/\nx<=nx'/\∀ o,o < nx->G' o=G o:=by
 have h391:=ret391 h ht
 have hat:=ints_ivat hi
 generalize needN a t=n at *
 obtain ⟨on,e,bk,f⟩:=a
 rw [Lg.iv_mk] at *
 refine Cal.of (fn:=Go.Proofs.Tryz.f90) (by kernel_rfl) rfl rfl ?_
 refine BN ?_
 exact W.retFin1 rfl ⟨rfl,by omega,fun o ho=>at_upd⟩
theorem ret392 {l:List Lg} {marks:List Int} (hl:l.length<=1000) (h:∀ a∈l,a.In 4294967296) (hm:marks.length=l.length):Ret CC 92 [lagsIV l,intsIV marks] (natIV (sealN l marks)):=by
 have h395:=fun t ht=>ret395 (l:=l) hl h (t:=t) ht
 refine Ret.of (fn:=Go.Proofs.Tryz.f92) (by kernel_rfl) rfl rfl ?_
 refine BB ?_
 refine W.loop (X:=Nat) (fun t=>[(0, .imm (lagsIV l)),(1, .imm (intsIV marks)),(5, .imm (.int .i64 t))])
  (fun t nx G=>t<=201/\∀ s:Nat,s < t->opens l marks s=false) (fun t=>201-t) 0 .auto ⟨Nat.zero_le _,fun s h=>absurd h (Nat.not_lt_zero _)⟩ ?_
 rintro t nx G ⟨ht,hno⟩
 refine BN ?_
 refine W.cond rfl (fun h1=>?_) (fun h1=>?_)
 ·have ht2:t<=200:=by have:=of_decide_eq_true h1;omega
  have hmu:201-(t+1) < 201-t:=by omega
  have hc:=h395 t (by omega)
  have hnl:((l.map fun a=>needN a t).map intIV).length=l.length:=by simp
  refine BN ?_
  refine W.loop (X:=Nat) (fun s=>[(0, .imm (lagsIV l)),(1, .imm (intsIV marks)),(5, .imm (.int .i64 t)),(6, .imm (intsIV (l.map fun a=>needN a t))),(7, .imm (.int .i64 s))])
   (fun s nx G=>s<=l.length/\((List.range s).any fun s=>decide (needN (l.getD s Lg.z) t > marks.getD s 0))=false) (fun s=>l.length-s) 0 .auto ⟨Nat.zero_le _,rfl⟩ ?_
  rintro s nx2 G2 ⟨hs,hst⟩
  refine BN ?_
  refine W.cond rfl (fun h2=>?_) (fun h2=>?_)
  ·have hlt:s < l.length:=by have:=of_decide_eq_true h2;rw [hnl] at this;omega
   have hmu2:l.length-(s+1) < l.length-s:=by omega
   have e1:((l.map fun a=>needN a t).map intIV)[(s:Int).toNat]? = some (.int .i64 (needN (l.getD s Lg.z) t)):=by
    rw [Int.toNat_natCast,List.getElem?_map,List.getElem?_map,List.getD_eq_getElem?_getD,List.getElem?_eq_getElem hlt];rfl
   have e2:=ints_ivat (a:=marks) (i:=s) (by omega)
   refine BN ?_
   refine W.cond rfl (fun h3=>?_) (fun h3=>?_)
   ·have hop:opens l marks t=true:=List.any_eq_true.2 ⟨s,List.mem_range.2 hlt,h3⟩
    rw [seal_is (by omega) hno (.inr hop)]
    refine BN ?_
    exact W.retFin1 rfl ⟨[],rfl⟩
   ·refine BN ?_
    exact W.skipLop (s+1) hmu2 .auto ⟨hlt,by rw [List.range_succ,List.any_append,hst];simpa using h3⟩
  ·have hge:s=l.length:=by have:=of_decide_eq_false h2;rw [hnl] at this;omega
   subst hge
   refine BN ?_
   refine W.skipLop (t+1) hmu .auto ⟨by omega,fun s hs=>?_⟩
   rcases Nat.lt_or_eq_of_le (Nat.le_of_lt_succ hs) with h4|rfl
   ·exact hno s h4
   ·exact hst
 ·have ht2:t=201:=by have:=of_decide_eq_false h1;omega
  subst ht2
  rw [seal_is (by omega) hno (.inl rfl)]
  refine BN ?_
  exact W.retFin1 rfl ⟨[],rfl⟩
noncomputable def sealA (p:Pgm) (marks:List Int) (d:Int):Int×Int:=if hasR p d&&marksOk marks p.srcs.length then ((sealN ((lagsR p).getD d.toNat []) marks:Nat),0) else (0,2)
def duoIV (x:Int×Int):IV := .tup [.int .i64 x.1, .int .i64 x.2]
theorem ret335 {p:Pgm} (hp:p.Fits) {marks:List Int} (hml:marks.length<=maxI) (d:Int):Ret CC 35 [p.iv,intsIV marks, .int .i64 d] (duoIV (sealA p marks d)):=by
 have h50:=ret50 p hp d
 have hss:(p.srcs.map sv).length=p.srcs.length:=List.length_map ..
 have h347:=ret347 hml p.srcs.length
 unfold sealA
 cases hh:hasR p d with
 |false=>
  rw [hh] at h50
  obtain ⟨srcs,defs⟩:=p
  have bt:(!false)=true:=rfl
  refine Ret.of (fn:=Go.Proofs.Tryz.f35) (by kernel_rfl) rfl rfl ?_
  refine BB ?_
  exact W.retFin2 rfl rfl ⟨[],rfl⟩
 |true=>
  obtain ⟨hpr,n,x,rfl,hx⟩:=hasR_at hh
  have hdl:=(List.getElem?_eq_some_iff.1 hx).1
  have h379:=ret379 hp hpr
  obtain ⟨hrow,hrl,hri⟩:=lagsR_row hpr hdl
  have h4:=(progR_small hpr).srcs
  rw [Int.toNat_natCast]
  generalize (lagsR p).getD n []=row at *
  generalize (lagsR p).map lagsIV=E at *
  rw [hh] at h50
  have bf:(!true)=false:=rfl
  have bt:(!false)=true:=rfl
  cases hmk:marksOk marks p.srcs.length with
  |false=>
   rw [hmk,<-hss] at h347
   refine Ret.of (fn:=Go.Proofs.Tryz.f35) (by kernel_rfl) rfl rfl ?_
   refine BB ?_
   exact W.retFin2 rfl rfl ⟨[],rfl⟩
  |true=>
   rw [hmk,<-hss] at h347
   have hmr:marks.length=row.length:=by
    unfold marksOk at hmk
    rw [Bool.and_eq_true,beq_iff_eq] at hmk
    rw [hrl];exact hmk.2
   have h392:=ret392 (l:=row) (marks:=marks) (by omega) (fun a ha=>(hri a ha).1.mono (by omega)) hmr
   refine Ret.of (fn:=Go.Proofs.Tryz.f35) (by kernel_rfl) rfl rfl ?_
   refine BB ?_
   exact W.retFin2 rfl rfl ⟨[],rfl⟩
end Go.Abs

/- Up to when answers are sealed by marks: the program. -/
open Go Go.Abs
namespace Go.Abs
set_option maxRecDepth 100000
set_option maxHeartbeats 4000000
theorem ret334 {p:Pgm} (hp:p.Fits) {marks:List Int} (hml:marks.length<=maxI) (d:Int):Ret CC 34 [p.iv,intsIV marks, .int .i64 d] (duoIV (sealA p marks d)):=by
 have h380:=ret380 hp d
 have hss:(p.srcs.map sv).length=p.srcs.length:=List.length_map ..
 have hmm:(marks.map intIV).length=marks.length:=List.length_map ..
 unfold sealA
 cases hh:hasR p d with
 |false=>
  rw [hh] at h380
  obtain ⟨srcs,defs⟩:=p
  have bt:(!false)=true:=rfl
  refine Ret.of (fn:=Go.Proofs.Tryz.f34) (by kernel_rfl) rfl rfl ?_
  refine BB ?_
  exact W.retFin2 rfl rfl ⟨[],rfl⟩
 |true=>
  obtain ⟨hpr,n,x,rfl,hx⟩:=hasR_at hh
  have hdl:=(List.getElem?_eq_some_iff.1 hx).1
  have h376:=ret376 hp hpr
  obtain ⟨hrow,hrl,hri⟩:=lagsR_row hpr hdl
  have h4:=(progR_small hpr).srcs
  rw [Int.toNat_natCast]
  unfold knIV at h376
  generalize (lagsR p).getD n []=row at *
  generalize (lagsR p).map lagsIV=E at *
  rw [hh] at h380
  have bf:(!true)=false:=rfl
  by_cases hlen:marks.length=p.srcs.length
  ·have hc:(((marks.map intIV).length:Int) != ((p.srcs.map sv).length:Int))=false:=by rw [hmm,hss,hlen];simp
   have hmk:marksOk marks p.srcs.length = !(marks.any markBad):=by unfold marksOk;rw [hlen];simp
   rw [hmk]
   refine Ret.of (fn:=Go.Proofs.Tryz.f34) (by kernel_rfl) rfl rfl ?_
   refine BB ?_
   refine R.callB rfl rfl rfl rfl rfl ((cal386M hml).mono fun v G1 nx1 hv=>?_)
   obtain ⟨rfl,hn1,hG1⟩:=hv
   have g0:G1 0 = .box [.imm (.lst (p.srcs.map sv)), .imm (.lst (p.defs.map Dfn.iv))] false:=(hG1 0 (by omega)).trans rfl
   have g1:G1 1 = .box [.imm (intsIV marks)] false:=(hG1 1 (by omega)).trans rfl
   clear hG1
   cases hb:marks.any markBad with
   |true=>
    refine BN ?_
    exact W.retFin2 rfl rfl ⟨[],rfl⟩
   |false=>
    refine BN ?_
    refine W.loop (X:=Nat) (fun t=>[(4, .ptr 1 0),(8, .imm (lagsIV row)),(9, .ptr (nx1+9+0) 0)])
     (fun t nx G=>nx1+11<=nx/\t<=201/\G 1 = .box [.imm (intsIV marks)] false/\G (nx1+9+0) = .box [.imm (.int .i64 t)] false/\∀ s:Nat,s < t->opens row marks s=false) (fun t=>201-t) 0 .auto ⟨by omega,by omega,at_upd,at_upd,fun s h=>absurd h (Nat.not_lt_zero _)⟩ ?_
    clear g0 g1
    rintro t nx2 G2 ⟨hnx2,ht,g1,gt,hno⟩
    by_cases ht2:t<=200
    ·have hd:decide ((t:Int)<=200)=true:=decide_eq_true (by omega)
     have hmu:201-(t+1) < 201-t:=by omega
     refine BN ?_
     refine R.callB rfl rfl rfl rfl rfl ((cal389 (l:=row) (lo:=0) (hi:=0) (g:=fun s a => .bool (decide (needN a t > marks.getD s 0))) rfl rfl (fun _ _=>rfl) (.inl rfl) (by omega) (by omega) fun i a hx G' nx' h5 h6=>
      cal390 (marks:=marks) ((hri a (List.mem_of_getElem? hx)).1.mono (by omega)) (by omega) (by have:=(List.getElem?_eq_some_iff.1 hx).1;omega) ((h6 _ (by omega)).trans gt) ((h6 _ (by omega)).trans g1) (by omega)).mono fun v G3 nx3 hv=>?_)
     obtain ⟨ho,hn3,hG3⟩:=hv
     have he:row.mapIdx (fun s a=>IV.bool (decide (needN a t > marks.getD s 0)))=((List.range row.length).map fun s=>decide (needN (row.getD s Lg.z) t > marks.getD s 0)).map IV.bool:=by
      refine List.ext_getElem? fun s=>?_
      simp only [List.getElem?_mapIdx,List.getElem?_map]
      by_cases hs:s < row.length
      ·rw [List.getElem?_range hs,List.getElem?_eq_getElem hs]
       simp [List.getD_eq_getElem?_getD,hs]
      ·rw [List.getElem?_eq_none (by omega),List.getElem?_eq_none (by simp;omega)];rfl
     rw [he] at ho
     have h388:=ret388 (l:=(List.range row.length).map fun s=>decide (needN (row.getD s Lg.z) t > marks.getD s 0)) (by simp;omega)
     have hany:((List.range row.length).map fun s=>decide (needN (row.getD s Lg.z) t > marks.getD s 0)).any id=opens row marks t:=by unfold opens;rw [List.any_map];rfl
     rw [hany] at h388
     obtain ⟨ids,hpk⟩:=ho.peek (k:=99)
     refine BN ?_
     refine R.op0 (O.callG rfl (peeks_one hpk (peeks_im peeks_nil)) h388 rfl) rfl ?_
     have g13:=(hG3 1 (by omega)).trans g1
     have gt3:=(hG3 (nx1+9+0) (by omega)).trans gt
     cases hop:opens row marks t with
     |true=>
      rw [seal_is (by omega) hno (.inr hop)]
      refine BN ?_
      exact W.retFin2 rfl rfl ⟨[],rfl⟩
     |false=>
      refine BN ?_
      refine W.skipLop (t+1) hmu .auto ⟨by omega,by omega,(upd_ne _ _ _ _ (by omega)).trans g13,upd_same ..,fun s hs=>?_⟩
      rcases Nat.lt_or_eq_of_le (Nat.le_of_lt_succ hs) with h4|rfl
      ·exact hno s h4
      ·exact hop
    ·have hd:decide ((t:Int)<=200)=false:=decide_eq_false (by omega)
     have ht3:t=201:=by omega
     subst ht3
     rw [seal_is (by omega) hno (.inl rfl)]
     refine BN ?_
     exact W.retFin2 rfl rfl ⟨[],rfl⟩
  ·have hc:(((marks.map intIV).length:Int) != ((p.srcs.map sv).length:Int))=true:=by rw [hmm,hss,bne_iff_ne];omega
   have hmk:marksOk marks p.srcs.length=false:=by
    unfold marksOk
    rw [show (marks.length==p.srcs.length)=false by simpa using hlen,Bool.and_false]
   rw [hmk]
   refine Ret.of (fn:=Go.Proofs.Tryz.f34) (by kernel_rfl) rfl rfl ?_
   refine BB ?_
   exact W.retFin2 rfl rfl ⟨[],rfl⟩
end Go.Abs

/- Lags as they are told, of all definitions. -/
open Go Go.Abs
namespace Go.Abs
set_option maxRecDepth 100000
set_option maxHeartbeats 4000000
instance fnis378:FnIs CC 78:=⟨rfl,fun _=>rfl⟩
instance fnis327:FnIs CC 27:=⟨rfl,fun _=>rfl⟩
theorem cal444 {a:Lg} {i:Nat} {G:Nat->Obj} {nx:Nat}:Cal CC 144 [.imm (natIV i), .imm a.iv] G nx fun v G' nx'=>v = .imm a.iv/\nx<=nx'/\∀ o,o < nx->G' o=G o:=by
 obtain ⟨on,e,b,f⟩:=a
 rw [Lg.iv_mk]
 refine Cal.of (fn:=Go.Proofs.Tryz.f144) (by kernel_rfl) rfl rfl ?_
 refine BN ?_
 exact W.retFinCA rfl (upd_same ..) rfl rfl ⟨rfl,by omega,fun o ho=>at_upd⟩
theorem ret378 {l:List Lg} (hl:l.length<=1000):Ret CC 78 [lagsIV l] (lagsIV l):=by
 refine Ret.of (fn:=Go.Proofs.Tryz.f78) (by kernel_rfl) rfl rfl ?_
 refine BB ?_
 refine R.callB rfl rfl rfl rfl rfl ((cal443 (l:=l) (lo:=0) (hi:=0) (g:=fun _ a=>a.iv) rfl rfl (fun _ _=>rfl) (.inl rfl) (by omega) hl fun i a hx G' nx' h5 h6=>cal444).mono fun v G2 nx2 hv=>?_)
 obtain ⟨ho,hn2,hG2⟩:=hv
 rw [mapIdx_map fun a=>a,List.map_id'] at ho
 refine BN ?_
 exact W.retFin1 rfl (ho.peek (k:=99))
theorem cal377 {l:List Lg} (hl:l.length<=1000) {i:Nat} {G:Nat->Obj} {nx:Nat}:Cal CC 77 [.imm (natIV i), .imm (lagsIV l)] G nx fun v G' nx'=>v = .imm (lagsIV l)/\nx<=nx'/\∀ o,o < nx->G' o=G o:=by
 have h378:=ret378 hl
 refine Cal.of (fn:=Go.Proofs.Tryz.f77) (by kernel_rfl) rfl rfl ?_
 refine BN ?_
 exact W.retFin1 rfl ⟨rfl,by omega,fun o ho=>rfl⟩
theorem cal375 {E:List (List Lg)} (hE:E.length<=1000) (hr:∀ l∈E,l.length<=1000) {G:Nat->Obj} {nx:Nat}:Cal CC 75 [.imm (.lst (E.map lagsIV)), .imm (.fn (.func 77) [])] G nx fun v G' nx'=>Own 49 1 nx nx' (E.map lagsIV) G' v/\nx<=nx':=by
 have hem:(E.map lagsIV).length=E.length:=List.length_map ..
 refine Cal.of (fn:=Go.Proofs.Tryz.f75) (by kernel_rfl) rfl rfl ?_
 refine BN ?_
 refine W.loop (X:=Nat×AV) (fun s=>[(1, .imm (.fn (.func 77) [])),(5,s.2),(8, .imm (.lst (E.map lagsIV))),(9, .imm (.int .i64 (E.map lagsIV).length)),(10, .imm (.int .i64 s.1))])
  (fun s nx1 G1=>s.1<=E.length/\nx<=nx1/\Own 49 1 nx nx1 ((E.take s.1).map lagsIV) G1 s.2) (fun s=>E.length-s.1) (0, .nils) .auto ⟨Nat.zero_le _,by omega, .inl ⟨rfl,rfl⟩⟩ ?_
 rintro ⟨i,w⟩ nx1 G1 ⟨hi1,hnx,ho⟩
 dsimp only at hi1 ho ⊢
 refine BN ?_
 refine W.cond rfl (fun h1=>?_) (fun h1=>?_)
 ·have hlt:i < E.length:=by have:=of_decide_eq_true h1;rw [hem] at this;omega
  obtain ⟨l,hx⟩:=at_lt hlt
  have hxi:=at_map lagsIV hx
  have hmu:E.length-(i+1) < E.length-i:=by omega
  have htk:(E.take (i+1)).map lagsIV=(E.take i).map lagsIV++[lagsIV l]:=by rw [List.take_add_one,hx];simp
  have hc:=fun G nx=>cal377 (hr l (List.mem_of_getElem? hx)) (i:=i) (G:=G) (nx:=nx)
  have htl:((E.take i).map lagsIV).length<=1000:=by rw [List.length_map,List.length_take];omega
  refine BN ?_
  refine R.callB rfl rfl rfl rfl rfl ((hc _ _).mono fun v2 G2 nx2 hv=>?_)
  obtain ⟨rfl,hn2,hG2⟩:=hv
  refine BN ?_
  refine R.app1 ho at_upd (by simp only [most];omega) (fun v' G' ho' hG'=>?_) (hG:=fun o h1 h2=>Eq.trans (upd_ne _ _ _ _ (by omega)) (Eq.trans (hG2 o (by omega)) at_upd))
  refine BN ?_
  refine W.skipLop (i+1,v') hmu .auto ⟨hlt,by omega,?_⟩
  show Own _ _ _ _ ((E.take (i+1)).map lagsIV) _ _
  rw [htk]
  exact ho'.up (by omega)
 ·have hge:E.length<=i:=by have:=of_decide_eq_false h1;rw [hem] at this;omega
  rw [List.take_of_length_le hge] at ho
  refine BN ?_
  exact W.retFin1 rfl ⟨ho.up (by omega),by omega⟩
noncomputable def ofA (p:Pgm):List (List Lg)×Int:=if progR p then (lagsR p,0) else ([],2)
def rowsIV (x:List (List Lg)×Int):IV := .tup [.lst (x.1.map lagsIV), .int .i64 x.2]
theorem ret327 {p:Pgm} (hp:p.Fits):Ret CC 27 [p.iv] (rowsIV (ofA p)):=by
 have h29:=ret29 p hp
 unfold ofA
 cases hpr:progR p with
 |false=>
  rw [hpr] at h29
  obtain ⟨srcs,defs⟩:=p
  have bz:((2:Int) != 0)=true:=rfl
  refine Ret.of (fn:=Go.Proofs.Tryz.f27) (by kernel_rfl) rfl rfl ?_
  refine BB ?_
  exact W.retFin2 rfl rfl ⟨[],rfl⟩
 |true=>
  rw [hpr] at h29
  have h376:=ret376 hp hpr
  obtain ⟨hW,_⟩:=lagsR_far hpr
  have h6:=(progR_small hpr).len
  have h4:=(progR_small hpr).srcs
  have hl:=hW.len
  have hr:=fun l (h:l∈lagsR p)=>hW.row l h
  unfold knIV at h376
  generalize lagsR p=E at *
  have bz:((0:Int) != 0)=false:=rfl
  refine Ret.of (fn:=Go.Proofs.Tryz.f27) (by kernel_rfl) rfl rfl ?_
  refine BB ?_
  refine R.callB rfl rfl rfl rfl rfl ((cal375 (by omega) fun l h=>by rw [hr l h];omega).mono fun v G2 nx2 hv=>?_)
  refine BN ?_
  exact W.retFin2 rfl rfl (own_tup hv.1)
end Go.Abs

/- The reference: how a node depends on each source. -/
open Go Go.Abs
namespace Go.Abs
set_option maxRecDepth 100000
set_option maxHeartbeats 4000000
mutual
theorem allE_in:∀ (e:Exp) {x:Exp},x∈allE e->(∀ y∈allE x,y∈allE e)/\(allE x).length<=(allE e).length
 | .mk op name n fold calcs kids,x,h=>by
  rw [allE] at h ⊢
  rcases List.mem_cons.1 h with rfl|h
  ·rw [allE];exact ⟨fun y hy=>hy,Nat.le_refl _⟩
  ·have:=allEs_in kids h
   exact ⟨fun y hy=>List.mem_cons_of_mem _ (this.1 y hy),by rw [List.length_cons];omega⟩
theorem allEs_in:∀ (l:List Exp) {x:Exp},x∈allEs l->(∀ y∈allE x,y∈allEs l)/\(allE x).length<=(allEs l).length
 |[],x,h=>by cases h
 |k::r,x,h=>by
  rw [allEs] at h ⊢
  rcases List.mem_append.1 h with h|h
  ·have:=allE_in k h
   exact ⟨fun y hy=>List.mem_append_left _ (this.1 y hy),by rw [List.length_append];omega⟩
  ·have:=allEs_in r h
   exact ⟨fun y hy=>List.mem_append_right _ (this.1 y hy),by rw [List.length_append];omega⟩
end
noncomputable def nodeA (p:Pgm) (d node:Int):List Lg×Int:=
 if hasR p d && !decide (node < 0) && !decide (node>=((allE (expAt p d.toNat)).length:Int)) then (allL p (lagsR p) ((allE (expAt p d.toNat)).getD node.toNat (.mk 0 [] 0 0 [] [])),0) else ([],2)
def rowIV (x:List Lg×Int):IV := .tup [lagsIV x.1, .int .i64 x.2]
end Go.Abs
