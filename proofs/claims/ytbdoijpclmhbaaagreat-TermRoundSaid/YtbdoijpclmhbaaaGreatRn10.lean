/- Programs that are looked at: what a definition reaches. -/
import Derived.Test.YtbdoijpclmhbaaaGreatRn9
open Go Go.Abs
namespace Go.Abs
set_option maxRecDepth 100000
set_option maxHeartbeats 4000000
def ty74:TyI:={ d:=TyD.mp 3 4,sz:=1,bytes:=8,zero:=AV.imm IV.nilmap }
instance tyis74:TyIs CC 116 ty74:=⟨by kernel_rfl⟩
instance fnis47:FnIs CC 68:=⟨rfl,fun _=>rfl⟩
instance fnis49:FnIs CC 71:=⟨rfl,fun _=>rfl⟩
theorem ret49 (e:Exp):Ret CC 71 [e.iv] (.fn (.func 131) [.fptr e.iv.cells 0]):=by
 obtain ⟨op,name,n',fold,calcs,kids⟩:=e
 refine Ret.of (fn:=Go.Proofs.Tryz.f71) (by kernel_rfl) rfl rfl ?_
 refine AA ?_
 exact W.retFin1 rfl ⟨[0],rfl⟩
def scopeIV (p:Pgm) (ahead n:Int):IV := .fptr [numIV p.srcs,numIV (defNames p),shapesIV, .int .i64 ahead, .int .i64 n] 0
def setIV (l:List Nat):IV := .fmp (l.map natIV) (l.map fun _ => .bool true)
def setObj (l:List Nat):Obj := .mp (l.map natIV) ((l.map fun _=>IV.bool true).map .imm) false
def stepsN (names:List Str) (l:List Exp):List Nat:=(l.filter namesDef).map fun x=>idxN names x.name
theorem natKey (k:Nat):∀ l:List Nat,keyFind (natIV k) (l.map natIV)=some (l.findIdx? fun x=>k==x)
 |[]=>rfl
 |x::r=>by
  have e:scalarEq (natIV k) (natIV x)=some (k==x):=by
   show (if IntKind.i64=IntKind.i64 then some (((k:Nat):Int)==((x:Nat):Int)) else none)=_
   rw [if_pos rfl]
   congr 1
   by_cases h:k=x
   ·subst h;simp
   ·have:¬ (k:Int)=(x:Int):=by omega
    rw [beq_eq_false_iff_ne.2 h,beq_eq_false_iff_ne.2 this]
  rw [List.map_cons,keyFind,e,List.findIdx?_cons]
  cases k==x with
  |true=>rfl
  |false=>simp only [natKey k r];rfl
theorem findIdx_contains' {α:Type} [BEq α] [LawfulBEq α] (s:α):∀ l:List α,(l.findIdx? fun x=>s==x).isSome=l.contains s
 |[]=>rfl
 |x::r=>by
  rw [List.findIdx?_cons,List.contains_cons]
  cases h:s==x with
  |true=>simp
  |false=>
   simp only [Bool.false_or]
   rw [<-findIdx_contains' s r]
   cases (r.findIdx? fun x=>s==x)<;>rfl
theorem findIdx_lt' {α:Type} [BEq α] {s:α} {j:Nat}:∀ {l:List α},(l.findIdx? fun x=>s==x)=some j->j < l.length
 |[],h=>by cases h
 |x::r,h=>by
  rw [List.findIdx?_cons] at h
  split at h
  ·cases h;simp
  ·cases hr:r.findIdx? fun x=>s==x with
   |none=>rw [hr] at h;cases h
   |some k=>
    rw [hr] at h
    cases h
    have:=findIdx_lt' hr
    simp;omega
theorem setLook (l:List Nat) (k:Nat):lookIs (some ty3) (some ty4) (some (l.map natIV,(l.map fun _=>IV.bool true).map .imm)) (natIV k) false (.imm (.bool (l.contains k))):=by
 refine ⟨rfl,?_⟩
 rw [natKey,<-findIdx_contains']
 cases h:l.findIdx? fun x=>k==x with
 |none=>exact .inr ⟨rfl,rfl⟩
 |some j=>
  have:=findIdx_lt' h
  refine .inl ⟨j, .imm (.bool true),rfl,?_,rfl⟩
  simp [this]
theorem setNew {l:List Nat} {k:Nat} (h:l.contains k=false):keyFind (natIV k) (l.map natIV)=some none:=by
 rw [natKey]
 rw [<-findIdx_contains'] at h
 cases h':l.findIdx? fun x=>k==x with
 |none=>rfl
 |some j=>rw [h'] at h;cases h
theorem setObj_add (l:List Nat) (k:Nat):setObj (l++[k]) = .mp (l.map natIV++[natIV k]) ((l.map fun _=>IV.bool true).map .imm++[.imm (.bool true)]) false:=by
 unfold setObj;simp
theorem stepsN_take {names:List Str} {l:List Exp} {x:Exp} {i:Nat} (h:l[i]? = some x):stepsN names (l.take (i+1))=stepsN names (l.take i)++(if namesDef x then [idxN names x.name] else []):=by
 unfold stepsN
 rw [List.take_add_one,h,List.filter_append,List.map_append]
 congr 1
 simp only [Option.toList,List.filter_cons,List.filter_nil]
 split<;>rfl
structure Lb (p:Pgm) (ahead n:Int) (M pb sb ob lb nx:Nat) (G:Nat->Obj):Prop where
 bp:G pb = .box [.imm (.lst (p.srcs.map sv)), .imm (.lst (p.defs.map Dfn.iv))] false
 bs:G sb = .box [.imm (scopeIV p ahead n)] false
 bo:G ob = .box [.map M] false
 bl:G lb = .box [.fn (.func 129) [.ptr pb 0, .ptr sb 0, .ptr ob 0, .ptr lb 0]] false
 lt:(M < nx/\pb < nx/\sb < nx/\ob < nx/\lb < nx)/\M≠pb/\M≠sb/\M≠ob/\M≠lb
theorem Lb.fr {p:Pgm} {ahead n:Int} {M pb sb ob lb nx nx':Nat} {G G':Nat->Obj} (h:Lb p ahead n M pb sb ob lb nx G) (hn:nx<=nx') (hG:∀ o,o < nx->o≠M->G' o=G o):Lb p ahead n M pb sb ob lb nx' G':=by
 obtain ⟨h1,h2,h3,h4,⟨a,b,c,d,e⟩,f,g,i,j⟩:=h
 exact ⟨(hG _ b (Ne.symm f)).trans h1,(hG _ c (Ne.symm g)).trans h2,(hG _ d (Ne.symm i)).trans h3,(hG _ e (Ne.symm j)).trans h4,by omega⟩
structure Tos (p:Pgm) (tos:List (List Nat)):Prop where
 len:tos.length=p.defs.length
 at':∀ (i:Nat) d,p.defs[i]? = some d->tos.getD i []=stepsN (defNames p) (allE d.exp)
 lt:∀ (i:Nat) d,p.defs[i]? = some d->∀ k∈stepsN (defNames p) (allE d.exp),k < tos.length
theorem cal78 {p:Pgm} (hp:p.Fits) {tos:List (List Nat)} (ht:Tos p tos) {ahead n:Int}:∀ (m d:Nat) (out:List Nat) (M pb sb ob lb nx:Nat) (G:Nat->Obj),tos.length-out.length<=m->out.Nodup->(∀ x∈out,x < tos.length)->d < tos.length->Lb p ahead n M pb sb ob lb nx G->G M=setObj out ->
  CalP CC 129 [.imm (natIV d), .ptr pb 0, .ptr sb 0, .ptr ob 0, .ptr lb 0] G nx fun
   | .ret v G' nx'=>v = .imm (.tup [])/\nx<=nx'/\(∀ o,o < nx->o≠M->G' o=G o)/\∃ out',G' M=setObj out'/\Dfs tos d (tos.getD d []) out out'
   | .pan _ _ _=>False:=by
 intro m
 induction m using Nat.strongRecOn with
 |ind m ih=>
 intro d out M pb sb ob lb nx G hm hnd hbd hd hL hM
 obtain ⟨⟨l1,l2,l3,l4,l5⟩,n1,n2,n3,n4⟩:=hL.lt
 obtain ⟨df,hx⟩:∃ df,p.defs[d]? = some df:=at_lt (by rw [<-ht.len];exact hd)
 have hxi:=at_map Dfn.iv hx
 have hdc:=df.cells_len
 have hfit:=hp.exp df (List.mem_of_getElem? hx)
 have hr49:=ret49 df.exp
 have hat:=ht.at' d df hx
 have hlt:=ht.lt d df hx
 have hbp:=hL.bp
 rw [<-hat] at hlt
 refine CalP.of (fn:=Go.Proofs.Tryz.f129) (by kernel_rfl) rfl rfl ?_
 obtain ⟨nm,e⟩:=df
 obtain ⟨op,name,n',fold,calcs,kids⟩:=e
 refine AN ?_
 refine W.nodes _ hfit (fun i G1=>(∀ o,o < nx->o≠M->G1 o=G o)/\∃ out1,G1 M=setObj out1/\Dfs tos d (stepsN (defNames p) ((allE (.mk op name n' fold calcs kids)).take i)) out out1) (fun _=>False) (fun _ _ _=>False)
  rfl rfl rfl rfl rfl ?_ ?_ ?_ ?_ ?_ ?_ ?_
 ·rintro i G1 G2 ⟨h1,out1,h2,h3⟩ hG
  exact ⟨fun o h4 h5=>(hG o (by omega)).trans (h1 o h4 h5),out1,(hG M (by omega)).trans h2,h3⟩
 ·intro _ _ h;exact h.elim
 ·exact ⟨fun o _ _=>rfl,out,hM, .init hnd hbd⟩
 ·rintro q i x G1 nx1 lp0 lp1 Φr hq hxa hn ⟨h1,out1,h2,h3⟩ hlp next _ _
  have hst:=stepsN_take (names:=defNames p) hxa
  rw [hst] at next
  have hL1:Lb p ahead n M pb sb ob lb nx1 G1:=hL.fr (by omega) h1
  have hmem:namesDef x=true->idxN (defNames p) x.name∈tos.getD d []:=fun h=>by
   rw [hat]
   exact List.mem_map.2 ⟨x,List.mem_filter.2 ⟨List.mem_of_getElem? hxa,h⟩,rfl⟩
  obtain ⟨op',name',m',fold',calcs',kids'⟩:=x
  refine W.regionN ?_
  refine AQ ?_
  refine R.doneAstQ at_upd ?_
  have hbs:=hL1.bs
  have hbo:=hL1.bo
  have hbl:=hL1.bl
  have hL2:=numLook0 (defNames p) name'
  have hL2':(Exp.mk op' name' m' fold' calcs' kids').name=name':=rfl
  rw [hL2'] at hmem next
  generalize idxN (defNames p) name'=k at *
  have hset:=setLook out1 k
  refine W.gen' (fun G2=>G2 (nx1+0) = .box [.imm (.int .i64 op'), .imm (sv name'), .imm (.int .i64 m'), .imm (.int .i64 fold'), .imm (.lst (Trm.ivs calcs')), .imm (.lst (Exp.ivs kids'))] false/\G2 q=lp1/\∀ o,o < nx1->o≠q->G2 o=G1 o) ⟨at_upd,at_upd,fun o _ _=>at_upd⟩ ?_
  rintro G2 ⟨hbx,hlp2,hfr2⟩
  have hM2:G2 M=setObj out1:=(hfr2 M (by omega) (by omega)).trans h2
  have hbs2:=(hfr2 sb (by omega) (by omega)).trans hbs
  have hbo2:=(hfr2 ob (by omega) (by omega)).trans hbo
  have hbl2:=(hfr2 lb (by omega) (by omega)).trans hbl
  have hset2:lookIs (some ty3) (some ty4) (mapKV G2 (.map M)) (natIV k) false (.imm (.bool (out1.contains k))):=by
   simp only [mapKV,hM2,setObj];exact hset
  have hnext:∀ {f':Nat} {G3:Nat->Obj} {nx3:Nat} {l3:Env} {out3:List Nat},nx1<=nx3->(∀ o,o < nx1->o≠M->G3 o=G2 o)->G3 M=setObj out3->Dfs tos d (stepsN (defNames p) (List.take i (allE (Exp.mk op name n' fold calcs kids)))++if namesDef (Exp.mk op' name' m' fold' calcs' kids')=true then [k] else []) out out3 ->
    W CC f' Go.Proofs.Tryz.f129.ntmps .skip l3 G3 nx3 [] .rnd Φr:=by
   intro f' G3 nx3 l3 out3 g1 g2 g3 g4
   refine next g1 (fun o g5 g6=>?_) ⟨fun o g5 g6=>?_,out3,g3,g4⟩ ((g2 q (by omega) (by omega)).trans hlp2)
   ·rw [g2 o (by omega) (by omega),hfr2 o (by omega) (by omega)]
   ·rw [g2 o (by omega) g6,hfr2 o (by omega) (by omega),h1 o g5 g6]
  clear hset hbs hbo hbl h2 hlp next
  have hcase:((op' != 2)=true/\(op' != 3)=true)\/((op' != 2)=false\/((op' != 2)=true/\(op' != 3)=false)):=by
   cases op' != 2<;>cases op' != 3<;>simp
  rcases hcase with ⟨hA,hB⟩|hyes
  ·have hnd:namesDef (.mk op' name' m' fold' calcs' kids')=false:=by
    show (op'==2||op'==3)=false
    simp at hA hB
    simp [hA,hB]
   rw [hnd,if_neg (by decide),List.append_nil] at hnext
   refine AN ?_
   exact hnext (by omega) (fun o _ _=>rfl) hM2 h3
  ·have hnd:namesDef (.mk op' name' m' fold' calcs' kids')=true:=by
    show (op'==2||op'==3)=true
    simp at hyes
    rcases hyes with h|⟨_,h⟩<;>simp [h]
   rw [hnd,if_pos rfl] at hnext
   have hmem:=hmem hnd
   rcases Bool.eq_false_or_eq_true (out1.contains k) with hC|hC
   ·have hC':(!out1.contains k)=false:=by rw [hC];rfl
    rcases hyes with hA|⟨hA,hB⟩
    all_goals
     refine AN ?_
     exact hnext (by omega) (fun o _ _=>rfl) hM2 (h3.skip (by simpa using hC))
   ·have hC':(!out1.contains k)=true:=by rw [hC];rfl
    have hnk:k∉out1:=by simpa using hC
    have hkl:=hlt k hmem
    obtain ⟨e1,e2⟩:=h3.start hnk hkl
    have hle:=nodup_lt e1 e2
    rw [List.length_append] at hle
    simp only [List.length_cons,List.length_nil] at hle
    rcases hyes with hA|⟨hA,hB⟩
    all_goals
     refine AN ?_
     refine R.opN1 (O.mapNew rfl inferInstance rfl rfl rfl hM2 rfl (setNew hC)) ?_
     refine R.done ?_
     refine AN ?_
     refine R.callBP rfl rfl rfl rfl rfl ((ih (tos.length-(out1.length+1)) (by have:=h3.ext;obtain ⟨new,hnew⟩:=this;rw [hnew,List.length_append] at hle ⊢;omega) k (out1++[k]) M pb sb ob lb _ _ (by simp) e1 e2 hkl (hL.fr (by omega) fun o g5 g6=>?_) ?_).mono fun r hr=>?_)
     ·rw [upd_ne _ _ _ _ g6,hfr2 o (by omega) (by omega),h1 o g5 g6]
     ·rw [upd_same,setObj_add]
     cases r with
     |pan u G4 nx4=>exact hr.elim
     |ret v G4 nx4=>
      obtain ⟨rfl,g1,g2,out2,g3,g4⟩:=hr
      refine AN ?_
      exact hnext (by omega) (fun o g5 g6=>by rw [g2 o (by omega) g6,upd_ne _ _ _ _ g6]) g3 (h3.step hmem g4)
 ·rintro G1 nx1 ⟨h1,out1,h2,h3⟩ hn
  rw [List.take_length,<-hat] at h3
  refine AN ?_
  exact W.skipFinP rfl ⟨rfl,by omega,h1,out1,h2,h3⟩
 ·intro _ _ h;exact h.elim
 ·intro _ _ _ h;exact h.elim
theorem ret47 {p:Pgm} (hp:p.Fits) {tos:List (List Nat)} (ht:Tos p tos) (ahead n:Int) {d:Nat} (hd:d < tos.length) :
  ∃ out,out.Nodup/\(∀ x∈out,x < tos.length)/\(∀ x,x∈out↔Reach tos d x)/\Ret CC 68 [scopeIV p ahead n,p.iv,natIV d] (setIV out):=by
 have key:Cal CC 68 ([scopeIV p ahead n,p.iv,natIV d].map .imm) (fun _ => .gone) 0 fun v G' _=>∃ out,Dfs tos d (tos.getD d []) [] out/\∃ ids,peek G' pkDepth v=some (setIV out,ids):=by
  obtain ⟨srcs,defs⟩:=p
  refine Cal.of (fn:=Go.Proofs.Tryz.f68) (by kernel_rfl) rfl rfl ?_
  refine AA ?_
  refine R.callBP rfl rfl rfl rfl rfl ((cal78 hp ht (ahead:=ahead) (n:=n) tos.length d [] (0+3+0) (0+1) (0+0) (0+3+1) (0+3+3+0) _ _ (by simp) (by simp) (by simp) hd ⟨rfl,rfl,rfl,rfl,by omega⟩ rfl).mono fun r hr=>?_)
  cases r with
  |pan u G4 nx4=>exact hr.elim
  |ret v G4 nx4=>
   obtain ⟨rfl,g1,g2,out2,g3,g4⟩:=hr
   have g5:G4 (0+3+1) = .box [.map (0+3+0)] false:=(g2 _ (by omega) (by omega)).trans rfl
   refine AN ?_
   exact W.retFin1 rfl ⟨out2,g4,peek_mp g3⟩
 obtain ⟨n',v,G',nx',h1,out,h2,ids,h3⟩:=key
 exact ⟨out,h2.nodup,h2.bnd,h2.fin,n',v,G',nx',_,ids,h1,h3⟩
end Go.Abs

/- Rings, and what reaches itself; names that are fresh, and different. (No program in sight.) -/
open Go Go.Abs
namespace Go.Abs
set_option maxRecDepth 100000
/-! ### different names -/
theorem getD_append_left {a b:List Str} {i:Nat} (h:i < a.length):(a++b).getD i []=a.getD i []:=by
 simp [List.getD_eq_getElem?_getD,List.getElem?_append_left h]
theorem getD_append_right {a b:List Str} {i:Nat}:(a++b).getD (a.length+i) []=b.getD i []:=by
 simp [List.getD_eq_getElem?_getD,List.getElem?_append_right]
theorem diff_append (a b:List Str):diff (a++b)=(fresh [] a&&fresh a b):=by
 unfold diff fresh
 rw [List.length_append,List.range_add,List.all_append,List.all_map]
 congr 1
 ·rw [Bool.eq_iff_iff,List.all_eq_true,List.all_eq_true]
  constructor <;>
  ·intro h i hi
   have hl:i < a.length:=by simpa using hi
   have:=h i hi
   unfold okAt at *
   rw [getD_append_left hl,List.take_append_of_le_length (by omega)] at *
   simpa using this
 ·have key:∀ i,i < b.length->(nameOk ((a++b).getD (a.length+i) []) && !((a++b).take (a.length+i)).contains ((a++b).getD (a.length+i) []))=okAt a b i:=by
   intro i hi
   unfold okAt
   rw [getD_append_right,List.take_append,List.take_of_length_le (show a.length<=a.length+i by omega),show a.length+i-a.length=i by omega,Bool.and_assoc]
   congr 1
   rw [Bool.eq_iff_iff]
   simp
   exact And.comm
  rw [Bool.eq_iff_iff,List.all_eq_true,List.all_eq_true]
  constructor
  ·intro h i hi
   rw [<-key i (by simpa using hi)];exact h i hi
  ·intro h i hi
   exact (key i (by simpa using hi)).trans (h i hi)
/-! ### what definitions name -/
theorem idxFrom_idxN {s:Str}:∀ {l:List Str} {k:Nat},s∈l->idxFrom l s k=((k+idxN l s:Nat):Int)
 |[],_,h=>by cases h
 |x::r,k,h=>by
  unfold idxFrom idxN
  rw [List.findIdx?_cons]
  by_cases hx:(x==s)=true
  ·rw [if_pos hx,if_pos (by rw [idxFrom_sym];exact hx)];rfl
  ·have hx':¬ (s==x)=true:=by rw [idxFrom_sym];exact hx
   have hs:s∈r:=by
    rcases List.mem_cons.1 h with h|h
    ·exact absurd (by rw [h];simp) hx
    ·exact h
   rw [if_neg hx,if_neg hx',idxFrom_idxN hs]
   have:=findIdx_contains s r
   have hc:r.contains s=true:=by simpa using hs
   rw [hc] at this
   unfold idxN
   cases hf:r.findIdx? fun x=>s==x with
   |none=>rw [hf] at this;cases this
   |some j=>simp;omega
theorem idxN_lt {s:Str} {l:List Str} (h:s∈l):idxN l s < l.length:=by
 have:=findIdx_contains s l
 have hc:l.contains s=true:=by simpa using h
 rw [hc] at this
 unfold idxN
 cases hf:l.findIdx? fun x=>s==x with
 |none=>rw [hf] at this;cases this
 |some j=>exact findIdx_lt hf
theorem Pgm.Good.tos {p:Pgm} (h:p.Good):Tos p (tosR p):=by
 have hl:(tosR p).length=p.defs.length:=h.steps.2.1
 have hnl:(defNames p).length=p.defs.length:=by have:=h.defs;simp [defNames];omega
 refine ⟨hl,fun i d hd=>?_,fun i d hd k hk=>?_⟩
 ·unfold tosR stepsR
  rw [List.getD_eq_getElem?_getD,List.map_map,List.getElem?_map,hd]
  simp only [Option.map_some,Option.getD_some,Function.comp,stepsL,stepsN,List.map_map]
  apply List.map_congr_left
  intro x hx
  rw [List.mem_filter] at hx
  have:=h.names d (List.mem_of_getElem? hd) x hx.1 hx.2
  simp only [Function.comp]
  rw [idxFrom_idxN this]
  omega
 ·simp only [stepsN,List.mem_map,List.mem_filter] at hk
  obtain ⟨x,⟨hx,hn⟩,rfl⟩:=hk
  rw [hl,<-hnl]
  exact idxN_lt (h.names d (List.mem_of_getElem? hd) x hx hn)
/-! ### rings, and what reaches itself -/
theorem at2_reach {tos:List (List Nat)} {i j:Nat} (hi:i < tos.length) (hj:j < tos.length):at2 (reachR tos) i j=reachB tos i j:=by
 unfold at2 reachR reachRow
 simp [List.getD_eq_getElem?_getD,hi,hj]
theorem inRing_iff {tos:List (List Nat)} {i j:Nat} (hi:i < tos.length) (hj:j < tos.length):inRing (reachR tos) i j=true↔j=i\/(Reach tos i j/\Reach tos j i):=by
 unfold inRing
 rw [at2_reach hi hj,at2_reach hj hi]
 simp [reachB_iff]
theorem mem_ringTo {tos:List (List Nat)} {i j:Nat} (hi:i < tos.length):j∈ringTo (reachR tos) i tos.length↔j < tos.length/\(j=i\/(Reach tos i j/\Reach tos j i)):=by
 unfold ringTo
 rw [List.mem_filter,List.mem_range]
 constructor
 ·intro ⟨h1,h2⟩;exact ⟨h1,(inRing_iff hi h1).1 h2⟩
 ·intro ⟨h1,h2⟩;exact ⟨h1,(inRing_iff hi h1).2 h2⟩
theorem ringTo_same {tos:List (List Nat)} {i j:Nat} (hi:i < tos.length) (hj:j < tos.length) (h1:Reach tos i j) (h2:Reach tos j i):ringTo (reachR tos) i tos.length=ringTo (reachR tos) j tos.length:=by
 unfold ringTo
 apply List.filter_congr
 intro k hk
 rw [List.mem_range] at hk
 rw [Bool.eq_iff_iff,inRing_iff hi hk,inRing_iff hj hk]
 constructor
 ·rintro (rfl|⟨a,b⟩)
  ·exact .inr ⟨h2,h1⟩
  ·exact .inr ⟨h2.trans a,b.trans h1⟩
 ·rintro (rfl|⟨a,b⟩)
  ·exact .inr ⟨h1,h2⟩
  ·exact .inr ⟨h1.trans a,b.trans h2⟩
theorem rings_mem {tos:List (List Nat)} {k:Nat}:(∃ r∈ringsR (reachR tos),k∈r)↔k < tos.length/\Reach tos k k:=by
 have hlen:=reachR_len tos
 unfold ringsR ringsTo
 rw [hlen]
 constructor
 ·rintro ⟨r,hr,hk⟩
  rw [List.mem_map] at hr
  obtain ⟨i,hi,rfl⟩:=hr
  rw [List.mem_filter,List.mem_range] at hi
  obtain ⟨hi,his⟩:=hi
  unfold ringIs at his
  rw [Bool.and_eq_true,at2_reach hi hi,reachB_iff] at his
  obtain ⟨h1,h2⟩:=(mem_ringTo hi).1 hk
  refine ⟨h1,?_⟩
  rcases h2 with rfl|⟨a,b⟩
  ·exact his.1
  ·exact b.trans a
 ·rintro ⟨hk,hr⟩
  have hmem:k∈ringTo (reachR tos) k tos.length:=(mem_ringTo hk).2 ⟨hk, .inl rfl⟩
  cases hc:ringTo (reachR tos) k tos.length with
  |nil=>rw [hc] at hmem;cases hmem
  |cons i r=>
   have hi:i∈ringTo (reachR tos) k tos.length:=by rw [hc];simp
   obtain ⟨h1,h2⟩:=(mem_ringTo hk).1 hi
   have h3:Reach tos k i/\Reach tos i k:=by
    rcases h2 with rfl|h2
    ·exact ⟨hr,hr⟩
    ·exact h2
   have hs:=ringTo_same hk h1 h3.1 h3.2
   refine ⟨ringTo (reachR tos) i tos.length,?_,by rw [<-hs];exact hmem⟩
   rw [List.mem_map]
   refine ⟨i,?_,rfl⟩
   rw [List.mem_filter,List.mem_range]
   refine ⟨h1,?_⟩
   unfold ringIs
   rw [hlen,at2_reach h1 h1,<-hs,hc]
   simp [reachB_iff.2 (h3.2.trans h3.1)]
theorem progR_eq {p:Pgm} (hc:0<=countR p):progR p=true↔∀ i,i < p.defs.length->Reach (tosR p) i i->foreAt p.defs i=false:=by
 have hg:=countR_good hc
 have hl:(tosR p).length=p.defs.length:=hg.steps.2.1
 unfold progR ringsOf
 rw [if_neg (by omega),List.all_eq_true]
 constructor
 ·intro h i hi hr
  obtain ⟨r,h1,h2⟩:=rings_mem.2 ⟨by rw [hl];exact hi,hr⟩
  have:=List.all_eq_true.1 (h r h1) i h2
  simpa using this
 ·intro h r hr
  rw [List.all_eq_true]
  intro k hk
  obtain ⟨h1,h2⟩:=rings_mem.1 ⟨r,hr,hk⟩
  rw [h k (by rw [<-hl];exact h1) h2];rfl
end Go.Abs

/- Programs that are looked at: which ones are formed. -/
open Go Go.Abs
namespace Go.Abs
set_option maxRecDepth 100000
set_option maxHeartbeats 4000000
def ty20:TyI:={ d:=TyD.ifc,sz:=1,bytes:=16,zero:=AV.imm IV.niliface }
instance tyis20:TyIs CC 20 ty20:=⟨by kernel_rfl⟩
def ty115:TyI:={ d:=TyD.st [],sz:=0,bytes:=0,zero:=AV.imm (IV.agg []) }
instance tyis115:TyIs CC 175 ty115:=⟨by kernel_rfl⟩
instance fnis54:FnIs CC 49:=⟨rfl,fun _=>rfl⟩
theorem cal85n {rb nx:Nat} {G:Nat->Obj}:CalD CC 102 [.ptr rb 0] none G nx fun _ G' nx'=>G'=G/\nx<=nx':=by
 refine CalD.of (fn:=Go.Proofs.Tryz.f102) (by kernel_rfl) rfl rfl rfl ?_
 refine AN ?_
 refine R.op0 O.recoverN rfl ?_
 refine AN ?_
 refine R.op0 (O.ifcNil rfl rfl rfl rfl) rfl ?_
 refine AN ?_
 exact W.skipFinDf ⟨rfl,by omega⟩
theorem cal85p {rb nx:Nat} {G:Nat->Obj} {u:AV} (hG:G rb = .box [u] false) (hr:rb < nx):CalD CC 102 [.ptr rb 0] (some unf) G nx fun x G' _=>x=true/\G' rb = .box [.imm .nilp] false:=by
 refine CalD.of (fn:=Go.Proofs.Tryz.f102) (by kernel_rfl) rfl rfl rfl ?_
 refine AN ?_
 refine R.recover rfl ?_
 refine AN ?_
 refine R.op0 (O.ifcSome rfl rfl rfl) rfl ?_
 refine AN ?_
 refine R.op0 (O.typeIs rfl ⟨(fun h=>by cases h),(fun h=>by cases h)⟩) rfl ?_
 refine AN ?_
 exact W.skipFinDf ⟨rfl,at_upd⟩
noncomputable def lookedIV (p:Pgm):IV:=if progR p then scopeIV p ((p.defs.length-1:Nat):Int) (countR p) else .nilp
theorem ret54 (p:Pgm) (hp:p.Fits):Ret CC 49 [p.iv] (lookedIV p):=by
 refine Cal.ret ?_
 have hsl:p.srcs.length<=9223372036854775807:=hp.srcs
 have hdl:p.defs.length<=9223372036854775807:=hp.defs
 have hdn:defNames p=(p.defs.take 7).map Dfn.name:=rfl
 generalize hres:lookedIV p=res
 have hbad:progR p=false->res = .nilp:=fun h=>by rw [<-hres];unfold lookedIV;rw [h];rfl
 have hgood:progR p=true->res=scopeIV p ((p.defs.length-1:Nat):Int) (countR p):=fun h=>by rw [<-hres];unfold lookedIV;rw [h];rfl
 clear hres
 refine Cal.ofD (fn:=Go.Proofs.Tryz.f49) (by kernel_rfl) rfl rfl ?_
 obtain ⟨srcs,defs⟩:=p
 simp only at hsl hdl
 have hsm:(srcs.map sv).length=srcs.length:=List.length_map ..
 have hdm:(defs.map Dfn.iv).length=defs.length:=List.length_map ..
 refine AN ?_
 refine R.defer rfl rfl rfl rfl ?_
 refine R.done ?_
 have bad:progR ⟨srcs,defs⟩=false->∀ {G:Nat->Obj} {nx:Nat} {l:Env} {u:AV},look l 2=some (.ptr 1 0)->G 1 = .box [u] false->2<=nx->∀ t',Agree t' l->finD CC Go.Proofs.Tryz.f49.results.toList (fun v G x=>∃ ids,peek G pkDepth v=some (res,ids)) (.pan unf ⟨t',G,nx,[(mkFn (.func 102) [.ptr (0+1) 0],[])], .no⟩):=by
  intro h G nx l u h1 h2 h3
  refine panD rfl rfl h1 rfl ?_
  obtain ⟨n,v,m',x,G',nx',g1,g2,g3⟩:=cal85p h2 (show 1 < nx by omega)
  exact ⟨n,v,m',x,G',nx',g1,g2,_,_,g3,[],by rw [hbad h];rfl⟩
 have hneg:countR ⟨srcs,defs⟩ < 0->progR ⟨srcs,defs⟩=false:=fun h=>by unfold progR;rw [if_pos h]
 have hlen:(srcs.length < 1\/4 < srcs.length\/6 < defs.length)->progR ⟨srcs,defs⟩=false:=fun h=>hneg (by unfold countR;rw [if_pos h];decide)
 have hr87:=ret87
 rcases Bool.eq_false_or_eq_true (decide (((srcs.map sv).length:Int) > 0)) with hA|hA
 rotate_left
 ·have hA':=of_decide_eq_false hA
  refine AN ?_
  exact R.callPan rfl rfl pan86 (bad (hlen (by omega)) rfl rfl (by omega))
 rcases Bool.eq_false_or_eq_true (decide (((srcs.map sv).length:Int)<=4)) with hB|hB
 rotate_left
 ·have hB':=of_decide_eq_false hB
  refine AN ?_
  exact R.callPan rfl rfl pan86 (bad (hlen (by omega)) rfl rfl (by omega))
 rcases Bool.eq_false_or_eq_true (decide (((defs.map Dfn.iv).length:Int)<=6)) with hC|hC
 rotate_left
 ·have hC':=of_decide_eq_false hC
  refine AN ?_
  exact R.callPan rfl rfl (panM hC) (bad (hlen (by omega)) rfl rfl (by omega))
 have hA':=of_decide_eq_true hA
 have hB':=of_decide_eq_true hB
 have hC':=of_decide_eq_true hC
 have hr:=retM hC
 have hdn:defNames ⟨srcs,defs⟩=defs.map Dfn.name:=by rw [hdn];show (defs.take 7).map _=_;rw [List.take_of_length_le (by omega)]
 refine A1 ?_
 refine A1 ?_
 have hcr:countR ⟨srcs,defs⟩=if diff (srcs++defs.map Dfn.name) then countL srcs (defs.map Dfn.name) defs 0 0 else -1:=by
  unfold countR;rw [if_neg (show ¬ (srcs.length < 1\/4 < srcs.length\/6 < defs.length) by omega),hdn]
 rw [diff_append] at hcr
 obtain ⟨f1,f2⟩:=ret88 (l:=srcs) others_nil hsl hp.src
 rcases Bool.eq_false_or_eq_true (fresh [] srcs) with hF|hF
 rotate_left
 ·refine W.seqR ?_
  refine W.drawXN ?_
  refine AX ?_
  exact DX.callPan rfl rfl (f2 hF) rfl (by kernel_rfl) (bad (hneg (by rw [hcr,hF];simp)) rfl rfl (by omega))
 have hr88:=f1 hF
 refine W.seqR ?_
 refine W.drawN ?_
 refine AD ?_
 refine D.done (by kernel_rfl) ?_
 have hr75:=ret75 defs (by omega)
 obtain ⟨g1,g2⟩:=ret88 (l:=defs.map Dfn.name) (others_num srcs) (by rw [List.length_map];omega) (fun s hs=>by obtain ⟨d,hd,rfl⟩:=List.mem_map.1 hs;exact hp.name d hd)
 rcases Bool.eq_false_or_eq_true (fresh srcs (defs.map Dfn.name)) with hG|hG
 rotate_left
 ·refine W.seqR ?_
  refine W.drawXN ?_
  refine AX ?_
  exact DX.callPan rfl rfl (g2 hG) rfl (by kernel_rfl) (bad (hneg (by rw [hcr,hF,hG];simp)) rfl rfl (by omega))
 have hr88':=g1 hG
 refine W.seqR ?_
 refine W.drawN ?_
 refine AD ?_
 refine D.done (by kernel_rfl) ?_
 rw [hF,hG] at hcr
 simp only [Bool.and_self,if_true] at hcr
 have hnm:(defs.map Dfn.name).length=defs.length:=List.length_map ..
 have hfor:∀ i d,defs[i]? = some d->foreAt defs i=(allE d.exp).any Exp.fore:=fun i d h=>by unfold foreAt;rw [h];rfl
 have hpq:0<=countR ⟨srcs,defs⟩->(progR ⟨srcs,defs⟩=true↔∀ i,i < defs.length->Reach (tosR ⟨srcs,defs⟩) i i->foreAt defs i=false):=fun h=>progR_eq h
 have hgd:0<=countR ⟨srcs,defs⟩->Pgm.Good ⟨srcs,defs⟩:=fun h=>countR_good h
 have hfit:=hp.exp
 simp only at hfit
 have hsc:∀ n:Int,scopeIV ⟨srcs,defs⟩ ((defs.length-1:Nat):Int) n = .fptr [numIV srcs,numIV (defs.map Dfn.name),shapesIV, .int .i64 ((defs.length-1:Nat):Int), .int .i64 n] 0:=fun n=>by unfold scopeIV;rw [hdn]
 generalize hnames:defs.map Dfn.name=names at *
 refine AN ?_
 refine W.loop (X:=Nat×Int) (fun x=>[(1, .ptr 0 0),(2, .ptr 1 0),(50, .imm (.lst (defs.map Dfn.iv))),(51, .imm (.int .i64 (defs.map Dfn.iv).length)),(52, .imm (.int .i64 x.1))])
  (fun x nx G=>24<=nx/\G 0 = .box [.imm (.lst (srcs.map sv)), .imm (.lst (defs.map Dfn.iv))] false/\G 1 = .box [.ptr 23 0] false/\G 23 = .box [.imm (numIV srcs), .imm (numIV names), .imm shapesIV, .imm (.int .i64 ((x.1-1:Nat):Int)), .imm (.int .i64 x.2)] false /\
   x.1<=defs.length/\(0<=x.2/\x.2<=60)/\countR ⟨srcs,defs⟩=countL srcs names (defs.drop x.1) x.1 x.2)
  (fun x=>defs.length-x.1) (0,0) .auto ⟨by omega,rfl,rfl,rfl,Nat.zero_le _,by decide,hcr⟩ ?_
 clear f1 f2 g1 g2 hr88 hr88' hr75 hr87 hcr hlen hA hB hC hF hG hr
 rintro ⟨i,m⟩ nx G ⟨hnx,hG0,hG1,hG2,hi,hm,he⟩
 dsimp only at hG2 hi hm he ⊢
 rcases Bool.eq_false_or_eq_true (decide ((i:Int) < ((defs.map Dfn.iv).length:Int))) with hc|hc
 ·have hlt:i < defs.length:=by have:=of_decide_eq_true hc;omega
  obtain ⟨d,hx⟩:=at_lt hlt
  have hxi:=at_map Dfn.iv hx
  have hdc:=d.cells_len
  have hmu:defs.length-(i+1) < defs.length-i:=by omega
  have hcal:=fun nx G h1 h2=>@cal89 23 srcs names i d.exp (hfit d (List.mem_of_getElem? hx)) nx G m 1 h1 h2 hm (by omega)
  have hle:=(expR_le srcs names i d.exp 1 (60-m)).2
  rw [countL_drop srcs names hx] at he
  obtain ⟨nm,⟨o',s',n',f',c',k'⟩⟩:=d
  refine AN ?_
  refine R.callBP rfl rfl rfl rfl rfl ((hcal _ _ at_upd (by omega)).mono fun r hr=>?_)
  cases r with
  |pan u G' nx'=>
   obtain ⟨rfl,g1,g2,g3⟩:=hr
   rw [if_pos g1] at he
   exact bad (hneg (by rw [he];decide)) rfl ((g3 1 (by omega) (by decide)).trans at_upd) (by omega)
  |ret v G' nx'=>
   obtain ⟨rfl,g1,g2,g3,g4⟩:=hr
   rw [if_neg (by omega)] at he
   refine AN ?_
   exact W.skipLop (i+1,m+expR srcs names i (.mk o' s' n' f' c' k') 1 (60-m)) hmu .auto ⟨by omega,(g4 0 (by omega) (by decide)).trans at_upd,(g4 1 (by omega) (by decide)).trans at_upd,g2,hlt,by have:=hle g1;dsimp only at *;omega,he⟩
 have hge:defs.length<=i:=by have:=of_decide_eq_false hc;omega
 have hil:i=defs.length:=by omega
 subst hil
 rw [List.drop_eq_nil_of_le hge,countL] at he
 have h0:0<=countR ⟨srcs,defs⟩:=by omega
 have hpq:=hpq h0
 have hgd:=hgd h0
 have htos:=hgd.tos
 have htl:(tosR ⟨srcs,defs⟩).length=defs.length:=htos.len
 clear hneg
 have hgood2:(∀ i,i < defs.length->Reach (tosR ⟨srcs,defs⟩) i i->foreAt defs i=false)->res = .fptr [numIV srcs,numIV names,shapesIV, .int .i64 ((defs.length-1:Nat):Int), .int .i64 m] 0:=fun h=>by
  rw [hgood (hpq.2 h),<-hsc,he]
 have hbad2:∀ i,i < defs.length->Reach (tosR ⟨srcs,defs⟩) i i->foreAt defs i=true->progR ⟨srcs,defs⟩=false:=fun i h1 h2 h3=>by
  rw [Bool.eq_false_iff]
  intro h
  rw [hpq.1 h i h1 h2] at h3
  cases h3
 have hreach:=fun (d:Nat) (h:d < defs.length)=>ret47 hp htos ((defs.length-1:Nat):Int) m (d:=d) (by rw [htl];exact h)
 rw [hsc] at hreach
 generalize tosR ⟨srcs,defs⟩=tos at *
 refine AN ?_
 refine W.loop (X:=Nat) (fun i=>[(1, .ptr 0 0),(2, .ptr 1 0),(67, .imm (.lst (defs.map Dfn.iv))),(68, .imm (.int .i64 (defs.map Dfn.iv).length)),(69, .imm (.int .i64 i))])
  (fun i nx G=>24<=nx/\G 0 = .box [.imm (.lst (srcs.map sv)), .imm (.lst (defs.map Dfn.iv))] false/\G 1 = .box [.ptr 23 0] false/\(∃ fr,G 23 = .box ([numIV srcs,numIV names,shapesIV, .int .i64 ((defs.length-1:Nat):Int), .int .i64 m].map .imm) fr) /\
   i<=defs.length/\∀ j,j < i->Reach tos j j->foreAt defs j=false)
  (fun i=>defs.length-i) 0 .auto ⟨by omega,hG0,hG1,⟨false,hG2⟩,Nat.zero_le _,fun j h=>by omega⟩ ?_
 clear hG0 hG1 hG2 hnx hi hc hge nx G he
 rintro i nx G ⟨hnx,hG0,hG1,⟨fr,hG2⟩,hi,hall⟩
 rcases Bool.eq_false_or_eq_true (decide ((i:Int) < ((defs.map Dfn.iv).length:Int))) with hc|hc
 ·have hlt:i < defs.length:=by have:=of_decide_eq_true hc;omega
  obtain ⟨d,hx⟩:=at_lt hlt
  have hxi:=at_map Dfn.iv hx
  have hdc:=d.cells_len
  have hmu:defs.length-(i+1) < defs.length-i:=by omega
  have hf:=hfit d (List.mem_of_getElem? hx)
  have hfo:=hfor i d hx
  obtain ⟨out,ho1,ho2,ho3,hr47⟩:=hreach i hlt
  have hset:=setLook out i
  have hr49:=ret49 d.exp
  obtain ⟨nm,⟨o',s',n',f',c',k'⟩⟩:=d
  refine AN ?_
  refine R.opU (O.callFz (ids:=[23]) rfl ?_ hr47 rfl) rfl ?_
  ·exact peeks_cons (vs:=[(Pgm.mk srcs defs).iv,natIV i]) (peek_box (fr:=fr) (by exact at_upd))
  refine R.gen' (fun G2=>G2 0 = .box [.imm (.lst (srcs.map sv)), .imm (.lst (defs.map Dfn.iv))] false/\G2 1 = .box [.ptr 23 0] false/\G2 23 = .box ([numIV srcs,numIV names,shapesIV, .int .i64 ((defs.length-1:Nat):Int), .int .i64 m].map .imm) true /\
   G2 (nx+1+3) = .box [.imm (sv nm), .imm (.int .i64 o'), .imm (sv s'), .imm (.int .i64 n'), .imm (.int .i64 f'), .imm (.lst (Trm.ivs c')), .imm (.lst (Exp.ivs k'))] false) ⟨?_,?_,frz1 (fr:=fr) at_upd,?_⟩ ?_
  iterate 3 exact (frz1_ne (by omega)).trans at_upd
  clear hG0 hG1 hG2 G
  rintro G ⟨hG0,hG1,hG2,hG3⟩
  have hmem:out.contains i=true->Reach tos i i:=fun h=>(ho3 i).1 (by simpa using h)
  have hnmem:out.contains i=false->¬ Reach tos i i:=fun h hr=>by
   have:=(ho3 i).2 hr
   simp [this] at h
  rcases Bool.eq_false_or_eq_true (out.contains i) with hC|hC
  ·have hri:=hmem hC
   refine AN ?_
   refine W.nodes _ hf (fun k G1=>(∀ o,o < nx->G1 o=G o)/\((allE (.mk o' s' n' f' c' k')).take k).any Exp.fore=false) (fun _=>False) (fun u G1 nx1=>u=unf/\nx<=nx1/\(∀ o,o < nx->G1 o=G o)/\foreAt defs i=true)
    rfl rfl rfl rfl rfl ?_ ?_ ?_ ?_ ?_ ?_ ?_
   ·rintro k G1 G2 ⟨h1,h2⟩ h3
    exact ⟨fun o h=>(h3 o (by omega)).trans (h1 o h),h2⟩
   ·intro _ _ h;exact h.elim
   ·exact ⟨fun _ _=>rfl,rfl⟩
   ·rintro q k x G1 nx1 lp0 lp1 Φr hq hxa hn ⟨h1,h2⟩ hlp next _ hpn
    have htk:=fun h=>any_take (p:=Exp.fore) hxa h2 h
    have hany:=fun h=>any_at (p:=Exp.fore) hxa h
    obtain ⟨op',name',m',fold',calcs',kids'⟩:=x
    refine W.regionN ?_
    refine AQ ?_
    refine R.doneAstQ at_upd ?_
    refine W.gen' (fun G2=>G2 (nx1+0) = .box [.imm (.int .i64 op'), .imm (sv name'), .imm (.int .i64 m'), .imm (.int .i64 fold'), .imm (.lst (Trm.ivs calcs')), .imm (.lst (Exp.ivs kids'))] false/\G2 q=lp1/\∀ o,o < nx1->o≠q->G2 o=G1 o) ⟨at_upd,at_upd,fun o _ _=>at_upd⟩ ?_
    rintro G2 ⟨hbx,hlp2,hfr2⟩
    have hfr3:∀ o,o < nx->G2 o=G o:=fun o h=>(hfr2 o (by omega) (by omega)).trans (h1 o h)
    have hfr4:∀ o,q+2<=o->o < nx1->G2 o=G1 o:=fun o h h'=>hfr2 o h' (by omega)
    rcases Bool.eq_false_or_eq_true (op' != 14) with hP|hP
    ·rcases Bool.eq_false_or_eq_true (op' != 7) with hQ|hQ
     ·have hr:=retM (b:=true) rfl
      refine AN ?_
      refine next (by omega) hfr4 ⟨hfr3,htk ?_⟩ hlp2
      show (op'==14||(op'==7&&decide (m' < 0)))=false
      simp at hP hQ
      simp [hP,hQ]
     ·rcases Bool.eq_false_or_eq_true (decide (m'>=0)) with hR|hR
      ·have hr:=retM hR
       refine AN ?_
       refine next (by omega) hfr4 ⟨hfr3,htk ?_⟩ hlp2
       show (op'==14||(op'==7&&decide (m' < 0)))=false
       simp at hP hR
       simp [hP,hR]
      ·refine AN ?_
       refine R.callPan rfl rfl (panM hR) (hpn ⟨rfl,by omega,hfr3,?_⟩)
       rw [hfo]
       apply hany
       show (op'==14||(op'==7&&decide (m' < 0)))=true
       simp at hQ hR
       simp [hQ,hR]
    ·refine AN ?_
     refine R.callPan rfl rfl pan86 (hpn ⟨rfl,by omega,hfr3,?_⟩)
     rw [hfo]
     apply hany
     show (op'==14||(op'==7&&decide (m' < 0)))=true
     simp at hP
     simp [hP]
   ·rintro G1 nx1 ⟨h1,h2⟩ hn
    rw [List.take_length] at h2
    refine AN ?_
    refine W.skipLop (i+1) hmu .auto ⟨by omega,(h1 0 (by omega)).trans hG0,(h1 1 (by omega)).trans hG1,⟨true,(h1 23 (by omega)).trans hG2⟩,hlt,fun j h3 h4=>?_⟩
    by_cases hj:j=i
    ·subst hj;rw [hfo];exact h2
    ·exact hall j (by omega) h4
   ·intro _ _ h;exact h.elim
   ·rintro u G1 nx1 ⟨rfl,h1,h2,h3⟩
    exact bad (hbad2 i hlt hri h3) rfl ((h2 1 (by omega)).trans hG1) (by omega)
  ·have hnr:=hnmem hC
   refine AN ?_
   refine W.skipLop (i+1) hmu .auto ⟨by omega,hG0,hG1,⟨true,hG2⟩,hlt,fun j h3 h4=>?_⟩
   by_cases hj:j=i
   ·subst hj;exact absurd h4 hnr
   ·exact hall j (by omega) h4
 ·have hge:defs.length<=i:=by have:=of_decide_eq_false hc;omega
  have hres:=hgood2 fun j h1 h2=>hall j (by omega) h2
  refine AN ?_
  refine W.retFinD rfl rfl rfl rfl ?_
  obtain ⟨n,v,m',x,G',nx',g1,rfl,g3⟩:=cal85n (rb:=1) (nx:=nx+1+2) (G:=upd G 1 (.box [.ptr 23 0] false))
  refine ⟨n,v,m',x,_,nx',g1,_,_,upd_same _ _ _,[23],?_⟩
  rw [hres]
  exact peek_box (fr:=fr) at_upd
end Go.Abs

/- The rows of the chapter's examples, reckoned. -/
open Go Go.Abs
namespace Go.Abs
theorem ret14:Ret CC 19 [] (.bool true):=Ret.reckon (n:=60) (by kernel_rfl)
end Go.Abs

/- TermChecks: the law. -/
open Go Go.Abs
namespace Go.Abs
set_option maxRecDepth 100000
set_option maxHeartbeats 4000000
instance fnis46:FnIs CC 70:=⟨rfl,fun _=>rfl⟩
theorem ret27 (p:Pgm) (hp:p.Fits):Ret CC 22 [p.iv] (.tup [.int .i64 (if progR p then countR p else 0), .int .i64 (if progR p then 0 else 2)]):=by
 have hr:=ret54 p hp
 unfold lookedIV at hr
 generalize progR p=b at *
 generalize countR p=n at *
 generalize ((p.defs.length-1:Nat):Int)=m at *
 obtain ⟨srcs,defs⟩:=p
 refine Ret.of (fn:=Go.Proofs.Tryz.f22) (by kernel_rfl) rfl rfl ?_
 cases b with
 |true=>
  rw [if_pos rfl] at hr
  refine AA ?_
  exact W.retFin2 rfl rfl ⟨[],rfl⟩
 |false=>
  rw [if_neg (by decide)] at hr
  refine AA ?_
  exact W.retFin2 rfl rfl ⟨[],rfl⟩
end Go.Abs

/- Copies of terms and expressions, as the program makes them; and comparing them. -/
open Go Go.Abs
namespace Go.Abs
set_option maxRecDepth 100000
set_option maxHeartbeats 4000000
instance fnis90:FnIs CC 110:=⟨rfl,fun _=>rfl⟩
instance fnis91:FnIs CC 111:=⟨rfl,fun _=>rfl⟩
instance fnis92:FnIs CC 112:=⟨rfl,fun _=>rfl⟩
instance fnis63:FnIs CC 73:=⟨rfl,fun _=>rfl⟩
theorem tivs_take {l:List Trm} {i:Nat} {c:Trm} (h:l[i]? = some c):Trm.ivs (l.take (i+1))=Trm.ivs (l.take i)++[c.iv]:=by
 rw [Trm.ivs_map,Trm.ivs_map,List.take_add_one,h];simp
theorem ivs_take {l:List Exp} {i:Nat} {c:Exp} (h:l[i]? = some c):Exp.ivs (l.take (i+1))=Exp.ivs (l.take i)++[c.iv]:=by
 rw [Exp.ivs_map,Exp.ivs_map,List.take_add_one,h];simp
theorem Trm.iv_fits (c:Trm):(AV.imm c.iv).fits 3=true:=by cases c;rfl
theorem Exp.iv_fits (c:Exp):(AV.imm c.iv).fits 6=true:=by cases c;rfl
theorem ret90 {f:FuncId} {cap:List IV} {g:Trm->Trm} (hfi:FnIs CC f) (l:List Trm) (hl:l.length<=1048576) (h:∀ c∈l,Ret CC f ([c.iv]++cap) (g c).iv):Ret CC 110 [.lst (Trm.ivs l), .fn (.func f) cap] (.lst (Trm.ivs (l.map g))):=by
 have hlm:=tivs_len l
 refine Ret.of (fn:=Go.Proofs.Tryz.f110) (by kernel_rfl) rfl rfl ?_
 refine AA ?_
 refine W.loop (X:=Nat×AV) (fun x=>[(1, .imm (.fn (.func f) cap)),(8, .imm (.lst (Trm.ivs l))),(9, .imm (.int .i64 (Trm.ivs l).length)),(10, .imm (.int .i64 x.1)),(5,x.2)])
  (fun x nx G=>x.1<=l.length/\Own 172 3 0 nx (Trm.ivs ((l.map g).take x.1)) G x.2)
  (fun x=>l.length-x.1) (0, .nils) .auto ⟨Nat.zero_le _, .nil ..⟩ ?_
 rintro ⟨i,v⟩ nx G ⟨hi,ho⟩
 dsimp only at hi ho ⊢
 rcases Bool.eq_false_or_eq_true (decide ((i:Int) < ((Trm.ivs l).length:Int))) with hc|hc
 ·have hlt:i < l.length:=by have:=of_decide_eq_true hc;omega
  obtain ⟨d,hx⟩:=at_lt hlt
  have hxi:=tivs_at hx
  have hdc:=d.cells_len
  have hmu:l.length-(i+1) < l.length-i:=by omega
  have hr:=h d (List.mem_of_getElem? hx)
  have hgf:=(g d).iv_fits
  have htk:Trm.ivs ((l.map g).take (i+1))=Trm.ivs ((l.map g).take i)++[(g d).iv]:=tivs_take (by rw [List.getElem?_map,hx];rfl)
  have hlen:(Trm.ivs ((l.map g).take i)).length<=1048576:=by rw [tivs_len,List.length_take];omega
  generalize (g d).iv=gd at *
  obtain ⟨o',m',k'⟩:=d
  refine AA ?_
  refine R.op1 (O.buildX rfl inferInstance rfl rfl (by decide) rfl (by show ([AV.imm gd].all (AV.fits 3))=true;rw [List.all_cons,hgf];rfl) (by decide)) rfl ?_
  refine R.app1 ho at_upd (by simp only [most];omega) fun v' G' ho' hG'=>?_
  rw [<-htk] at ho'
  refine AA ?_
  exact W.skipLop (i+1,v') hmu .auto ⟨hlt,ho'.fr⟩
 ·have hge:l.length<=i:=by have:=of_decide_eq_false hc;omega
  rw [List.take_of_length_le (by simpa using hge)] at ho
  refine AA ?_
  exact W.retFin1 rfl ho.peek
theorem ret91 {c:Trm} (h:c.Sm):Ret CC 111 [c.iv] c.iv:=by
 induction h with
 |mk op n kids hl hk ih=>
 have hr:=ret90 (g:=id) (cap:=[]) fnis91 kids hl ih
 rw [List.map_id] at hr
 refine Ret.of (fn:=Go.Proofs.Tryz.f111) (by kernel_rfl) rfl rfl ?_
 refine AA ?_
 exact W.retFinCA rfl rfl rfl rfl ⟨[],rfl⟩
theorem ret92 {f:FuncId} {cap:List IV} {g:Exp->Exp} (hfi:FnIs CC f) (l:List Exp) (hl:l.length<=1048576) (h:∀ c∈l,Ret CC f ([c.iv]++cap) (g c).iv):Ret CC 112 [.lst (Exp.ivs l), .fn (.func f) cap] (.lst (Exp.ivs (l.map g))):=by
 have hlm:=ivs_len l
 refine Ret.of (fn:=Go.Proofs.Tryz.f112) (by kernel_rfl) rfl rfl ?_
 refine AA ?_
 refine W.loop (X:=Nat×AV) (fun x=>[(1, .imm (.fn (.func f) cap)),(8, .imm (.lst (Exp.ivs l))),(9, .imm (.int .i64 (Exp.ivs l).length)),(10, .imm (.int .i64 x.1)),(5,x.2)])
  (fun x nx G=>x.1<=l.length/\Own 93 6 0 nx (Exp.ivs ((l.map g).take x.1)) G x.2)
  (fun x=>l.length-x.1) (0, .nils) .auto ⟨Nat.zero_le _, .nil ..⟩ ?_
 rintro ⟨i,v⟩ nx G ⟨hi,ho⟩
 dsimp only at hi ho ⊢
 rcases Bool.eq_false_or_eq_true (decide ((i:Int) < ((Exp.ivs l).length:Int))) with hc|hc
 ·have hlt:i < l.length:=by have:=of_decide_eq_true hc;omega
  obtain ⟨d,hx⟩:=at_lt hlt
  have hxi:=ivs_at hx
  have hdc:=d.cells_len
  have hmu:l.length-(i+1) < l.length-i:=by omega
  have hr:=h d (List.mem_of_getElem? hx)
  have hgf:=(g d).iv_fits
  have htk:Exp.ivs ((l.map g).take (i+1))=Exp.ivs ((l.map g).take i)++[(g d).iv]:=ivs_take (by rw [List.getElem?_map,hx];rfl)
  have hlen:(Exp.ivs ((l.map g).take i)).length<=1048576:=by rw [ivs_len,List.length_take];omega
  generalize (g d).iv=gd at *
  obtain ⟨o',s',m',f',c',k'⟩:=d
  refine AA ?_
  refine R.op1 (O.buildX rfl inferInstance rfl rfl (by decide) rfl (by show ([AV.imm gd].all (AV.fits 6))=true;rw [List.all_cons,hgf];rfl) (by decide)) rfl ?_
  refine R.app1 ho at_upd (by simp only [most];omega) fun v' G' ho' hG'=>?_
  rw [<-htk] at ho'
  refine AA ?_
  exact W.skipLop (i+1,v') hmu .auto ⟨hlt,ho'.fr⟩
 ·have hge:l.length<=i:=by have:=of_decide_eq_false hc;omega
  rw [List.take_of_length_le (by simpa using hge)] at ho
  refine AA ?_
  exact W.retFin1 rfl ho.peek
theorem ret63 {e:Exp} (h:e.Sm):Ret CC 73 [e.iv] e.iv:=by
 induction h with
 |mk op name n fold calcs kids hc hk hcs hks ih=>
 have hr:=ret92 (g:=id) (cap:=[]) fnis63 kids hk ih
 have hr2:=ret90 (g:=id) (cap:=[]) fnis91 calcs hc fun c h=>ret91 (hcs c h)
 rw [List.map_id] at hr hr2
 refine Ret.of (fn:=Go.Proofs.Tryz.f73) (by kernel_rfl) rfl rfl ?_
 refine AA ?_
 exact W.retFinCA rfl rfl rfl rfl ⟨[],rfl⟩
end Go.Abs

/- Copies of terms and expressions, as the reference makes them; and comparing what is the same. -/
open Go Go.Abs
namespace Go.Abs
set_option maxRecDepth 100000
set_option maxHeartbeats 4000000
instance fnis94:FnIs CC 120:=⟨rfl,fun _=>rfl⟩
instance fnis61:FnIs CC 61:=⟨rfl,fun _=>rfl⟩
theorem ret94 {c:Trm} (h:c.Sm):Ret CC 120 [c.iv,c.iv] (.bool true):=by
 induction h with
 |mk op n kids hl hk ih=>
 have hlm:=tivs_len kids
 have b1:(op != op)=false:=by simp
 have b2:(n != n)=false:=by simp
 have b3:(((Trm.ivs kids).length:Int) != ((Trm.ivs kids).length:Int))=false:=by simp
 have b4:(!true)=false:=rfl
 refine Ret.of (fn:=Go.Proofs.Tryz.f120) (by kernel_rfl) rfl rfl ?_
 refine AA ?_
 refine W.loop (X:=Nat) (fun i=>[(2, .ptr 0 0),(3, .ptr 1 0),(5, .imm (.int .i64 i))])
  (fun i nx G=>i<=kids.length/\G 0 = .box [.imm (.int .i64 op), .imm (.int .i64 n), .imm (.lst (Trm.ivs kids))] false/\G 1 = .box [.imm (.int .i64 op), .imm (.int .i64 n), .imm (.lst (Trm.ivs kids))] false)
  (fun i=>kids.length-i) 0 .auto ⟨Nat.zero_le _,rfl,rfl⟩ ?_
 rintro i nx G ⟨hi,h0,h1⟩
 rcases Bool.eq_false_or_eq_true (decide ((i:Int) < ((Trm.ivs kids).length:Int))) with hc|hc
 ·have hlt:i < kids.length:=by have:=of_decide_eq_true hc;omega
  obtain ⟨d,hx⟩:=at_lt hlt
  have hxi:=tivs_at hx
  have hdc:=d.cells_len
  have hmu:kids.length-(i+1) < kids.length-i:=by omega
  have hr:=ih d (List.mem_of_getElem? hx)
  obtain ⟨o',m',k'⟩:=d
  refine AA ?_
  exact W.skipLop (i+1) hmu .auto ⟨hlt,h0,h1⟩
 ·refine AA ?_
  exact W.retFin1 rfl ⟨[],rfl⟩
theorem ret61 {e:Exp} (h:e.Sm):Ret CC 61 [e.iv,e.iv] (.bool true):=by
 induction h with
 |mk op name n fold calcs kids hlc hlk hcs hks ih=>
 have hlm:=tivs_len calcs
 have hlm2:=ivs_len kids
 have b1:(op != op)=false:=by simp
 have b2:(n != n)=false:=by simp
 have b0:(!(name==name))=false:=by simp
 have b5:(fold != fold)=false:=by simp
 have b3:(((Trm.ivs calcs).length:Int) != ((Trm.ivs calcs).length:Int))=false:=by simp
 have b6:(((Exp.ivs kids).length:Int) != ((Exp.ivs kids).length:Int))=false:=by simp
 have b4:(!true)=false:=rfl
 refine Ret.of (fn:=Go.Proofs.Tryz.f61) (by kernel_rfl) rfl rfl ?_
 refine AA ?_
 refine W.loop (X:=Nat) (fun i=>[(2, .ptr 0 0),(3, .ptr 1 0),(5, .imm (.int .i64 i))])
  (fun i nx G=>i<=calcs.length/\G 0 = .box [.imm (.int .i64 op), .imm (sv name), .imm (.int .i64 n), .imm (.int .i64 fold), .imm (.lst (Trm.ivs calcs)), .imm (.lst (Exp.ivs kids))] false/\G 1 = .box [.imm (.int .i64 op), .imm (sv name), .imm (.int .i64 n), .imm (.int .i64 fold), .imm (.lst (Trm.ivs calcs)), .imm (.lst (Exp.ivs kids))] false)
  (fun i=>calcs.length-i) 0 .auto ⟨Nat.zero_le _,rfl,rfl⟩ ?_
 rintro i nx G ⟨hi,h0,h1⟩
 rcases Bool.eq_false_or_eq_true (decide ((i:Int) < ((Trm.ivs calcs).length:Int))) with hc|hc
 ·have hlt:i < calcs.length:=by have:=of_decide_eq_true hc;omega
  obtain ⟨d,hx⟩:=at_lt hlt
  have hxi:=tivs_at hx
  have hdc:=d.cells_len
  have hmu:calcs.length-(i+1) < calcs.length-i:=by omega
  have hr:=ret94 (hcs d (List.mem_of_getElem? hx))
  obtain ⟨o',m',k'⟩:=d
  refine AA ?_
  exact W.skipLop (i+1) hmu .auto ⟨hlt,h0,h1⟩
 refine AA ?_
 refine W.loop (X:=Nat) (fun i=>[(2, .ptr 0 0),(3, .ptr 1 0),(6, .imm (.int .i64 i))])
  (fun i nx G=>i<=kids.length/\G 0 = .box [.imm (.int .i64 op), .imm (sv name), .imm (.int .i64 n), .imm (.int .i64 fold), .imm (.lst (Trm.ivs calcs)), .imm (.lst (Exp.ivs kids))] false/\G 1 = .box [.imm (.int .i64 op), .imm (sv name), .imm (.int .i64 n), .imm (.int .i64 fold), .imm (.lst (Trm.ivs calcs)), .imm (.lst (Exp.ivs kids))] false)
  (fun i=>kids.length-i) 0 .auto ⟨Nat.zero_le _,h0,h1⟩ ?_
 clear h0 h1 hc hi i G nx
 rintro i nx G ⟨hi,h0,h1⟩
 rcases Bool.eq_false_or_eq_true (decide ((i:Int) < ((Exp.ivs kids).length:Int))) with hc|hc
 ·have hlt:i < kids.length:=by have:=of_decide_eq_true hc;omega
  obtain ⟨d,hx⟩:=at_lt hlt
  have hxi:=ivs_at hx
  have hdc:=d.cells_len
  have hmu:kids.length-(i+1) < kids.length-i:=by omega
  have hr:=ih d (List.mem_of_getElem? hx)
  obtain ⟨o',s',m',f',c',k'⟩:=d
  refine AA ?_
  exact W.skipLop (i+1) hmu .auto ⟨hlt,h0,h1⟩
 ·refine AA ?_
  exact W.retFin1 rfl ⟨[],rfl⟩
end Go.Abs

/- Putting one expression for each use of a name. -/
open Go Go.Abs
namespace Go.Abs
set_option maxRecDepth 100000
set_option maxHeartbeats 4000000
instance fnis57:FnIs CC 72:=⟨rfl,fun _=>rfl⟩
instance fnis93:FnIs CC 135:=⟨rfl,fun _=>rfl⟩
mutual
def putE (nm:Str) (rep:Exp):Exp->Exp
 | .mk op name n fold calcs kids=>if (op==2&&name==nm)=true then rep else .mk op name n fold calcs (putL nm rep kids)
def putL (nm:Str) (rep:Exp):List Exp->List Exp
 |[]=>[]
 |e::r=>putE nm rep e::putL nm rep r
end
theorem putL_map (nm:Str) (rep:Exp):∀ l,putL nm rep l=l.map (putE nm rep)
 |[]=>by rw [putL];rfl
 |e::r=>by rw [putL,putL_map nm rep r];rfl
theorem peek_fn2 {G:Nat->Obj} {f:Fn} {q1 q2:Nat} {cs1 cs2:List IV} {fr1 fr2:Bool} (h1:G q1 = .box (cs1.map .imm) fr1) (h2:G q2 = .box (cs2.map .imm) fr2) :
  Go.Abs.peek G pkDepth (.fn f [.ptr q1 0, .ptr q2 0])=some (.fn f [.fptr cs1 0, .fptr cs2 0],[q1,q2]):=by
 have hp:∀ x,Go.Abs.peek G 98 (.imm x)=some (x,[]):=fun x=>rfl
 have hb:∀ {q:Nat} {cs:List IV} {fr:Bool},G q = .box (cs.map .imm) fr->Go.Abs.peek G 99 (.ptr q 0)=some (.fptr cs 0,[q]):=by
  intro q cs fr h
  show Go.Abs.peek G (98+1) _=_
  unfold Go.Abs.peek
  rw [h]
  dsimp only
  rw [peekL_imm hp]
 show Go.Abs.peek G (99+1) _=_
 unfold Go.Abs.peek
 rw [peekL,hb h1,peekL,hb h2,peekL]
 rfl
theorem peeks2 {G:Nat->Obj} {x y:IV} {v:AV} {ids:List Nat} (h:Go.Abs.peek G pkDepth v=some (y,ids)):peeks G [.imm x,v]=some ([x,y],ids):=by
 have hp:Go.Abs.peek G pkDepth (.imm x)=some (x,[]):=rfl
 unfold peeks
 rw [peekL,hp,peekL,h,peekL]
 simp
theorem ret93 {c rep:Exp} {nm:Str} (h:Ret CC 72 [c.iv,sv nm,rep.iv] (putE nm rep c).iv):Ret CC 135 [c.iv, .fptr [sv nm] 0, .fptr (IV.cells rep.iv) 0] (putE nm rep c).iv:=by
 generalize putE nm rep c=r at *
 obtain ⟨o',s',m',f',c',k'⟩:=rep
 obtain ⟨o'',s'',m'',f'',c'',k''⟩:=c
 obtain ⟨o3,s3,m3,f3,c3,k3⟩:=r
 refine Ret.of (fn:=Go.Proofs.Tryz.f135) (by kernel_rfl) rfl rfl ?_
 refine AA ?_
 exact W.retFinCA rfl rfl rfl rfl ⟨[],rfl⟩
theorem ret57 {e rep:Exp} {nm:Str} (h:e.Sm) (hr:rep.Sm):Ret CC 72 [e.iv,sv nm,rep.iv] (putE nm rep e).iv:=by
 have h63:=ret63 hr
 induction h with
 |mk op name n fold calcs kids hc hk hcs hks ih=>
 rw [putE,putL_map]
 have h92:=ret92 (g:=putE nm rep) (cap:=[.fptr [sv nm] 0, .fptr (IV.cells rep.iv) 0]) fnis93 kids hk fun c h=>ret93 (ih c h)
 have h90:=ret90 (g:=id) (cap:=[]) fnis91 calcs hc fun c h=>ret91 (hcs c h)
 rw [List.map_id] at h90
 generalize kids.map (putE nm rep)=ks at *
 obtain ⟨o',s',m',f',c',k'⟩:=rep
 rcases Bool.eq_false_or_eq_true (op==2) with hA|hA
 ·rcases Bool.eq_false_or_eq_true (name==nm) with hB|hB
  ·rw [hA,hB,if_pos (by rfl)]
   refine Ret.of (fn:=Go.Proofs.Tryz.f72) (by kernel_rfl) rfl rfl ?_
   refine AA ?_
   exact W.retFinCA rfl rfl rfl rfl ⟨[],rfl⟩
  ·rw [hA,hB,if_neg (by decide)]
   refine Ret.of (fn:=Go.Proofs.Tryz.f72) (by kernel_rfl) rfl rfl ?_
   refine AA ?_
   refine R.opU (O.callFz (ids:=[1,2]) rfl (peeks2 (peek_fn2 (fr1:=false) (fr2:=false) (cs1:=[sv nm]) rfl rfl)) h92 rfl) rfl ?_
   refine AA ?_
   exact W.retFinCA rfl rfl rfl rfl ⟨[],rfl⟩
 ·rw [hA,Bool.false_and,if_neg (by decide)]
  refine Ret.of (fn:=Go.Proofs.Tryz.f72) (by kernel_rfl) rfl rfl ?_
  refine AA ?_
  refine R.opU (O.callFz (ids:=[1,2]) rfl (peeks2 (peek_fn2 (fr1:=false) (fr2:=false) (cs1:=[sv nm]) rfl rfl)) h92 rfl) rfl ?_
  refine AA ?_
  exact W.retFinCA rfl rfl rfl rfl ⟨[],rfl⟩
end Go.Abs

/- TermParts: nodes and depths. -/
open Go Go.Abs
namespace Go.Abs
set_option maxRecDepth 100000
set_option maxHeartbeats 4000000
/-! ### what is formed is short -/
mutual
theorem calcR_sm:∀ (c:Trm) (other:Bool) (depth left:Int),0<=calcR c other depth left->c.Sm
 | .mk op n kids,other,depth,left,h=>by
  rw [calcR] at h
  split at h
  ·omega
  ·cases hk:kidsOf op n other with
   |none=>rw [hk] at h;simp at h
   |some k=>
    rw [hk] at h
    dsimp only at h
    split at h
    ·omega
    ·rename_i h1
     have hk2:k<=2:=by
      unfold kidsOf at hk
      (repeat' split at hk)<;>cases hk<;>omega
     exact .mk op n kids (by omega) (calcRs_sm kids other depth left 1 h)
theorem calcRs_sm:∀ (l:List Trm) (other:Bool) (depth left n:Int),0<=calcRs l other depth left n->∀ c∈l,c.Sm
 |[],_,_,_,_,_,c,hc=>by cases hc
 |k::r,other,depth,left,n,h,c,hc=>by
  rw [calcRs] at h
  split at h
  ·omega
  ·rename_i h1
   rcases List.mem_cons.1 hc with he|hc
   ·rw [he];exact calcR_sm k other (depth+1) (left-n) (by omega)
   ·exact calcRs_sm r other depth left _ h c hc
end
theorem shape_le {op:Int} {s:Shp} (h:shapeR op=some s):s.calcs<=2/\s.kids<=2:=by
 rcases ops15 op with rfl|rfl|rfl|rfl|rfl|rfl|rfl|rfl|rfl|rfl|rfl|rfl|rfl|rfl|rfl|⟨n1,n2,n3,n4,n5,n6,n7,n8,n9,n10,n11,n12,n13,n14,n15⟩
 iterate 15 (cases h;decide)
 unfold shapeR at h
 simp [n1,n2,n3,n4,n5,n6,n7,n8,n9,n10,n11,n12,n13,n14,n15] at h
mutual
theorem expR_sm (srcs defs:List Str) (ahead:Nat):∀ (e:Exp) (depth left:Int),0<=expR srcs defs ahead e depth left->e.Sm
 | .mk op name n fold calcs kids,depth,left,h=>by
  rw [expR] at h
  cases hs:shapeR op with
  |none=>rw [hs] at h;simp at h
  |some s=>
   rw [hs] at h
   dsimp only at h
   split at h
   ·omega
   ·split at h
    ·rename_i hh
     split at h
     ·omega
     ·rename_i hc
      have hle:=shape_le hs
      unfold headIs at hh
      simp only [Bool.and_eq_true,beq_iff_eq] at hh
      exact .mk op name n fold calcs kids (by omega) (by omega) (calcRs_sm calcs (other op) 0 left 1 (by omega)) (expRs_sm srcs defs ahead kids depth left _ h)
    ·omega
theorem expRs_sm (srcs defs:List Str) (ahead:Nat):∀ (l:List Exp) (depth left n:Int),0<=expRs srcs defs ahead l depth left n->∀ e∈l,e.Sm
 |[],_,_,_,_,e,he=>by cases he
 |k::r,depth,left,n,h,e,he=>by
  rw [expRs] at h
  split at h
  ·omega
  ·rename_i h1
   rcases List.mem_cons.1 he with hk|he
   ·rw [hk];exact expR_sm srcs defs ahead k (depth+1) (left-n) (by omega)
   ·exact expRs_sm srcs defs ahead r depth left _ h e he
end
theorem countL_sm (srcs names:List Str):∀ (ds:List Dfn) (i:Nat) (n:Int),0<=countL srcs names ds i n->∀ d∈ds,d.exp.Sm
 |[],_,_,_,d,hd=>by cases hd
 |k::r,i,n,h,d,hd=>by
  rw [countL] at h
  split at h
  ·omega
  ·rename_i h1
   rcases List.mem_cons.1 hd with hk|hd
   ·rw [hk];exact expR_sm srcs names i k.exp 1 (60-n) (by omega)
   ·exact countL_sm srcs names r (i+1) _ h d hd
theorem countR_sm {p:Pgm} (h:0<=countR p):∀ d∈p.defs,d.exp.Sm:=by
 unfold countR at h
 split at h
 ·omega
 ·split at h
  ·exact countL_sm _ _ _ _ _ h
  ·omega
theorem progR_count {p:Pgm} (h:progR p=true):0<=countR p:=by
 unfold progR at h
 split at h
 ·cases h
 ·omega
noncomputable def hasR (p:Pgm) (d:Int):Bool:=progR p&&decide (d>=0)&&decide (d < (p.defs.length:Int))
theorem hasR_at {p:Pgm} {d:Int} (h:hasR p d=true):progR p=true/\∃ (n:Nat) (x:Dfn),d=(n:Int)/\p.defs[n]? = some x:=by
 unfold hasR at h
 simp only [Bool.and_eq_true,decide_eq_true_eq] at h
 obtain ⟨⟨h1,h2⟩,h3⟩:=h
 obtain ⟨x,hx⟩:=at_lt (l:=p.defs) (i:=d.toNat) (by omega)
 exact ⟨h1,d.toNat,x,by omega,hx⟩
theorem ret46 (p:Pgm) (hp:p.Fits) (d:Int):Ret CC 70 [p.iv, .int .i64 d] (.tup [lookedIV p, .bool (hasR p d)]):=by
 have hr:=ret54 p hp
 unfold lookedIV at hr ⊢
 unfold hasR
 generalize progR p=b at *
 generalize countR p=n at *
 generalize ((p.defs.length-1:Nat):Int)=m at *
 obtain ⟨srcs,defs⟩:=p
 have hdm:(defs.map Dfn.iv).length=defs.length:=List.length_map ..
 simp only
 rw [<-hdm]
 have bt:(!false)=true:=rfl
 have bf:(!true)=false:=rfl
 refine Ret.of (fn:=Go.Proofs.Tryz.f70) (by kernel_rfl) rfl rfl ?_
 cases b with
 |true=>
  rw [if_pos rfl] at hr ⊢
  rcases Bool.eq_false_or_eq_true (decide (d>=0)) with h1|h1
  ·refine AA ?_
   refine W.retFin2 rfl rfl ⟨[],?_⟩
   rw [h1];rfl
  ·refine AA ?_
   refine W.retFin2 rfl rfl ⟨[],?_⟩
   rw [h1];rfl
 |false=>
  rw [if_neg (by decide)] at hr ⊢
  refine AA ?_
  exact W.retFin2 rfl rfl ⟨[],rfl⟩
end Go.Abs

/- Programs that are the same; what is put, is short. -/
open Go Go.Abs
namespace Go.Abs
set_option maxRecDepth 100000
set_option maxHeartbeats 4000000
instance fnis60:FnIs CC 60:=⟨rfl,fun _=>rfl⟩
instance fnis23:FnIs CC 18:=⟨rfl,fun _=>rfl⟩
theorem ret60 {l:List Str} (hl:l.length<=9223372036854775807):Ret CC 60 [.lst (l.map sv), .lst (l.map sv)] (.bool true):=by
 have hlm:(l.map sv).length=l.length:=List.length_map ..
 have b3:(((l.map sv).length:Int) != ((l.map sv).length:Int))=false:=by simp
 refine Ret.of (fn:=Go.Proofs.Tryz.f60) (by kernel_rfl) rfl rfl ?_
 refine AA ?_
 refine W.loop (X:=Nat) (fun i=>[(0, .imm (.lst (l.map sv))),(1, .imm (.lst (l.map sv))),(5, .imm (.int .i64 i))])
  (fun i nx G=>i<=l.length) (fun i=>l.length-i) 0 .auto (Nat.zero_le _) ?_
 rintro i nx G hi
 rcases Bool.eq_false_or_eq_true (decide ((i:Int) < ((l.map sv).length:Int))) with hc|hc
 ·have hlt:i < l.length:=by have:=of_decide_eq_true hc;omega
  obtain ⟨d,hx⟩:=at_lt hlt
  have hxi:=at_map sv hx
  have hmu:l.length-(i+1) < l.length-i:=by omega
  have b0:(!(d==d))=false:=by simp
  refine AA ?_
  exact W.skipLop (i+1) hmu .auto hlt
 ·refine AA ?_
  exact W.retFin1 rfl ⟨[],rfl⟩
theorem ret23 {p:Pgm} (hs:p.srcs.length<=9223372036854775807) (hd:p.defs.length<=9223372036854775807) (h:∀ d∈p.defs,d.exp.Sm):Ret CC 18 [p.iv,p.iv] (.bool true):=by
 have h60:=ret60 hs
 obtain ⟨srcs,defs⟩:=p
 simp only at h60 hd h
 have hdm:(defs.map Dfn.iv).length=defs.length:=List.length_map ..
 have b3:(((defs.map Dfn.iv).length:Int) != ((defs.map Dfn.iv).length:Int))=false:=by simp
 have b4:(!true)=false:=rfl
 refine Ret.of (fn:=Go.Proofs.Tryz.f18) (by kernel_rfl) rfl rfl ?_
 refine AA ?_
 refine W.loop (X:=Nat) (fun i=>[(2, .ptr 0 0),(3, .ptr 1 0),(5, .imm (.int .i64 i))])
  (fun i nx G=>i<=defs.length/\G 0 = .box [.imm (.lst (srcs.map sv)), .imm (.lst (defs.map Dfn.iv))] false/\G 1 = .box [.imm (.lst (srcs.map sv)), .imm (.lst (defs.map Dfn.iv))] false) (fun i=>defs.length-i) 0 .auto ⟨Nat.zero_le _,rfl,rfl⟩ ?_
 rintro i nx G ⟨hi,h0,h1⟩
 rcases Bool.eq_false_or_eq_true (decide ((i:Int) < ((defs.map Dfn.iv).length:Int))) with hc|hc
 ·have hlt:i < defs.length:=by have:=of_decide_eq_true hc;omega
  obtain ⟨d,hx⟩:=at_lt hlt
  have hxi:=at_map Dfn.iv hx
  have hdc:=d.cells_len
  have hmu:defs.length-(i+1) < defs.length-i:=by omega
  have hr:=ret61 (h d (List.mem_of_getElem? hx))
  obtain ⟨nm,⟨o',s',n',f',c',k'⟩⟩:=d
  have b0:(!(nm==nm))=false:=by simp
  refine AA ?_
  exact W.skipLop (i+1) hmu .auto ⟨hlt,h0,h1⟩
 ·refine AA ?_
  exact W.retFin1 rfl ⟨[],rfl⟩
theorem putE_fits {nm:Str} {rep e:Exp} (h:e.Fits) (hr:rep.Fits):(putE nm rep e).Fits:=by
 induction h with
 |mk op name n fold calcs kids hn hw hc hk hcs hks ih=>
 rw [putE,putL_map]
 split
 ·exact hr
 ·refine .mk _ _ _ _ _ _ hn hw hc (by simpa using hk) hcs fun k hk=>?_
  obtain ⟨k0,h1,rfl⟩:=List.mem_map.1 hk
  exact ih k0 h1
def putD (nm:Str) (rep:Exp) (x:Dfn):Dfn:=⟨x.name,putE nm rep x.exp⟩
def outs (defs:List Dfn) (d:Nat) (nm:Str) (rep:Exp) (i:Nat):List Dfn:=((defs.eraseIdx d).take (if d < i then i-1 else i)).map (putD nm rep)
def asksE (nm:Str) (y:Exp):Bool:=y.op==3&&y.name==nm
def asksD (nm:Str) (x:Dfn):Bool:=(allE x.exp).any (asksE nm)
def inlP (p:Pgm) (d:Nat) (x:Dfn):Pgm:=⟨p.srcs,(p.defs.eraseIdx d).map (putD x.name x.exp)⟩
noncomputable def inlR (p:Pgm) (d:Int):Pgm×Int:=
 if hasR p d then match p.defs[d.toNat]? with
  |some x=>if p.defs.any (asksD x.name) then (⟨[],[]⟩,7) else if progR (inlP p d.toNat x) then (inlP p d.toNat x,0) else (⟨[],[]⟩,3)
  |none=>(⟨[],[]⟩,2)
 else (⟨[],[]⟩,2)
theorem outs_at {defs:List Dfn} {d i:Nat} {nm:Str} {rep:Exp} {y:Dfn} (hi:defs[i]? = some y) (hne:i≠d):outs defs d nm rep (i+1)=outs defs d nm rep i++[putD nm rep y]:=by
 unfold outs
 by_cases h:d < i
 ·rw [if_pos h,if_pos (by omega),show i+1-1=(i-1)+1 by omega,List.take_add_one]
  rw [List.getElem?_eraseIdx,if_neg (by omega),show i-1+1=i by omega,hi]
  simp
 ·rw [if_neg h,if_neg (by omega),List.take_add_one]
  rw [List.getElem?_eraseIdx,if_pos (by omega),hi]
  simp
theorem outs_same {defs:List Dfn} {d:Nat} {nm:Str} {rep:Exp}:outs defs d nm rep (d+1)=outs defs d nm rep d:=by
 unfold outs
 rw [if_pos (by omega),if_neg (by omega)]
 simp
theorem outs_all {defs:List Dfn} {d i:Nat} {nm:Str} {rep:Exp} (hi:defs.length<=i) (hd:d < defs.length):outs defs d nm rep i=(defs.eraseIdx d).map (putD nm rep):=by
 unfold outs
 rw [if_pos (by omega),List.take_of_length_le (by rw [List.length_eraseIdx,if_pos hd];omega)]
theorem outs_zero {defs:List Dfn} {d:Nat} {nm:Str} {rep:Exp}:outs defs d nm rep 0=[]:=by
 unfold outs
 rw [if_neg (by omega)];rfl
theorem outs_len {defs:List Dfn} {d i:Nat} {nm:Str} {rep:Exp}:(outs defs d nm rep i).length<=defs.length:=by
 unfold outs
 rw [List.length_map,List.length_take]
 have:=List.length_eraseIdx_le defs d
 omega
theorem inlP_fits {p:Pgm} (hp:p.Fits) {d:Nat} {x:Dfn} (hx:x∈p.defs):(inlP p d x).Fits where
 srcs:=hp.srcs
 src:=hp.src
 defs:=by
  have:=List.length_eraseIdx_le p.defs d
  have:=hp.defs
  unfold inlP;simp only [List.length_map];omega
 name:=fun y hy=>by
  unfold inlP at hy
  obtain ⟨z,h1,rfl⟩:=List.mem_map.1 hy
  exact hp.name z (List.mem_of_mem_eraseIdx h1)
 exp:=fun y hy=>by
  unfold inlP at hy
  obtain ⟨z,h1,rfl⟩:=List.mem_map.1 hy
  exact putE_fits (hp.exp z (List.mem_of_mem_eraseIdx h1)) (hp.exp x hx)
end Go.Abs

/- Comparing. -/
open Go Go.Abs
namespace Go.Abs
set_option maxRecDepth 100000
set_option maxHeartbeats 4000000
def ty200:TyI:={ d:=TyD.mp 9 9,sz:=1,bytes:=8,zero:=AV.imm IV.nilmap }
instance tyis200:TyIs CC 99 ty200:=⟨by kernel_rfl⟩
instance fnis204:FnIs CC 117:=⟨rfl,fun _=>rfl⟩
instance fnis205:FnIs CC 119:=⟨rfl,fun _=>rfl⟩
instance fnis203:FnIs CC 57:=⟨rfl,fun _=>rfl⟩
instance fnis207:FnIs CC 118:=⟨rfl,fun _=>rfl⟩
instance fnis206:FnIs CC 59:=⟨rfl,fun _=>rfl⟩
instance fnis201:FnIs CC 58:=⟨rfl,fun _=>rfl⟩
instance fnis202:FnIs CC 56:=⟨rfl,fun _=>rfl⟩
def eqF {α β:Type} (p:α->β->Bool):List α->List β->Bool
 |[],[]=>true
 |a::r,b::s=>p a b&&eqF p r s
 |_,_=>false
theorem eqF_len {α β:Type} {p:α->β->Bool}:∀ {l:List α} {m:List β},l.length≠m.length->eqF p l m=false
 |[],[],h=>absurd rfl h
 |[],_::_,_=>rfl
 |_::_,[],_=>rfl
 |a::r,b::s,h=>by
  have:=eqF_len (p:=p) (l:=r) (m:=s) (fun e=>h (by simp [e]))
  rw [eqF,this,Bool.and_false]
theorem eqF_drop {α β:Type} {p:α->β->Bool}:∀ {l:List α} {m:List β} {i:Nat} {x:α} {y:β},l[i]? = some x->m[i]? = some y->eqF p (l.drop i) (m.drop i)=(p x y&&eqF p (l.drop (i+1)) (m.drop (i+1)))
 |[],_,_,_,_,h,_=>by simp at h
 |_::_,[],_,_,_,_,h=>by simp at h
 |a::r,b::s,0,x,y,h,k=>by simp at h k;subst h;subst k;rfl
 |a::r,b::s,i+1,x,y,h,k=>by
  simp at h k
  simpa using eqF_drop (p:=p) h k
theorem eqF_iff {α:Type} {p:α->α->Bool}:∀ {l m:List α},(∀ a∈l,∀ b,p a b=true↔a=b)->(eqF p l m=true↔l=m)
 |[],[],_=>by simp [eqF]
 |[],_::_,_=>by simp [eqF]
 |_::_,[],_=>by simp [eqF]
 |a::r,b::s,h=>by
  rw [eqF,Bool.and_eq_true,h a (by simp) b,eqF_iff (l:=r) (m:=s) fun x hx y=>h x (by simp [hx]) y]
  simp
mutual
def Trm.same:Trm->Trm->Bool
 | .mk op n kids, .mk op' n' kids'=>op==op'&&n==n'&&Trm.sames kids kids'
def Trm.sames:List Trm->List Trm->Bool
 |[],[]=>true
 |a::r,b::s=>Trm.same a b&&Trm.sames r s
 |_,_=>false
end
theorem Trm.sames_eq:∀ l m,Trm.sames l m=eqF Trm.same l m
 |[],[]=>rfl
 |[],_::_=>rfl
 |_::_,[]=>rfl
 |a::r,b::s=>by rw [Trm.sames,eqF,Trm.sames_eq r s]
mutual
def Exp.same:Exp->Exp->Bool
 | .mk op name n fold calcs kids, .mk op' name' n' fold' calcs' kids'=>op==op'&&name==name'&&n==n'&&fold==fold'&&Trm.sames calcs calcs'&&Exp.sames kids kids'
def Exp.sames:List Exp->List Exp->Bool
 |[],[]=>true
 |a::r,b::s=>Exp.same a b&&Exp.sames r s
 |_,_=>false
end
theorem Exp.sames_eq:∀ l m,Exp.sames l m=eqF Exp.same l m
 |[],[]=>rfl
 |[],_::_=>rfl
 |_::_,[]=>rfl
 |a::r,b::s=>by rw [Exp.sames,eqF,Exp.sames_eq r s]
mutual
theorem Trm.same_iff:∀ a b:Trm,a.same b=true↔a=b
 | .mk op n kids, .mk op' n' kids'=>by
  rw [Trm.same,Bool.and_eq_true,Bool.and_eq_true,beq_iff_eq,beq_iff_eq,Trm.sames_iff kids kids']
  simp [and_assoc]
theorem Trm.sames_iff:∀ a b:List Trm,Trm.sames a b=true↔a=b
 |[],[]=>by simp [Trm.sames]
 |[],_::_=>by simp [Trm.sames]
 |_::_,[]=>by simp [Trm.sames]
 |a::r,b::s=>by rw [Trm.sames,Bool.and_eq_true,Trm.same_iff a b,Trm.sames_iff r s];simp
end
mutual
theorem Exp.same_iff:∀ a b:Exp,a.same b=true↔a=b
 | .mk op name n fold calcs kids, .mk op' name' n' fold' calcs' kids'=>by
  rw [Exp.same]
  simp only [Bool.and_eq_true,beq_iff_eq,Trm.sames_iff calcs calcs',Exp.sames_iff kids kids',Exp.mk.injEq,and_assoc]
theorem Exp.sames_iff:∀ a b:List Exp,Exp.sames a b=true↔a=b
 |[],[]=>by simp [Exp.sames]
 |[],_::_=>by simp [Exp.sames]
 |_::_,[]=>by simp [Exp.sames]
 |a::r,b::s=>by rw [Exp.sames,Bool.and_eq_true,Exp.same_iff a b,Exp.sames_iff r s];simp
end
def Dfn.same (a b:Dfn):Bool:=a.name==b.name&&a.exp.same b.exp
theorem Dfn.same_iff (a b:Dfn):a.same b=true↔a=b:=by
 obtain ⟨n,e⟩:=a
 obtain ⟨n',e'⟩:=b
 simp [Dfn.same,Exp.same_iff]
def Pgm.same (a b:Pgm):Bool:=a.srcs==b.srcs&&eqF Dfn.same a.defs b.defs
theorem Pgm.same_iff (a b:Pgm):a.same b=true↔a=b:=by
 obtain ⟨n,e⟩:=a
 obtain ⟨n',e'⟩:=b
 simp [Pgm.same,eqF_iff fun x _ y=>Dfn.same_iff x y]
theorem ret204 {f:FuncId} {cap:List IV} {p:Trm->Trm->Bool} (hfi:FnIs CC f) (l m:List Trm) (hl:l.length<=9223372036854775807) (h:∀ c∈l,∀ d∈m,Ret CC f ([c.iv,d.iv]++cap) (.bool (p c d))) :
  Ret CC 117 [.lst (Trm.ivs l), .lst (Trm.ivs m), .fn (.func f) cap] (.bool (eqF p l m)):=by
 have hlm:(Trm.ivs l).length=l.length:=tivs_len ..
 have hmm:(Trm.ivs m).length=m.length:=tivs_len ..
 refine Ret.of (fn:=Go.Proofs.Tryz.f117) (by kernel_rfl) rfl rfl ?_
 rcases Bool.eq_false_or_eq_true (((Trm.ivs l).length:Int) != ((Trm.ivs m).length:Int)) with hn|hn
 ·rw [eqF_len (p:=p) (l:=l) (m:=m) (by rw [hlm,hmm] at hn;simp at hn;omega)]
  refine AA ?_
  exact W.retFin1 rfl ⟨[],rfl⟩
 have hlen:l.length=m.length:=by rw [hlm,hmm] at hn;simp at hn;omega
 refine AA ?_
 refine W.loop (X:=Nat) (fun i=>[(1, .imm (.lst (Trm.ivs m))),(2, .imm (.fn (.func f) cap)),(15, .imm (.lst (Trm.ivs l))),(16, .imm (.int .i64 (Trm.ivs l).length)),(17, .imm (.int .i64 i))])
  (fun i _ _=>i<=l.length/\eqF p l m=eqF p (l.drop i) (m.drop i)) (fun i=>l.length-i) 0 .auto ⟨Nat.zero_le _,rfl⟩ ?_
 rintro i nx G ⟨hi,he⟩
 rcases Bool.eq_false_or_eq_true (decide ((i:Int) < ((Trm.ivs l).length:Int))) with hc|hc
 ·have hlt:i < l.length:=by have:=of_decide_eq_true hc;omega
  obtain ⟨d,hx⟩:=at_lt hlt
  obtain ⟨e,hy⟩:=at_lt (l:=m) (i:=i) (by omega)
  have hxi:=tivs_at hx
  have hyi:=tivs_at hy
  have hdc:=d.cells_len
  have hec:=e.cells_len
  have hmu:l.length-(i+1) < l.length-i:=by omega
  have hr:=h d (List.mem_of_getElem? hx) e (List.mem_of_getElem? hy)
  have hd:=eqF_drop (p:=p) hx hy
  obtain ⟨o1,m1,k1⟩:=d
  obtain ⟨o2,m2,k2⟩:=e
  have b4:(!true)=false:=rfl
  have b5:(!false)=true:=rfl
  cases hb:p _ _ with
  |true=>
   rw [hb] at hr hd
   refine AA ?_
   exact W.skipLop (i+1) hmu .auto ⟨hlt,by rw [he,hd];rfl⟩
  |false=>
   rw [hb] at hr hd
   rw [he,hd]
   refine AA ?_
   exact W.retFin1 rfl ⟨[],rfl⟩
 ·have hge:l.length<=i:=by have:=of_decide_eq_false hc;omega
  rw [he,List.drop_eq_nil_of_le hge,List.drop_eq_nil_of_le (by omega)]
  refine AA ?_
  exact W.retFin1 rfl ⟨[],rfl⟩
theorem ret205 {f:FuncId} {cap:List IV} {p:Exp->Exp->Bool} (hfi:FnIs CC f) (l m:List Exp) (hl:l.length<=9223372036854775807) (h:∀ c∈l,∀ d∈m,Ret CC f ([c.iv,d.iv]++cap) (.bool (p c d))) :
  Ret CC 119 [.lst (Exp.ivs l), .lst (Exp.ivs m), .fn (.func f) cap] (.bool (eqF p l m)):=by
 have hlm:(Exp.ivs l).length=l.length:=ivs_len ..
 have hmm:(Exp.ivs m).length=m.length:=ivs_len ..
 refine Ret.of (fn:=Go.Proofs.Tryz.f119) (by kernel_rfl) rfl rfl ?_
 rcases Bool.eq_false_or_eq_true (((Exp.ivs l).length:Int) != ((Exp.ivs m).length:Int)) with hn|hn
 ·rw [eqF_len (p:=p) (l:=l) (m:=m) (by rw [hlm,hmm] at hn;simp at hn;omega)]
  refine AA ?_
  exact W.retFin1 rfl ⟨[],rfl⟩
 have hlen:l.length=m.length:=by rw [hlm,hmm] at hn;simp at hn;omega
 refine AA ?_
 refine W.loop (X:=Nat) (fun i=>[(1, .imm (.lst (Exp.ivs m))),(2, .imm (.fn (.func f) cap)),(15, .imm (.lst (Exp.ivs l))),(16, .imm (.int .i64 (Exp.ivs l).length)),(17, .imm (.int .i64 i))])
  (fun i _ _=>i<=l.length/\eqF p l m=eqF p (l.drop i) (m.drop i)) (fun i=>l.length-i) 0 .auto ⟨Nat.zero_le _,rfl⟩ ?_
 rintro i nx G ⟨hi,he⟩
 rcases Bool.eq_false_or_eq_true (decide ((i:Int) < ((Exp.ivs l).length:Int))) with hc|hc
 ·have hlt:i < l.length:=by have:=of_decide_eq_true hc;omega
  obtain ⟨d,hx⟩:=at_lt hlt
  obtain ⟨e,hy⟩:=at_lt (l:=m) (i:=i) (by omega)
  have hxi:=ivs_at hx
  have hyi:=ivs_at hy
  have hdc:=d.cells_len
  have hec:=e.cells_len
  have hmu:l.length-(i+1) < l.length-i:=by omega
  have hr:=h d (List.mem_of_getElem? hx) e (List.mem_of_getElem? hy)
  have hd:=eqF_drop (p:=p) hx hy
  obtain ⟨o1,s1,m1,f1,c1,k1⟩:=d
  obtain ⟨o2,s2,m2,f2,c2,k2⟩:=e
  have b4:(!true)=false:=rfl
  have b5:(!false)=true:=rfl
  cases hb:p _ _ with
  |true=>
   rw [hb] at hr hd
   refine AA ?_
   exact W.skipLop (i+1) hmu .auto ⟨hlt,by rw [he,hd];rfl⟩
  |false=>
   rw [hb] at hr hd
   rw [he,hd]
   refine AA ?_
   exact W.retFin1 rfl ⟨[],rfl⟩
 ·have hge:l.length<=i:=by have:=of_decide_eq_false hc;omega
  rw [he,List.drop_eq_nil_of_le hge,List.drop_eq_nil_of_le (by omega)]
  refine AA ?_
  exact W.retFin1 rfl ⟨[],rfl⟩
theorem ret203 {f:FuncId} {cap:List IV} {p:Dfn->Dfn->Bool} (hfi:FnIs CC f) (l m:List Dfn) (hl:l.length<=9223372036854775807) (h:∀ c∈l,∀ d∈m,Ret CC f ([c.iv,d.iv]++cap) (.bool (p c d))) :
  Ret CC 57 [.lst (l.map Dfn.iv), .lst (m.map Dfn.iv), .fn (.func f) cap] (.bool (eqF p l m)):=by
 have hlm:(l.map Dfn.iv).length=l.length:=List.length_map ..
 have hmm:(m.map Dfn.iv).length=m.length:=List.length_map ..
 refine Ret.of (fn:=Go.Proofs.Tryz.f57) (by kernel_rfl) rfl rfl ?_
 rcases Bool.eq_false_or_eq_true (((l.map Dfn.iv).length:Int) != ((m.map Dfn.iv).length:Int)) with hn|hn
 ·rw [eqF_len (p:=p) (l:=l) (m:=m) (by rw [hlm,hmm] at hn;simp at hn;omega)]
  refine AA ?_
  exact W.retFin1 rfl ⟨[],rfl⟩
 have hlen:l.length=m.length:=by rw [hlm,hmm] at hn;simp at hn;omega
 refine AA ?_
 refine W.loop (X:=Nat) (fun i=>[(1, .imm (.lst (m.map Dfn.iv))),(2, .imm (.fn (.func f) cap)),(15, .imm (.lst (l.map Dfn.iv))),(16, .imm (.int .i64 (l.map Dfn.iv).length)),(17, .imm (.int .i64 i))])
  (fun i _ _=>i<=l.length/\eqF p l m=eqF p (l.drop i) (m.drop i)) (fun i=>l.length-i) 0 .auto ⟨Nat.zero_le _,rfl⟩ ?_
 rintro i nx G ⟨hi,he⟩
 rcases Bool.eq_false_or_eq_true (decide ((i:Int) < ((l.map Dfn.iv).length:Int))) with hc|hc
 ·have hlt:i < l.length:=by have:=of_decide_eq_true hc;omega
  obtain ⟨d,hx⟩:=at_lt hlt
  obtain ⟨e,hy⟩:=at_lt (l:=m) (i:=i) (by omega)
  have hxi:=at_map Dfn.iv hx
  have hyi:=at_map Dfn.iv hy
  have hdc:=d.cells_len
  have hec:=e.cells_len
  have hmu:l.length-(i+1) < l.length-i:=by omega
  have hr:=h d (List.mem_of_getElem? hx) e (List.mem_of_getElem? hy)
  have hd:=eqF_drop (p:=p) hx hy
  obtain ⟨n1,⟨o1,s1,m1,f1,c1,k1⟩⟩:=d
  obtain ⟨n2,⟨o2,s2,m2,f2,c2,k2⟩⟩:=e
  have b4:(!true)=false:=rfl
  have b5:(!false)=true:=rfl
  cases hb:p _ _ with
  |true=>
   rw [hb] at hr hd
   refine AA ?_
   exact W.skipLop (i+1) hmu .auto ⟨hlt,by rw [he,hd];rfl⟩
  |false=>
   rw [hb] at hr hd
   rw [he,hd]
   refine AA ?_
   exact W.retFin1 rfl ⟨[],rfl⟩
 ·have hge:l.length<=i:=by have:=of_decide_eq_false hc;omega
  rw [he,List.drop_eq_nil_of_le hge,List.drop_eq_nil_of_le (by omega)]
  refine AA ?_
  exact W.retFin1 rfl ⟨[],rfl⟩
theorem ret207 {a b:Trm} (h:a.Sm):Ret CC 118 [a.iv,b.iv] (.bool (a.same b)):=by
 induction h generalizing b with
 |mk op n kids hl hk ih=>
 obtain ⟨op',n',kids'⟩:=b
 have hr:=ret204 (p:=Trm.same) (cap:=[]) fnis207 kids kids' (by omega) fun c hc d _=>ih c hc
 rw [Trm.same,Trm.sames_eq]
 generalize eqF Trm.same kids kids'=r at *
 refine Ret.of (fn:=Go.Proofs.Tryz.f118) (by kernel_rfl) rfl rfl ?_
 cases hA:op==op' with
 |false=>
  refine AA ?_
  exact W.retFin1 rfl ⟨[],rfl⟩
 |true=>
  cases hB:n==n' with
  |false=>
   refine AA ?_
   exact W.retFin1 rfl ⟨[],rfl⟩
  |true=>
   refine AA ?_
   exact W.retFin1 rfl ⟨[],rfl⟩
end Go.Abs

/- Comparing, as the program and the reference do. -/
open Go Go.Abs
namespace Go.Abs
set_option maxRecDepth 100000
set_option maxHeartbeats 4000000
theorem ret202 (l m:List Str) (hl:l.length<=9223372036854775807):Ret CC 56 [.lst (l.map sv), .lst (m.map sv)] (.bool (l==m)):=by
 have hlm:(l.map sv).length=l.length:=List.length_map ..
 have hmm:(m.map sv).length=m.length:=List.length_map ..
 have he:(l==m)=eqF (fun a b=>a==b) l m:=by
  rw [Bool.eq_iff_iff,beq_iff_eq,eqF_iff (fun a _ b=>beq_iff_eq)]
 rw [he]
 generalize hp:(fun (a b:Str)=>a==b)=p
 refine Ret.of (fn:=Go.Proofs.Tryz.f56) (by kernel_rfl) rfl rfl ?_
 rcases Bool.eq_false_or_eq_true (((l.map sv).length:Int) != ((m.map sv).length:Int)) with hn|hn
 ·rw [eqF_len (p:=p) (l:=l) (m:=m) (by rw [hlm,hmm] at hn;simp at hn;omega)]
  refine AA ?_
  exact W.retFin1 rfl ⟨[],rfl⟩
 have hlen:l.length=m.length:=by rw [hlm,hmm] at hn;simp at hn;omega
 refine AA ?_
 refine W.loop (X:=Nat) (fun i=>[(0, .imm (.lst (l.map sv))),(1, .imm (.lst (m.map sv))),(12, .imm (.int .i64 (l.map sv).length)),(13, .imm (.int .i64 i))])
  (fun i _ _=>i<=l.length/\eqF p l m=eqF p (l.drop i) (m.drop i)) (fun i=>l.length-i) 0 .auto ⟨Nat.zero_le _,rfl⟩ ?_
 rintro i nx G ⟨hi,he⟩
 rcases Bool.eq_false_or_eq_true (decide ((i:Int) < ((l.map sv).length:Int))) with hc|hc
 ·have hlt:i < l.length:=by have:=of_decide_eq_true hc;omega
  obtain ⟨d,hx⟩:=at_lt hlt
  obtain ⟨e,hy⟩:=at_lt (l:=m) (i:=i) (by omega)
  have hxi:=at_map sv hx
  have hyi:=at_map sv hy
  have hmu:l.length-(i+1) < l.length-i:=by omega
  have hd:=eqF_drop (p:=p) hx hy
  rw [show p d e=(d==e) from by rw [<-hp]] at hd
  cases hb:d==e with
  |true=>
   have hb':(!(d==e))=false:=by rw [hb];rfl
   rw [hb] at hd
   refine AA ?_
   exact W.skipLop (i+1) hmu .auto ⟨hlt,by rw [he,hd];rfl⟩
  |false=>
   have hb':(!(d==e))=true:=by rw [hb];rfl
   rw [hb] at hd
   rw [he,hd]
   refine AA ?_
   exact W.retFin1 rfl ⟨[],rfl⟩
 ·have hge:l.length<=i:=by have:=of_decide_eq_false hc;omega
  rw [he,List.drop_eq_nil_of_le hge,List.drop_eq_nil_of_le (by omega)]
  refine AA ?_
  exact W.retFin1 rfl ⟨[],rfl⟩
theorem ret206 {a b:Exp} (h:a.Sm):Ret CC 59 [a.iv,b.iv] (.bool (a.same b)):=by
 induction h generalizing b with
 |mk op name n fold calcs kids hlc hlk hcs hks ih=>
 obtain ⟨op',name',n',fold',calcs',kids'⟩:=b
 have hr:=ret204 (p:=Trm.same) (cap:=[]) fnis207 calcs calcs' (by omega) fun c hc d _=>ret207 (hcs c hc)
 have hr2:=ret205 (p:=Exp.same) (cap:=[]) fnis206 kids kids' (by omega) fun c hc d _=>ih c hc
 rw [Exp.same,Trm.sames_eq,Exp.sames_eq]
 generalize eqF Trm.same calcs calcs'=r at *
 generalize eqF Exp.same kids kids'=r2 at *
 refine Ret.of (fn:=Go.Proofs.Tryz.f59) (by kernel_rfl) rfl rfl ?_
 cases hA:op==op' with
 |false=>
  refine AA ?_
  exact W.retFin1 rfl ⟨[],rfl⟩
 |true=>
 cases hB:name==name' with
 |false=>
  refine AA ?_
  exact W.retFin1 rfl ⟨[],rfl⟩
 |true=>
 cases hC:n==n' with
 |false=>
  refine AA ?_
  exact W.retFin1 rfl ⟨[],rfl⟩
 |true=>
 cases hD:fold==fold' with
 |false=>
  refine AA ?_
  exact W.retFin1 rfl ⟨[],rfl⟩
 |true=>
 cases r with
 |false=>
  refine AA ?_
  exact W.retFin1 rfl ⟨[],rfl⟩
 |true=>
  refine AA ?_
  exact W.retFin1 rfl ⟨[],rfl⟩
theorem ret201 {a b:Dfn} (h:a.exp.Sm):Ret CC 58 [a.iv,b.iv] (.bool (a.same b)):=by
 have hr:=ret206 (b:=b.exp) h
 obtain ⟨nm,⟨o1,s1,m1,f1,c1,k1⟩⟩:=a
 obtain ⟨nm',⟨o2,s2,m2,f2,c2,k2⟩⟩:=b
 unfold Dfn.same
 simp only at hr ⊢
 generalize Exp.same _ _=r at *
 refine Ret.of (fn:=Go.Proofs.Tryz.f58) (by kernel_rfl) rfl rfl ?_
 cases hA:nm==nm' with
 |false=>
  refine AA ?_
  exact W.retFin1 rfl ⟨[],rfl⟩
 |true=>
  refine AA ?_
  exact W.retFin1 rfl ⟨[],rfl⟩
/-! the reference -/
end Go.Abs

/- Names: the first one that is none of some. -/
open Go Go.Abs
namespace Go.Abs
set_option maxRecDepth 100000
set_option maxHeartbeats 2000000
theorem word_kid (n c:Nat) (hc:c < 26):wordN (26*n+1+c)=wordN n++[UInt8.ofNat (97+c)]:=by
 have e:26*n+1+c=(26*n+c)+1:=by omega
 rw [e,wordN_succ]
 have h1:(26*n+c) / 26=n:=by omega
 have h2:(26*n+c) % 26=c:=by omega
 rw [h1,h2]
def wrow (a m:Nat):List AV:=(List.range m).map fun j => .imm (sv (wordN (a+j)))
theorem wrow_len (a m:Nat):(wrow a m).length=m:=by simp [wrow]
theorem wrow_get {a m j:Nat} (h:j < m):(wrow a m)[j]? = some (.imm (sv (wordN (a+j)))):=by simp [wrow,h]
theorem wrow_succ (a m:Nat):wrow a m++[.imm (sv (wordN (a+m)))]=wrow a (m+1):=by simp [wrow,List.range_succ]
structure Cons (q n0 N:Nat) (K Q:(Nat->Obj)->Prop):Prop where
 frame:∀ G G',K G->(∀ o,o < n0->G' o=G o)->K G'
 step:∀ n G nx,1<=n->n < N->K G->n0<=nx->Rnd CC q [.imm (sv (wordN n))] G nx fun v G' nx'=>v = .imm (.bool true)/\K G'/\nx<=nx'/\∀ o,n0<=o->G' o=G o
 last:∀ G nx,K G->n0<=nx->Rnd CC q [.imm (sv (wordN N))] G nx fun v G' _=>v = .imm (.bool false)/\Q G'
def Long (n0 nx o2 a cnt:Nat) (G:Nat->Obj) (v:AV):Prop:=
 (cnt=0/\v = .nils)\/∃ o,n0<=o/\o < nx/\o≠o2/\v = .row o cnt/\G o = .row 9 1 (wrow (26*a+1) cnt) false/\0 < cnt
theorem Long.frame {n0 nx nx' o2 a cnt:Nat} {G G':Nat->Obj} {v:AV} (h:Long n0 nx o2 a cnt G v) (hn:nx<=nx') (hG:∀ o,n0<=o->o < nx->G' o=G o):Long n0 nx' o2 a cnt G' v:=by
 rcases h with h|⟨o,h1,h2,h3,h4,h5,h6⟩
 ·exact .inl h
 ·exact .inr ⟨o,h1,by omega,h3,h4,by rw [hG o h1 h2];exact h5,h6⟩
theorem cal41 {q n0 N:Nat} {G0:Nat->Obj} {K Q:(Nat->Obj)->Prop} (hc:Cons q n0 N K Q) (hN1:1<=N) (hN:N<=4294967296) (hG:K G0):Cal CC 107 [.yld q] G0 n0 fun _ G' _=>Q G':=by
 refine Cal.of (fn:=Go.Proofs.Tryz.f107) (by kernel_rfl) rfl rfl ?_
 refine W.seq (W.region ?_)
 refine R.op1 (O.buildS (xs:=[.imm (sv [])]) rfl rfl rfl (by decide) rfl rfl (by decide)) rfl ?_
 refine SO ?_
 -- the rows
 refine W.loop (X:=Nat×Nat×Nat) (fun x=>[(0, .yld q),(2, .row x.1 x.2.2)])
  (fun x nx G=>n0<=x.1/\x.1 < nx/\n0<=nx/\K G/\G x.1 = .row 9 1 (wrow x.2.1 x.2.2) false/\x.2.1+x.2.2=26*x.2.1+1/\26*x.2.1 < N) (fun x=>N-x.2.1) (n0+0,0,1)
  (.cons rfl (.cons rfl (.nil _))) ⟨by simp,by simp,by simp,?_,?_,rfl,by show 26*0 < N;omega⟩ ?_
 ·exact hc.frame _ _ hG fun o ho=>upd_ne _ _ _ _ (by omega)
 ·rw [upd_same]
  have:wordN 0=[]:=by rw [wordN]
  simp [wrow,List.range_succ,this]
  rfl
 rintro ⟨o2,a,m⟩ nx G ⟨h1,h2,h3,hK,hR,ham,haN⟩
 dsimp only at h1 h2 hR ham haN ⊢
 refine SO ?_
 refine R.op0 (O.lenR rfl rfl hR (wrow_len a m)) rfl ?_
 refine SO ?_
 -- the words of a row
 refine W.loop (X:=Nat×AV) (fun x=>[(0, .yld q),(9, .row o2 m),(10, .imm (.int .i64 m)),(11, .imm (.int .i64 x.1)),(3,x.2)])
  (fun x nx G=>o2 < nx/\n0<=nx/\K G/\G o2 = .row 9 1 (wrow a m) false/\x.1<=m/\26*(a+x.1) < N/\Long n0 nx o2 a (26*x.1) G x.2) (fun x=>m-x.1) (0, .nils)
  (.cons rfl (.cons rfl (.cons rfl (.cons rfl (.cons rfl (.nil _)))))) ⟨by omega,by omega,hK,hR,Nat.zero_le _,by simpa using haN, .inl ⟨rfl,rfl⟩⟩ ?_
 rintro ⟨j,v⟩ nx G ⟨h2,h3,hK,hR,hj,hjN,hL⟩
 dsimp only at hj hjN hL ⊢
 refine SO ?_
 refine W.cond rfl (fun hc1=>?_) (fun hc1=>?_)
 ·have hlt:j < m:=by have:=of_decide_eq_true hc1;omega
  refine SO ?_
  refine R.op0 (O.addrR rfl rfl rfl hR (wrow_len a m) ⟨by omega,by omega⟩ rfl) rfl ?_
  refine R.op0 (O.loadR rfl hR (wrow_len a m) (by rw [Int.toNat_natCast];exact wrow_get hlt) rfl rfl rfl) rfl ?_
  refine SO ?_
  -- the letters
  refine W.loop (X:=Nat×AV) (fun x=>[(0, .yld q),(9, .row o2 m),(10, .imm (.int .i64 m)),(11, .imm (.int .i64 j)),(5, .imm (sv (wordN (a+j)))),(6, .imm (.int .u8 ((97+x.1:Nat):Int))),(3,x.2)])
   (fun x nx G=>o2 < nx/\n0<=nx/\K G/\G o2 = .row 9 1 (wrow a m) false/\x.1<=26/\26*(a+j)+x.1 < N/\Long n0 nx o2 a (26*j+x.1) G x.2) (fun x=>26-x.1) (0,v)
   (.cons rfl (.cons rfl (.cons rfl (.cons rfl (.cons rfl (.cons rfl (.cons rfl (.nil _)))))))) ⟨by omega,by omega,hK,hR,Nat.zero_le _,by simpa using hjN,hL.frame (by omega) fun _ _ _=>rfl⟩ ?_
  rintro ⟨c,u⟩ nx G ⟨h2,h3,hK,hR,hc26,hcN,hL⟩
  dsimp only at hc26 hcN hL ⊢
  refine SO ?_
  refine W.cond rfl (fun hc2=>?_) (fun hc2=>?_)
  ·have hc':c < 26:=by have:=of_decide_eq_true hc2;omega
   refine SO ?_
   refine R.op1 (O.buildS (xs:=[.imm (.int .u8 ((97+c:Nat):Int))]) rfl rfl rfl (by decide) rfl rfl (by decide)) rfl ?_
   refine R.op0 (O.convBS (ys:=[.imm (.int .u8 ((97+c:Nat):Int))]) (bs:=[UInt8.ofNat (97+c)]) rfl rfl rfl rfl rfl ?_ ?_) rfl ?_
   ·simp [elems,upd]
   ·simp only [bytesOf,Option.map_some]
    congr 3
   refine R.op0 (O.svAdd (a:=wordN (a+j)) (b:=[UInt8.ofNat (97+c)]) rfl rfl ?_) rfl ?_
   ·have:=wordN_len (a+j)
    simp;omega
   rw [<-word_kid (a+j) c hc']
   refine SO ?_
   refine R.gen (P:=fun G nx _=>o2 < nx/\n0<=nx/\K G/\G o2 = .row 9 1 (wrow a m) false/\Long n0 nx o2 a (26*j+c) G u) ⟨by omega,by omega,hc.frame _ _ hK fun o ho=>upd_ne _ _ _ _ (by omega),(upd_ne _ _ _ _ (by omega)).trans hR,hL.frame (by omega) fun o _ ho=>upd_ne _ _ _ _ (by omega)⟩ ?_
   clear hL hR hK h3 h2
   intro G nx base ⟨h2,h3,hK,hR,hL⟩
   refine R.round rfl rfl rfl ?_
   by_cases hn:26*(a+j)+1+c=N
   ·rw [hn]
    refine (hc.last G nx hK h3).mono fun v G' nx' ⟨hv,hQ⟩=>?_
    subst hv
    refine SO ?_
    exact W.retFin rfl rfl hQ
   ·refine (hc.step _ G nx (by omega) (by omega) hK h3).mono fun v G' nx' ⟨hv,hK',hn',hG'⟩=>?_
    subst hv
    have hR':G' o2 = .row 9 1 (wrow a m) false:=(hG' o2 h1).trans hR
    have hL':Long n0 nx' o2 a (26*j+c) G' u:=hL.frame hn' fun o ho _=>hG' o ho
    have h2':o2 < nx':=by omega
    have h3':n0<=nx':=by omega
    clear hL hR hK h3 h2 hn' hG'
    refine SO ?_
    refine R.op1 (O.buildS (xs:=[.imm (sv (wordN (26*(a+j)+1+c)))]) rfl rfl rfl (by decide) rfl rfl (by decide)) rfl ?_
    rcases hL' with ⟨hz,hu⟩|⟨o,ho1,ho2,ho3,ho4,ho5,ho6⟩
    ·subst hu
     refine R.op1 (O.appNil (ys:=[.imm (sv (wordN (26*(a+j)+1+c)))]) rfl rfl rfl rfl (by simp [elems,upd]) (by decide) (by decide) rfl rfl (by simp [most])) rfl ?_
     refine R.gen (P:=fun G nx _=>o2 < nx/\n0<=nx/\K G/\G o2 = .row 9 1 (wrow a m) false/\Long n0 nx o2 a (26*j+(c+1)) G (.row (nx'+(0+1+1+1)) [AV.imm (sv (wordN (26*(a+j)+1+c)))].length)) ⟨by omega,by omega,?_,?_,?_⟩ ?_
     ·exact hc.frame _ _ hK' fun o ho=>by rw [upd_ne _ _ _ _ (by omega),upd_ne _ _ _ _ (by omega)]
     ·rw [upd_ne _ _ _ _ (by omega),upd_ne _ _ _ _ (by omega)];exact hR'
     ·refine .inr ⟨nx'+(0+1+1+1),by omega,?_,?_,?_,?_,by omega⟩
      ·simp only [List.length_cons,List.length_nil];omega
      ·omega
      ·have:26*j+(c+1)=1:=by omega
       rw [this];rfl
      ·rw [upd_same]
       have:26*j+(c+1)=1:=by omega
       rw [this]
       have:26*(a+j)+1+c=26*a+1:=by omega
       rw [this]
       rfl
     clear hR' hK' h2' h3'
     intro G nx base ⟨h2,h3,hK,hR,hL⟩
     refine SO ?_
     refine W.skipLop (c+1,_) ?_ ?_ ⟨by omega,by omega,hK,hR,by show c+1<=26;omega,by show 26*(a+j)+(c+1) < N;omega,hL.frame (by omega) fun _ _ _=>rfl⟩
     ·show 26-(c+1) < 26-c;omega
     ·exact .cons rfl (.cons rfl (.cons rfl (.cons rfl (.cons rfl (.cons rfl (.cons rfl (.nil _)))))))
    ·subst ho4
     refine R.op1 (O.appRow (xs:=wrow (26*a+1) (26*j+c)) (ys:=[.imm (sv (wordN (26*(a+j)+1+c)))]) rfl rfl rfl ((upd_ne _ _ _ _ (by omega)).trans ho5) (wrow_len _ _) rfl (by simp [elems,upd]) (by decide) (by decide) rfl rfl (by simp [most];omega)) rfl ?_
     refine R.gen (P:=fun G nx _=>o2 < nx/\n0<=nx/\K G/\G o2 = .row 9 1 (wrow a m) false/\Long n0 nx o2 a (26*j+(c+1)) G (.row o (wrow (26*a+1) (26*j+c)++[AV.imm (sv (wordN (26*(a+j)+1+c)))]).length)) ⟨by omega,by omega,?_,?_,?_⟩ ?_
     ·exact hc.frame _ _ hK' fun o ho=>by rw [upd_ne _ _ _ _ (by omega),upd_ne _ _ _ _ (by omega)]
     ·rw [upd_ne _ _ _ _ (by omega),upd_ne _ _ _ _ (by omega)];exact hR'
     ·refine .inr ⟨o,ho1,by omega,ho3,?_,?_,by omega⟩
      ·rw [List.length_append,wrow_len];rfl
      ·rw [upd_same]
       have:26*(a+j)+1+c=26*a+1+(26*j+c):=by omega
       rw [this,wrow_succ]
       rfl
     clear hR' hK' h2' h3'
     intro G nx base ⟨h2,h3,hK,hR,hL⟩
     refine SO ?_
     refine W.skipLop (c+1,_) ?_ ?_ ⟨by omega,by omega,hK,hR,by show c+1<=26;omega,by show 26*(a+j)+(c+1) < N;omega,hL.frame (by omega) fun _ _ _=>rfl⟩
     ·show 26-(c+1) < 26-c;omega
     ·exact .cons rfl (.cons rfl (.cons rfl (.cons rfl (.cons rfl (.cons rfl (.cons rfl (.nil _)))))))
  ·have hc':c=26:=by have:=of_decide_eq_false hc2;omega
   subst hc'
   refine SO ?_
   refine W.skipLop (j+1,u) ?_ ?_ ⟨by omega,by omega,hK,hR,hlt,by show 26*(a+(j+1)) < N;omega,?_⟩
   ·show m-(j+1) < m-j;omega
   ·exact .cons rfl (.cons rfl (.cons rfl (.cons rfl (.cons rfl (.nil _)))))
   ·exact hL.frame (by omega) fun _ _ _=>rfl
 ·have hge:j=m:=by have:=of_decide_eq_false hc1;omega
  subst hge
  refine SO ?_
  rcases hL with ⟨hz,hu⟩|⟨o,ho1,ho2,ho3,ho4,ho5,ho6⟩
  ·omega
  ·subst ho4
   refine W.skipLop (o,26*a+1,26*j) ?_ ?_ ⟨ho1,by show o < _;omega,by omega,hK,ho5,by show 26*a+1+26*j=26*(26*a+1)+1;omega,by show 26*(26*a+1) < N;omega⟩
   ·show N-(26*a+1) < N-a;omega
   ·exact .cons rfl (.cons rfl (.nil _))
def rng1:Code->Option (Code×Code)
 | .seq a b=>match rng1 a with
  |some x=>some x
  |none=>rng1 b
 | .block _ b | .loop b=>rng1 b
 | .rangeFunc _ _ a b=>some (a,b)
 |_=>none
noncomputable def f12R:Code×Code:=match Go.Proofs.Tryz.f53.body with
 |some b=>match rng1 b with
  |some x=>x
  |none=>(.skip, .skip)
 |none=>(.skip, .skip)
theorem ret12 (l0:List Str) (hl:l0.length<=9223372036854775807) (N:Nat) (h:First l0 N):Ret CC 53 [.lst (l0.map sv)] (sv (wordN N)):=by
 refine Ret.of (fn:=Go.Proofs.Tryz.f53) (by kernel_rfl) rfl rfl ?_
 refine W.seq (W.region ?_)
 refine R.op1 (O.box1 rfl rfl rfl rfl) rfl ?_
 refine R.op1 (O.alloc rfl rfl) rfl ?_
 refine R.done ?_
 refine W.seq (W.block ?_)
 refine W.range rfl rfl rfl rfl fun t ht=>?_
 refine (cal41 (q:=2) (n0:=4) (N:=N) (K:=fun G=>G 0 = .box [.imm (.lst (l0.map sv))] false/\G 1 = .box [.imm (.str ⟨#[]⟩)] false/\∃ t e,G 2 = .lp t Go.Proofs.Tryz.f53.ntmps [4] f12R.1 f12R.2 53 0 e/\Agree t [(1, .ptr 0 0),(2, .ptr 1 0)])
  (Q:=fun G=>G 1 = .box [.imm (sv (wordN N))] false/\∃ t,G 2 = .lp t Go.Proofs.Tryz.f53.ntmps [4] f12R.1 f12R.2 53 2 (some .ret)) ⟨?_,?_,?_⟩ h.pos h.small ⟨rfl,rfl,t,none,rfl,?_⟩).mono ?_
 ·intro G G' ⟨h0,h1,t,e,h2,ha⟩ hf
  exact ⟨(hf 0 (by omega)).trans h0,(hf 1 (by omega)).trans h1,t,e,(hf 2 (by omega)).trans h2,ha⟩
 ·intro n G nx hn1 hnN ⟨hb0,hb1,t,e,hl2,ha⟩ hnx
  have hw:=wordN_len n
  have hs:=h.small
  have hbad:=h.least n hn1 hnN
  refine Rnd.of hl2 ha rfl rfl ?_
  refine W.region ?_
  refine R.op0 (O.assign rfl) rfl ?_
  refine R.doneAst hl2 ?_
  refine W.block (W.seq (W.region ?_))
  refine R.op0 (O.move rfl) rfl ?_
  refine R.op0 (O.call rfl rfl (ret10 (wordN n) (by omega))) rfl ?_
  refine SO ?_
  have fin:∀ {l:Env} {nx':Nat},nx<=nx'->W CC 53 Go.Proofs.Tryz.f53.ntmps .skip l (upd G 2 (.lp t Go.Proofs.Tryz.f53.ntmps [4] f12R.1 f12R.2 53 1 e)) nx' [] .rnd
    (frd 2 fun v G' nx'=>v = .imm (.bool true)/\(G' 0 = .box [.imm (.lst (l0.map sv))] false/\G' 1 = .box [.imm (.str ⟨#[]⟩)] false/\∃ t e,G' 2 = .lp t Go.Proofs.Tryz.f53.ntmps [4] f12R.1 f12R.2 53 0 e/\Agree t [(1, .ptr 0 0),(2, .ptr 1 0)])/\nx<=nx'/\∀ o,4<=o->G' o=G o):=by
   intro l nx' hx
   refine W.skipFrd (upd_same _ _ _) ⟨rfl,⟨?_,?_,t,none,upd_same _ _ _,ha⟩,hx,fun o ho=>?_⟩
   ·rw [upd_ne _ _ _ _ (by omega),upd_ne _ _ _ _ (by omega)];exact hb0
   ·rw [upd_ne _ _ _ _ (by omega),upd_ne _ _ _ _ (by omega)];exact hb1
   ·rw [upd_ne _ _ _ _ (by omega),upd_ne _ _ _ _ (by omega)]
  refine R.guardC1 rfl rfl rfl (fun h1=>?_) (fun h1=>?_)
  ·refine R.op0 (O.loadB rfl ((upd_ne _ _ _ _ (by omega)).trans hb0) rfl rfl) rfl ?_
   refine SO ?_
   refine R.op0 (O.call rfl rfl (ret42 l0 (wordN n) hl)) rfl ?_
   refine SO ?_
   refine W.cond rfl (fun h2=>?_) (fun h2=>?_)
   ·rw [good,h1,h2] at hbad;cases hbad
   ·refine SO ?_
    exact fin (by omega)
  ·refine SO ?_
   exact fin (by omega)
 ·intro G nx ⟨hb0,hb1,t,e,hl2,ha⟩ hnx
  have hw:=wordN_len N
  have hs:=h.small
  have hgood:=h.good
  rw [good,Bool.and_eq_true] at hgood
  refine Rnd.of hl2 ha rfl rfl ?_
  refine W.region ?_
  refine R.op0 (O.assign rfl) rfl ?_
  refine R.doneAst hl2 ?_
  refine W.block (W.seq (W.region ?_))
  refine R.op0 (O.move rfl) rfl ?_
  refine R.op0 (O.call rfl rfl (ret10 (wordN N) (by omega))) rfl ?_
  have h1:=hgood.1
  have h2:=hgood.2
  refine SO ?_
  refine R.op0 (O.call rfl rfl (ret42 l0 (wordN N) hl)) rfl ?_
  refine SO ?_
  refine R.opN1 (O.storeB rfl rfl ((upd_ne _ _ _ _ (by omega)).trans hb1) rfl rfl rfl) ?_
  refine SO ?_
  refine W.retFrd ((upd_ne _ _ _ _ (by omega)).trans (upd_same _ _ _)) ⟨rfl,?_,t,upd_same _ _ _⟩
  rw [upd_ne _ _ _ _ (by omega),upd_same]
 ·exact ht.sub (.cons rfl (.cons rfl (.nil _)))
 ·intro v G' nx' ⟨h1,t2,h2⟩
  refine ⟨_,_,_,_,_,_,_,_,h2,by decide,?_⟩
  have hW:W CC 53 Go.Proofs.Tryz.f53.ntmps .ret [(1, .ptr 0 0),(2, .ptr 1 0)] (upd G' 2 .gone) nx' [] .no (fin CC [.cell 2 9] fun v G x=>∃ ids,peek G pkDepth v=some (sv (wordN N),ids)):=
   W.retFinC (o:=1) rfl ((upd_ne _ _ _ _ (by omega)).trans h1) rfl rfl ⟨[],rfl⟩
  exact hW.retI t fun i v hv=>ht i v (by
   have:=(Sub.cons rfl (Sub.cons rfl (Sub.nil _)):Sub [(1, .ptr 0 0),(2, .ptr 1 0)] ((2,AV.ptr (0+(0+1)) 0)::(1,AV.ptr (0+0) 0)::envOf 0 (List.map AV.imm [IV.lst (List.map sv l0)])))
   exact this i v hv)
end Go.Abs

/- Names: there is one that is none of some. -/
open Go Go.Abs
namespace Go.Abs
theorem wordN_zero:wordN 0=[]:=by rw [wordN]
theorem wordN_inj:∀ n m,wordN n=wordN m->n=m:=by
 intro n
 induction n using Nat.strongRecOn with
 |_ n ih=>
  intro m h
  cases n with
  |zero=>
   cases m with
   |zero=>rfl
   |succ m=>rw [wordN_zero,wordN_succ] at h;simp at h
  |succ n=>
   cases m with
   |zero=>rw [wordN_zero,wordN_succ] at h;simp at h
   |succ m=>
    rw [wordN_succ,wordN_succ] at h
    have h1:=List.append_inj_left' h rfl
    have h2:=List.append_inj_right' h rfl
    have h3:=ih (n / 26) (by omega) _ h1
    have h4:n % 26=m % 26:=by
     have:=congrArg UInt8.toNat (List.cons.inj h2).1
     simp only [UInt8.toNat_ofNat'] at this
     omega
    omega
theorem wordN_short:∀ k n,n < 26 ^ k->(wordN n).length<=k
 |0,n,h=>by
  have:n=0:=by simpa using h
  rw [this,wordN_zero];simp
 |k+1,n,h=>by
  cases n with
  |zero=>rw [wordN_zero];simp
  |succ n=>
   rw [wordN_succ]
   have:=wordN_short k (n / 26) (by rw [Nat.pow_succ] at h;omega)
   simp;omega
theorem wordN_low:∀ n,lows (wordN n)=true:=by
 intro n
 induction n using Nat.strongRecOn with
 |_ n ih=>
  cases n with
  |zero=>rw [wordN_zero];rfl
  |succ n=>
   have h:=ih (n / 26) (by omega)
   have hc:∀ r,r < 26->okc (UInt8.ofNat (97+r))=true:=by decide
   rw [wordN_succ]
   unfold lows at h ⊢
   rw [List.all_append,h,List.all_cons,hc _ (Nat.mod_lt _ (by omega))]
   rfl
theorem name_word {n:Nat} (h1:1<=n) (h:n < 26 ^ 8):nameOk (wordN n) = !kws.contains (wordN n):=by
 have h2:=wordN_short 8 n h
 have h3:0 < (wordN n).length:=by
  cases n with
  |zero=>omega
  |succ n=>rw [wordN_succ];simp
 rw [nameOk,wordN_low,decide_eq_true h3,decide_eq_true h2]
 simp
theorem nodup_len:∀ (a b:List Str),a.Nodup->(∀ x∈a,x∈b)->a.length<=b.length
 |[],_,_,_=>Nat.zero_le _
 |x::r,b,hn,hs=>by
  rw [List.nodup_cons] at hn
  have hx:=hs x (by simp)
  have h1:=nodup_len r (b.erase x) hn.2 (fun y hy=>by
   have hne:y≠x:=fun e=>hn.1 (e▸hy)
   exact (List.mem_erase_of_ne hne).2 (hs y (by simp [hy])))
  rw [List.length_erase_of_mem hx] at h1
  have:=List.length_pos_of_mem hx
  simp
  omega
theorem least_of {p:Nat->Bool}:∀ n,p n=true->1<=n->∃ m,1<=m/\m<=n/\p m=true/\∀ k,1<=k->k < m->p k=false:=by
 intro n
 induction n using Nat.strongRecOn with
 |_ n ih=>
  intro h hn
  by_cases hk:∃ k,1<=k/\k < n/\p k=true
  ·obtain ⟨k,h1,h2,h3⟩:=hk
   obtain ⟨m,a,b,c⟩:=ih k h2 h3 h1
   exact ⟨m,a,by omega,c⟩
  ·exact ⟨n,hn,Nat.le_refl _,h,fun k h1 h2=>by
    cases e:p k with
    |false=>rfl
    |true=>exact absurd ⟨k,h1,h2,e⟩ hk⟩
theorem exists_first (l:List Str) (hl:l.length<=1048576):∃ N,First l N:=by
 have key:∃ n,1<=n/\n<=l.length+35/\good l n=true:=by
  refine Classical.byContradiction fun hno=>?_
  have h:∀ n,1<=n->n<=l.length+35->wordN n∈kws++l:=by
   intro n h1 h2
   have hg:good l n=false:=by
    cases e:good l n with
    |false=>rfl
    |true=>exact absurd ⟨n,h1,h2,e⟩ hno
   rw [good,name_word h1 (by omega)] at hg
   rw [List.mem_append]
   cases hk:kws.contains (wordN n) with
   |true=>exact .inl (by simpa using hk)
   |false=>
    rw [hk] at hg
    exact .inr (by simpa using hg)
  have h2:=nodup_len ((List.range (l.length+35)).map fun i=>wordN (i+1)) (kws++l) (by
   rw [List.nodup_iff_pairwise_ne,List.pairwise_map]
   refine List.Pairwise.imp ?_ (List.nodup_iff_pairwise_ne.1 List.nodup_range)
   intro a b hab e
   have:=wordN_inj _ _ e
   omega) (by
   intro x hx
   simp only [List.mem_map,List.mem_range] at hx
   obtain ⟨i,hi,rfl⟩:=hx
   exact h (i+1) (by omega) (by omega))
  have hk:kws.length=34:=rfl
  simp only [List.length_map,List.length_range,List.length_append,hk] at h2
  omega
 obtain ⟨n,h1,h2,h3⟩:=key
 obtain ⟨m,a,b,c,d⟩:=least_of (p:=good l) n h3 h1
 exact ⟨m,a,c,d,by omega⟩
end Go.Abs

/- TermNames: the law. -/
open Go Go.Abs
namespace Go.Abs
set_option maxRecDepth 100000
set_option maxHeartbeats 2000000
theorem O.callP {C:Cfg} {l:Env} {G:Nat->Obj} {nx:Nat} {df:List (AV×List AV)} {pk:Pk} {id:Nat} {f:FuncId} {ar:List Operand} {ats:Array TypeId} {vs:List AV} {ivs:List IV} {ids:List Nat} {x:IV} [hf:FnIs C f] (ha:looks l ar=some vs) (hi:peeks G vs=some (ivs,ids)) (hr:Ret C f ivs x) (hx:x.scalar=true) :
  OpV C id l G nx df pk (.call { callee := .value (.func f),args:=⟨ar⟩,argTypes:=ats }) (.imm x) []:=by
 obtain ⟨n,v,G',nx',pk',ids,h1,h2⟩:=hr
 refine ⟨fun t ht=>⟨n,?_⟩⟩
 simp only [opA,ev,aCall,fnOf,List.map_nil,List.append_nil,callA,hf.byref,Bool.false_eq_true,if_false,ht.evs ha,hi,hf.orc,h1,h2,hx,give,if_true]
end Go.Abs

/- Programs with other names: the names, and expressions. -/
open Go Go.Abs
namespace Go.Abs
set_option maxRecDepth 100000
set_option maxHeartbeats 4000000
instance fnis77:FnIs CC 54:=⟨rfl,fun _=>rfl⟩
instance fnis99:FnIs CC 113:=⟨rfl,fun _=>rfl⟩
open Classical in
/-- The first name that is none of some. -/
noncomputable def freshOf (l:List Str):Str:=if h:l.length<=1048576 then wordN (Classical.choose (exists_first l h)) else []
theorem ret12f {l:List Str} (h:l.length<=1048576):Ret CC 53 [.lst (l.map sv)] (sv (freshOf l)):=by
 unfold freshOf
 rw [dif_pos h]
 exact ret12 l (by omega) _ (Classical.choose_spec (exists_first l h))
noncomputable def canonL:Nat->List Str
 |0=>[]
 |n+1=>canonL n++[freshOf (canonL n)]
theorem canonL_len:∀ n,(canonL n).length=n
 |0=>rfl
 |n+1=>by rw [canonL,List.length_append,canonL_len n];rfl
theorem canonL_take:∀ {n i:Nat},i<=n->(canonL n).take i=canonL i
 |0,i,h=>by
         obtain rfl:i=0:=by omega
         rfl
 |n+1,i,h=>by
  by_cases he:i=n+1
  ·subst he
   exact List.take_of_length_le (by rw [canonL_len];omega)
  ·rw [canonL,List.take_append_of_le_length (by rw [canonL_len];omega),canonL_take (by omega)]
theorem canonL_at {n i:Nat} (h:i < n):(canonL n)[i]? = some (freshOf (canonL i)):=by
 have h1:(canonL (i+1))[i]? = some (freshOf (canonL i)):=by
  rw [canonL,List.getElem?_append_right (by rw [canonL_len];omega),canonL_len];simp
 rw [<-canonL_take (n:=n) (i:=i+1) (by omega),List.getElem?_take] at h1
 simpa using h1
mutual
/-- An expression with other names. -/
def renE (to:Str->Str):Exp->Exp
 | .mk op name n fold calcs kids => .mk op (to name) n fold calcs (renL to kids)
def renL (to:Str->Str):List Exp->List Exp
 |[]=>[]
 |e::r=>renE to e::renL to r
end
theorem renL_map (to:Str->Str):∀ l,renL to l=l.map (renE to)
 |[]=>by rw [renL];rfl
 |e::r=>by rw [renL,renL_map to r];rfl
theorem peek_fn1 {G:Nat->Obj} {f:Fn} {q1:Nat} {cs1:List IV} {fr1:Bool} (h1:G q1 = .box (cs1.map .imm) fr1) :
  Go.Abs.peek G pkDepth (.fn f [.ptr q1 0])=some (.fn f [.fptr cs1 0],[q1]):=by
 have hp:∀ x,Go.Abs.peek G 98 (.imm x)=some (x,[]):=fun x=>rfl
 have hb:∀ {q:Nat} {cs:List IV} {fr:Bool},G q = .box (cs.map .imm) fr->Go.Abs.peek G 99 (.ptr q 0)=some (.fptr cs 0,[q]):=by
  intro q cs fr h
  show Go.Abs.peek G (98+1) _=_
  unfold Go.Abs.peek
  rw [h]
  dsimp only
  rw [peekL_imm hp]
 show Go.Abs.peek G (99+1) _=_
 unfold Go.Abs.peek
 rw [peekL,hb h1,peekL]
 rfl
theorem allEs_mem {kids:List Exp} {c x:Exp} (h:c∈kids) (hx:x∈allE c):x∈allEs kids:=by
 induction kids with
 |nil=>cases h
 |cons k r ih=>
  rw [allEs,List.mem_append]
  rcases List.mem_cons.1 h with rfl|h
  ·exact .inl hx
  ·exact .inr (ih h)
def ToIs (ks vs:List IV) (to:Str->Str) (s:Str):Prop:=(s=[]->to s=[])/\(s≠[]->lookIs (some ty9) (some ty9) (some (ks,vs.map .imm)) (sv s) false (.imm (sv (to s))))
theorem ret99 {c:Exp} {ks vs:List IV} {to:Str->Str} (h:Ret CC 54 [c.iv, .fmp ks vs] (renE to c).iv):Ret CC 113 [c.iv, .fptr [.fmp ks vs] 0] (renE to c).iv:=by
 generalize renE to c=r at *
 obtain ⟨o'',s'',m'',f'',c'',k''⟩:=c
 obtain ⟨o3,s3,m3,f3,c3,k3⟩:=r
 refine Ret.of (fn:=Go.Proofs.Tryz.f113) (by kernel_rfl) rfl rfl ?_
 refine AA ?_
 exact W.retFinCA rfl rfl rfl rfl ⟨[],rfl⟩
theorem ret77 {e:Exp} {ks vs:List IV} {to:Str->Str} (h:e.Sm):(∀ x∈allE e,ToIs ks vs to x.name)->Ret CC 54 [e.iv, .fmp ks vs] (renE to e).iv:=by
 induction h with
 |mk op name n fold calcs kids hc hk hcs hks ih=>
 intro hto
 rw [allE] at hto
 rw [renE,renL_map]
 have h92:=ret92 (g:=renE to) (cap:=[.fptr [.fmp ks vs] 0]) fnis99 kids hk fun c h=>ret99 (ih c h fun x hx=>hto x (List.mem_cons_of_mem _ (allEs_mem h hx)))
 have h90:=ret90 (g:=id) (cap:=[]) fnis91 calcs hc fun c h=>ret91 (hcs c h)
 rw [List.map_id] at h90
 have hn:=hto _ (List.mem_cons_self ..)
 obtain ⟨hn1,hn2⟩:=hn
 simp only [Exp.name] at hn1 hn2
 generalize kids.map (renE to)=ks' at *
 generalize to name=nm at *
 refine Ret.of (fn:=Go.Proofs.Tryz.f54) (by kernel_rfl) rfl rfl ?_
 rcases Bool.eq_false_or_eq_true (!(name==[])) with hA|hA
 ·have hA':name≠[]:=by rintro rfl;simp at hA
  have hn:=hn2 hA'
  refine AA ?_
  refine R.opU (O.callFz (ids:=[1]) rfl (peeks2 (peek_fn1 (fr1:=false) (cs1:=[.fmp ks vs]) rfl)) h92 rfl) rfl ?_
  refine AA ?_
  exact W.retFinCA rfl rfl rfl rfl ⟨[],rfl⟩
 ·have hA':name=[]:=by simpa using hA
  subst hA'
  have hn:=hn1 rfl
  subst hn
  refine AA ?_
  refine R.opU (O.callFz (ids:=[1]) rfl (peeks2 (peek_fn1 (fr1:=false) (cs1:=[.fmp ks vs]) rfl)) h92 rfl) rfl ?_
  refine AA ?_
  exact W.retFinCA rfl rfl rfl rfl ⟨[],rfl⟩
end Go.Abs

/- Expressions with other names, as the reference makes them. -/
open Go Go.Abs
namespace Go.Abs
set_option maxRecDepth 100000
set_option maxHeartbeats 4000000
def toR (old now:List Str) (s:Str):Str:=if old.contains s then now.getD (idxN old s) [] else s
end Go.Abs

/- What each node of a formed program is like. -/
open Go Go.Abs
namespace Go.Abs
set_option maxRecDepth 100000
def NodeIs (srcs defs:List Str) (ahead:Nat) (x:Exp):Prop:=∃ s,shapeR x.op=some s/\headIs srcs defs ahead s x.op x.name x.n x.fold x.calcs.length x.kids.length=true
mutual
theorem expR_head (srcs defs:List Str) (ahead:Nat):∀ (e:Exp) (depth left:Int),0<=expR srcs defs ahead e depth left->∀ x∈allE e,NodeIs srcs defs ahead x
 | .mk op name n fold calcs kids,depth,left,h,x,hx=>by
  rw [expR] at h
  rw [allE] at hx
  cases hs:shapeR op with
  |none=>rw [hs] at h;simp at h
  |some s=>
   rw [hs] at h
   dsimp only at h
   split at h
   ·omega
   ·split at h
    ·rename_i hh
     split at h
     ·omega
     ·rcases List.mem_cons.1 hx with he|hx
      ·rw [he]
       exact ⟨s,hs,hh⟩
      ·exact expRs_head srcs defs ahead kids depth left _ h x hx
    ·omega
theorem expRs_head (srcs defs:List Str) (ahead:Nat):∀ (l:List Exp) (depth left n:Int),0<=expRs srcs defs ahead l depth left n->∀ x∈allEs l,NodeIs srcs defs ahead x
 |[],_,_,_,_,x,hx=>by cases hx
 |k::r,depth,left,n,h,x,hx=>by
  rw [expRs] at h
  rw [allEs] at hx
  split at h
  ·omega
  ·rcases List.mem_append.1 hx with hx|hx
   ·exact expR_head srcs defs ahead k (depth+1) (left-n) (by omega) x hx
   ·exact expRs_head srcs defs ahead r depth left _ h x hx
end
theorem countL_head (srcs names:List Str):∀ (ds:List Dfn) (i:Nat) (n:Int),0<=countL srcs names ds i n->∀ j d,ds[j]? = some d->∀ x∈allE d.exp,NodeIs srcs names (i+j) x
 |[],_,_,_,j,d,hd=>by simp at hd
 |k::r,i,n,h,j,d,hd=>by
  rw [countL] at h
  split at h
  ·omega
  ·cases j with
   |zero=>
    simp at hd
    subst hd
    exact expR_head srcs names i k.exp 1 (60-n) (by omega)
   |succ j=>
    have:=countL_head srcs names r (i+1) _ h j d (by simpa using hd)
    rwa [show i+1+j=i+(j+1) by omega] at this
theorem countR_parts {p:Pgm} (h:0<=countR p):(1<=p.srcs.length/\p.srcs.length<=4/\p.defs.length<=6)/\diff (p.srcs++defNames p)=true/\defNames p=p.defs.map Dfn.name/\∀ i d,p.defs[i]? = some d->∀ x∈allE d.exp,NodeIs p.srcs (defNames p) i x:=by
 unfold countR at h
 split at h
 ·omega
 ·rename_i h0
  split at h
  ·rename_i h1
   refine ⟨by omega,h1,?_,fun i d hd=>?_⟩
   ·unfold defNames
    rw [List.take_of_length_le (by omega)]
   ·have:=countL_head p.srcs (defNames p) p.defs 0 0 h i d hd
    rwa [Nat.zero_add] at this
  ·omega
theorem nameOk_ne {s:Str} (h:nameOk s=true):s≠[]:=by
 rintro rfl
 simp [nameOk] at h
theorem diff_get {l:List Str} (h:diff l=true) {i:Nat} {s:Str} (hi:l[i]? = some s):nameOk s=true/\s∉l.take i:=by
 unfold diff at h
 have hlt:=(List.getElem?_eq_some_iff.1 hi).1
 have:=List.all_eq_true.1 h i (List.mem_range.2 hlt)
 rw [show l.getD i []=s from by rw [List.getD_eq_getElem?_getD,hi];rfl] at this
 simp only [Bool.and_eq_true,Bool.not_eq_true'] at this
 exact ⟨this.1,by simpa using this.2⟩
theorem diff_nodup {l:List Str} (h:diff l=true):l.Nodup:=by
 refine List.pairwise_iff_getElem.2 fun i j hi hj hij he=>?_
 have hs:l[j]? = some l[j]:=List.getElem?_eq_getElem hj
 have:=(diff_get h hs).2
 exact this (List.mem_iff_getElem?.2 ⟨i,by rw [List.getElem?_take];simp [hij,he,hi]⟩)
theorem diff_mem {l:List Str} (h:diff l=true) {s:Str} (hs:s∈l):nameOk s=true:=by
 obtain ⟨i,hi⟩:=List.mem_iff_getElem?.1 hs
 exact (diff_get h hi).1
theorem idxN_at {l:List Str} (hn:l.Nodup) {i:Nat} {s:Str} (hi:l[i]? = some s):idxN l s=i:=by
 have hs:s∈l:=List.mem_iff_getElem?.2 ⟨i,hi⟩
 have hlt:=(List.getElem?_eq_some_iff.1 hi).1
 unfold idxN
 cases hf:l.findIdx? (fun x=>s==x) with
 |none=>
  rw [List.findIdx?_eq_none_iff] at hf
  have:=hf s hs
  simp at this
 |some j=>
  have h1:=List.findIdx?_eq_some_iff_getElem.1 hf
  obtain ⟨h2,h3,_⟩:=h1
  have h3:s=l[j]:=by simpa using h3
  have h4:l[j]? = some s:=by rw [List.getElem?_eq_getElem h2,<-h3]
  by_cases hij:j=i
  ·exact hij
  ·exfalso
   have hi':l[i]=s:=(List.getElem?_eq_some_iff.1 hi).2
   rcases Nat.lt_or_gt_of_ne hij with h|h
   ·exact List.pairwise_iff_getElem.1 hn j i h2 hlt h (by rw [<-h3,hi'])
   ·exact List.pairwise_iff_getElem.1 hn i j hlt h2 h (by rw [<-h3,hi'])
theorem NodeIs.named {srcs defs:List Str} {ahead:Nat} {x:Exp} (h:NodeIs srcs defs ahead x):x.name=[]\/x.name∈srcs++defs:=by
 obtain ⟨s,h1,h2⟩:=h
 unfold headIs at h2
 simp only [Bool.and_eq_true] at h2
 obtain ⟨⟨⟨⟨⟨_,_⟩,h5⟩,_⟩,_⟩,h8⟩:=h2
 by_cases hn:x.name=[]
 ·exact .inl hn
 ·right
  have h5:s.name=true:=by
   have:(x.name==[])=false:=by simpa using hn
   rw [this] at h5
   simpa using h5
  have hop:x.op=1\/x.op=2\/x.op=3:=by
   rcases ops15 x.op with h|h|h|h|h|h|h|h|h|h|h|h|h|h|h|h
   case inl=>exact .inl h
   case inr.inl=>exact .inr (.inl h)
   case inr.inr.inl=>exact .inr (.inr h)
   all_goals
    exfalso
    simp [shapeR,h] at h1
   all_goals
    subst h1
    simp at h5
  unfold nameIs at h8
  rcases hop with h|h|h
  ·rw [h] at h8
   exact List.mem_append_left _ (by simpa using h8)
  ·rw [h] at h8
   have h8:((defs.take ahead).contains x.name)=true:=h8
   exact List.mem_append_right _ (List.mem_of_mem_take (by simpa using h8))
  ·rw [h] at h8
   have h8:(defs.contains x.name)=true:=h8
   exact List.mem_append_right _ (by simpa using h8)
end Go.Abs

/- Programs with other names, as the reference makes them. -/
open Go Go.Abs
namespace Go.Abs
set_option maxRecDepth 100000
set_option maxHeartbeats 4000000
def oldN (p:Pgm):List Str:=p.srcs++p.defs.map Dfn.name
def renD (to:Str->Str) (d:Dfn):Dfn:=⟨to d.name,renE to d.exp⟩
noncomputable def toC (p:Pgm):Str->Str:=toR (oldN p) (canonL (oldN p).length)
noncomputable def canonP (p:Pgm):Pgm:=⟨canonL p.srcs.length,p.defs.map (renD (toC p))⟩
theorem oldN_len (p:Pgm):(oldN p).length=p.srcs.length+p.defs.length:=by unfold oldN;simp
theorem toC_at {p:Pgm} (hn:(oldN p).Nodup) {i:Nat} {s:Str} (hi:(oldN p)[i]? = some s):toC p s=freshOf (canonL i):=by
 have hlt:=(List.getElem?_eq_some_iff.1 hi).1
 unfold toC toR
 rw [if_pos (by simpa using List.mem_iff_getElem?.2 ⟨i,hi⟩),idxN_at hn hi,List.getD_eq_getElem?_getD,canonL_at hlt]
 rfl
theorem toC_def {p:Pgm} (hn:(oldN p).Nodup) {i:Nat} {d:Dfn} (hi:p.defs[i]? = some d):(canonL (oldN p).length)[p.srcs.length+i]? = some (toC p d.name):=by
 have hlt:=(List.getElem?_eq_some_iff.1 hi).1
 have h1:(oldN p)[p.srcs.length+i]? = some d.name:=by
  unfold oldN
  rw [List.getElem?_append_right (by omega),Nat.add_sub_cancel_left,List.getElem?_map,hi];rfl
 rw [toC_at hn h1,canonL_at (by rw [oldN_len];omega)]
noncomputable def canonR (p:Pgm):Pgm×Int:=if progR p then (canonP p,0) else (⟨[],[]⟩,2)
theorem progR_parts {p:Pgm} (h:progR p=true):(oldN p).Nodup/\(1<=p.srcs.length/\p.srcs.length<=4)/\p.defs.length<=6/\(∀ d∈p.defs,d.exp.Sm)/\(∀ s∈oldN p,nameOk s=true)/\∀ i d,p.defs[i]? = some d->∀ x∈allE d.exp,NodeIs p.srcs (p.defs.map Dfn.name) i x:=by
 have hc:=progR_count h
 obtain ⟨h1,h2,h3,h4⟩:=countR_parts hc
 rw [h3] at h2 h4
 exact ⟨diff_nodup h2,⟨h1.1,h1.2.1⟩,h1.2.2,countR_sm hc,fun s hs=>diff_mem h2 hs,h4⟩
end Go.Abs
