/- Programs that are looked at: what a definition reaches. -/
import Derived.Test.YtbdoijpclmhbaaaGreatSo8
open Go Go.Abs
namespace Go.Abs
set_option maxRecDepth 100000
set_option maxHeartbeats 4000000
def ty74:TyI:={ d:=TyD.mp 3 4,sz:=1,bytes:=8,zero:=AV.imm IV.nilmap }
instance tyis74:TyIs CC 116 ty74:=⟨by kernel_rfl⟩
instance fnis47:FnIs CC 68:=⟨rfl,fun _=>rfl⟩
instance fnis49:FnIs CC 71:=⟨rfl,fun _=>rfl⟩
theorem ret49 (e:Exp):Ret CC 71 [e.iv] (.fn (.func 131) [.fptr e.iv.cells 0]):=by
 obtain ⟨op,name,n',fold,calcs,kids⟩:=e
 refine Ret.of (fn:=Go.Proofs.Tryz.f71) (by kernel_rfl) rfl rfl ?_
 refine AA ?_
 exact W.retFin1 rfl ⟨[0],rfl⟩
def scopeIV (p:Pgm) (ahead n:Int):IV := .fptr [numIV p.srcs,numIV (defNames p),shapesIV, .int .i64 ahead, .int .i64 n] 0
def setIV (l:List Nat):IV := .fmp (l.map natIV) (l.map fun _ => .bool true)
def setObj (l:List Nat):Obj := .mp (l.map natIV) ((l.map fun _=>IV.bool true).map .imm) false
def stepsN (names:List Str) (l:List Exp):List Nat:=(l.filter namesDef).map fun x=>idxN names x.name
theorem natKey (k:Nat):∀ l:List Nat,keyFind (natIV k) (l.map natIV)=some (l.findIdx? fun x=>k==x)
 |[]=>rfl
 |x::r=>by
  have e:scalarEq (natIV k) (natIV x)=some (k==x):=by
   show (if IntKind.i64=IntKind.i64 then some (((k:Nat):Int)==((x:Nat):Int)) else none)=_
   rw [if_pos rfl]
   congr 1
   by_cases h:k=x
   ·subst h;simp
   ·have:¬ (k:Int)=(x:Int):=by omega
    rw [beq_eq_false_iff_ne.2 h,beq_eq_false_iff_ne.2 this]
  rw [List.map_cons,keyFind,e,List.findIdx?_cons]
  cases k==x with
  |true=>rfl
  |false=>simp only [natKey k r];rfl
theorem findIdx_contains' {α:Type} [BEq α] [LawfulBEq α] (s:α):∀ l:List α,(l.findIdx? fun x=>s==x).isSome=l.contains s
 |[]=>rfl
 |x::r=>by
  rw [List.findIdx?_cons,List.contains_cons]
  cases h:s==x with
  |true=>simp
  |false=>
   simp only [Bool.false_or]
   rw [<-findIdx_contains' s r]
   cases (r.findIdx? fun x=>s==x)<;>rfl
theorem findIdx_lt' {α:Type} [BEq α] {s:α} {j:Nat}:∀ {l:List α},(l.findIdx? fun x=>s==x)=some j->j < l.length
 |[],h=>by cases h
 |x::r,h=>by
  rw [List.findIdx?_cons] at h
  split at h
  ·cases h;simp
  ·cases hr:r.findIdx? fun x=>s==x with
   |none=>rw [hr] at h;cases h
   |some k=>
    rw [hr] at h
    cases h
    have:=findIdx_lt' hr
    simp;omega
theorem setLook (l:List Nat) (k:Nat):lookIs (some ty3) (some ty4) (some (l.map natIV,(l.map fun _=>IV.bool true).map .imm)) (natIV k) false (.imm (.bool (l.contains k))):=by
 refine ⟨rfl,?_⟩
 rw [natKey,<-findIdx_contains']
 cases h:l.findIdx? fun x=>k==x with
 |none=>exact .inr ⟨rfl,rfl⟩
 |some j=>
  have:=findIdx_lt' h
  refine .inl ⟨j, .imm (.bool true),rfl,?_,rfl⟩
  simp [this]
theorem setNew {l:List Nat} {k:Nat} (h:l.contains k=false):keyFind (natIV k) (l.map natIV)=some none:=by
 rw [natKey]
 rw [<-findIdx_contains'] at h
 cases h':l.findIdx? fun x=>k==x with
 |none=>rfl
 |some j=>rw [h'] at h;cases h
theorem setObj_add (l:List Nat) (k:Nat):setObj (l++[k]) = .mp (l.map natIV++[natIV k]) ((l.map fun _=>IV.bool true).map .imm++[.imm (.bool true)]) false:=by
 unfold setObj;simp
theorem stepsN_take {names:List Str} {l:List Exp} {x:Exp} {i:Nat} (h:l[i]? = some x):stepsN names (l.take (i+1))=stepsN names (l.take i)++(if namesDef x then [idxN names x.name] else []):=by
 unfold stepsN
 rw [List.take_add_one,h,List.filter_append,List.map_append]
 congr 1
 simp only [Option.toList,List.filter_cons,List.filter_nil]
 split<;>rfl
structure Lb (p:Pgm) (ahead n:Int) (M pb sb ob lb nx:Nat) (G:Nat->Obj):Prop where
 bp:G pb = .box [.imm (.lst (p.srcs.map sv)), .imm (.lst (p.defs.map Dfn.iv))] false
 bs:G sb = .box [.imm (scopeIV p ahead n)] false
 bo:G ob = .box [.map M] false
 bl:G lb = .box [.fn (.func 129) [.ptr pb 0, .ptr sb 0, .ptr ob 0, .ptr lb 0]] false
 lt:(M < nx/\pb < nx/\sb < nx/\ob < nx/\lb < nx)/\M≠pb/\M≠sb/\M≠ob/\M≠lb
theorem Lb.fr {p:Pgm} {ahead n:Int} {M pb sb ob lb nx nx':Nat} {G G':Nat->Obj} (h:Lb p ahead n M pb sb ob lb nx G) (hn:nx<=nx') (hG:∀ o,o < nx->o≠M->G' o=G o):Lb p ahead n M pb sb ob lb nx' G':=by
 obtain ⟨h1,h2,h3,h4,⟨a,b,c,d,e⟩,f,g,i,j⟩:=h
 exact ⟨(hG _ b (Ne.symm f)).trans h1,(hG _ c (Ne.symm g)).trans h2,(hG _ d (Ne.symm i)).trans h3,(hG _ e (Ne.symm j)).trans h4,by omega⟩
structure Tos (p:Pgm) (tos:List (List Nat)):Prop where
 len:tos.length=p.defs.length
 at':∀ (i:Nat) d,p.defs[i]? = some d->tos.getD i []=stepsN (defNames p) (allE d.exp)
 lt:∀ (i:Nat) d,p.defs[i]? = some d->∀ k∈stepsN (defNames p) (allE d.exp),k < tos.length
theorem cal78 {p:Pgm} (hp:p.Fits) {tos:List (List Nat)} (ht:Tos p tos) {ahead n:Int}:∀ (m d:Nat) (out:List Nat) (M pb sb ob lb nx:Nat) (G:Nat->Obj),tos.length-out.length<=m->out.Nodup->(∀ x∈out,x < tos.length)->d < tos.length->Lb p ahead n M pb sb ob lb nx G->G M=setObj out ->
  CalP CC 129 [.imm (natIV d), .ptr pb 0, .ptr sb 0, .ptr ob 0, .ptr lb 0] G nx fun
   | .ret v G' nx'=>v = .imm (.tup [])/\nx<=nx'/\(∀ o,o < nx->o≠M->G' o=G o)/\∃ out',G' M=setObj out'/\Dfs tos d (tos.getD d []) out out'
   | .pan _ _ _=>False:=by
 intro m
 induction m using Nat.strongRecOn with
 |ind m ih=>
 intro d out M pb sb ob lb nx G hm hnd hbd hd hL hM
 obtain ⟨⟨l1,l2,l3,l4,l5⟩,n1,n2,n3,n4⟩:=hL.lt
 obtain ⟨df,hx⟩:∃ df,p.defs[d]? = some df:=at_lt (by rw [<-ht.len];exact hd)
 have hxi:=at_map Dfn.iv hx
 have hdc:=df.cells_len
 have hfit:=hp.exp df (List.mem_of_getElem? hx)
 have hr49:=ret49 df.exp
 have hat:=ht.at' d df hx
 have hlt:=ht.lt d df hx
 have hbp:=hL.bp
 rw [<-hat] at hlt
 refine CalP.of (fn:=Go.Proofs.Tryz.f129) (by kernel_rfl) rfl rfl ?_
 obtain ⟨nm,e⟩:=df
 obtain ⟨op,name,n',fold,calcs,kids⟩:=e
 refine AN ?_
 refine W.nodes _ hfit (fun i G1=>(∀ o,o < nx->o≠M->G1 o=G o)/\∃ out1,G1 M=setObj out1/\Dfs tos d (stepsN (defNames p) ((allE (.mk op name n' fold calcs kids)).take i)) out out1) (fun _=>False) (fun _ _ _=>False)
  rfl rfl rfl rfl rfl ?_ ?_ ?_ ?_ ?_ ?_ ?_
 ·rintro i G1 G2 ⟨h1,out1,h2,h3⟩ hG
  exact ⟨fun o h4 h5=>(hG o (by omega)).trans (h1 o h4 h5),out1,(hG M (by omega)).trans h2,h3⟩
 ·intro _ _ h;exact h.elim
 ·exact ⟨fun o _ _=>rfl,out,hM, .init hnd hbd⟩
 ·rintro q i x G1 nx1 lp0 lp1 Φr hq hxa hn ⟨h1,out1,h2,h3⟩ hlp next _ _
  have hst:=stepsN_take (names:=defNames p) hxa
  rw [hst] at next
  have hL1:Lb p ahead n M pb sb ob lb nx1 G1:=hL.fr (by omega) h1
  have hmem:namesDef x=true->idxN (defNames p) x.name∈tos.getD d []:=fun h=>by
   rw [hat]
   exact List.mem_map.2 ⟨x,List.mem_filter.2 ⟨List.mem_of_getElem? hxa,h⟩,rfl⟩
  obtain ⟨op',name',m',fold',calcs',kids'⟩:=x
  refine W.regionN ?_
  refine AQ ?_
  refine R.doneAstQ at_upd ?_
  have hbs:=hL1.bs
  have hbo:=hL1.bo
  have hbl:=hL1.bl
  have hL2:=numLook0 (defNames p) name'
  have hL2':(Exp.mk op' name' m' fold' calcs' kids').name=name':=rfl
  rw [hL2'] at hmem next
  generalize idxN (defNames p) name'=k at *
  have hset:=setLook out1 k
  refine W.gen' (fun G2=>G2 (nx1+0) = .box [.imm (.int .i64 op'), .imm (sv name'), .imm (.int .i64 m'), .imm (.int .i64 fold'), .imm (.lst (Trm.ivs calcs')), .imm (.lst (Exp.ivs kids'))] false/\G2 q=lp1/\∀ o,o < nx1->o≠q->G2 o=G1 o) ⟨at_upd,at_upd,fun o _ _=>at_upd⟩ ?_
  rintro G2 ⟨hbx,hlp2,hfr2⟩
  have hM2:G2 M=setObj out1:=(hfr2 M (by omega) (by omega)).trans h2
  have hbs2:=(hfr2 sb (by omega) (by omega)).trans hbs
  have hbo2:=(hfr2 ob (by omega) (by omega)).trans hbo
  have hbl2:=(hfr2 lb (by omega) (by omega)).trans hbl
  have hset2:lookIs (some ty3) (some ty4) (mapKV G2 (.map M)) (natIV k) false (.imm (.bool (out1.contains k))):=by
   simp only [mapKV,hM2,setObj];exact hset
  have hnext:∀ {f':Nat} {G3:Nat->Obj} {nx3:Nat} {l3:Env} {out3:List Nat},nx1<=nx3->(∀ o,o < nx1->o≠M->G3 o=G2 o)->G3 M=setObj out3->Dfs tos d (stepsN (defNames p) (List.take i (allE (Exp.mk op name n' fold calcs kids)))++if namesDef (Exp.mk op' name' m' fold' calcs' kids')=true then [k] else []) out out3 ->
    W CC f' Go.Proofs.Tryz.f129.ntmps .skip l3 G3 nx3 [] .rnd Φr:=by
   intro f' G3 nx3 l3 out3 g1 g2 g3 g4
   refine next g1 (fun o g5 g6=>?_) ⟨fun o g5 g6=>?_,out3,g3,g4⟩ ((g2 q (by omega) (by omega)).trans hlp2)
   ·rw [g2 o (by omega) (by omega),hfr2 o (by omega) (by omega)]
   ·rw [g2 o (by omega) g6,hfr2 o (by omega) (by omega),h1 o g5 g6]
  clear hset hbs hbo hbl h2 hlp next
  have hcase:((op' != 2)=true/\(op' != 3)=true)\/((op' != 2)=false\/((op' != 2)=true/\(op' != 3)=false)):=by
   cases op' != 2<;>cases op' != 3<;>simp
  rcases hcase with ⟨hA,hB⟩|hyes
  ·have hnd:namesDef (.mk op' name' m' fold' calcs' kids')=false:=by
    show (op'==2||op'==3)=false
    simp at hA hB
    simp [hA,hB]
   rw [hnd,if_neg (by decide),List.append_nil] at hnext
   refine AN ?_
   exact hnext (by omega) (fun o _ _=>rfl) hM2 h3
  ·have hnd:namesDef (.mk op' name' m' fold' calcs' kids')=true:=by
    show (op'==2||op'==3)=true
    simp at hyes
    rcases hyes with h|⟨_,h⟩<;>simp [h]
   rw [hnd,if_pos rfl] at hnext
   have hmem:=hmem hnd
   rcases Bool.eq_false_or_eq_true (out1.contains k) with hC|hC
   ·have hC':(!out1.contains k)=false:=by rw [hC];rfl
    rcases hyes with hA|⟨hA,hB⟩
    all_goals
     refine AN ?_
     exact hnext (by omega) (fun o _ _=>rfl) hM2 (h3.skip (by simpa using hC))
   ·have hC':(!out1.contains k)=true:=by rw [hC];rfl
    have hnk:k∉out1:=by simpa using hC
    have hkl:=hlt k hmem
    obtain ⟨e1,e2⟩:=h3.start hnk hkl
    have hle:=nodup_lt e1 e2
    rw [List.length_append] at hle
    simp only [List.length_cons,List.length_nil] at hle
    rcases hyes with hA|⟨hA,hB⟩
    all_goals
     refine AN ?_
     refine R.opN1 (O.mapNew rfl inferInstance rfl rfl rfl hM2 rfl (setNew hC)) ?_
     refine R.done ?_
     refine AN ?_
     refine R.callBP rfl rfl rfl rfl rfl ((ih (tos.length-(out1.length+1)) (by have:=h3.ext;obtain ⟨new,hnew⟩:=this;rw [hnew,List.length_append] at hle ⊢;omega) k (out1++[k]) M pb sb ob lb _ _ (by simp) e1 e2 hkl (hL.fr (by omega) fun o g5 g6=>?_) ?_).mono fun r hr=>?_)
     ·rw [upd_ne _ _ _ _ g6,hfr2 o (by omega) (by omega),h1 o g5 g6]
     ·rw [upd_same,setObj_add]
     cases r with
     |pan u G4 nx4=>exact hr.elim
     |ret v G4 nx4=>
      obtain ⟨rfl,g1,g2,out2,g3,g4⟩:=hr
      refine AN ?_
      exact hnext (by omega) (fun o g5 g6=>by rw [g2 o (by omega) g6,upd_ne _ _ _ _ g6]) g3 (h3.step hmem g4)
 ·rintro G1 nx1 ⟨h1,out1,h2,h3⟩ hn
  rw [List.take_length,<-hat] at h3
  refine AN ?_
  exact W.skipFinP rfl ⟨rfl,by omega,h1,out1,h2,h3⟩
 ·intro _ _ h;exact h.elim
 ·intro _ _ _ h;exact h.elim
theorem ret47 {p:Pgm} (hp:p.Fits) {tos:List (List Nat)} (ht:Tos p tos) (ahead n:Int) {d:Nat} (hd:d < tos.length) :
  ∃ out,out.Nodup/\(∀ x∈out,x < tos.length)/\(∀ x,x∈out↔Reach tos d x)/\Ret CC 68 [scopeIV p ahead n,p.iv,natIV d] (setIV out):=by
 have key:Cal CC 68 ([scopeIV p ahead n,p.iv,natIV d].map .imm) (fun _ => .gone) 0 fun v G' _=>∃ out,Dfs tos d (tos.getD d []) [] out/\∃ ids,peek G' pkDepth v=some (setIV out,ids):=by
  obtain ⟨srcs,defs⟩:=p
  refine Cal.of (fn:=Go.Proofs.Tryz.f68) (by kernel_rfl) rfl rfl ?_
  refine AA ?_
  refine R.callBP rfl rfl rfl rfl rfl ((cal78 hp ht (ahead:=ahead) (n:=n) tos.length d [] (0+3+0) (0+1) (0+0) (0+3+1) (0+3+3+0) _ _ (by simp) (by simp) (by simp) hd ⟨rfl,rfl,rfl,rfl,by omega⟩ rfl).mono fun r hr=>?_)
  cases r with
  |pan u G4 nx4=>exact hr.elim
  |ret v G4 nx4=>
   obtain ⟨rfl,g1,g2,out2,g3,g4⟩:=hr
   have g5:G4 (0+3+1) = .box [.map (0+3+0)] false:=(g2 _ (by omega) (by omega)).trans rfl
   refine AN ?_
   exact W.retFin1 rfl ⟨out2,g4,peek_mp g3⟩
 obtain ⟨n',v,G',nx',h1,out,h2,ids,h3⟩:=key
 exact ⟨out,h2.nodup,h2.bnd,h2.fin,n',v,G',nx',_,ids,h1,h3⟩
end Go.Abs

/- Rings, and what reaches itself; names that are fresh, and different. (No program in sight.) -/
open Go Go.Abs
namespace Go.Abs
set_option maxRecDepth 100000
/-! ### different names -/
theorem getD_append_left {a b:List Str} {i:Nat} (h:i < a.length):(a++b).getD i []=a.getD i []:=by
 simp [List.getD_eq_getElem?_getD,List.getElem?_append_left h]
theorem getD_append_right {a b:List Str} {i:Nat}:(a++b).getD (a.length+i) []=b.getD i []:=by
 simp [List.getD_eq_getElem?_getD,List.getElem?_append_right]
theorem diff_append (a b:List Str):diff (a++b)=(fresh [] a&&fresh a b):=by
 unfold diff fresh
 rw [List.length_append,List.range_add,List.all_append,List.all_map]
 congr 1
 ·rw [Bool.eq_iff_iff,List.all_eq_true,List.all_eq_true]
  constructor <;>
  ·intro h i hi
   have hl:i < a.length:=by simpa using hi
   have:=h i hi
   unfold okAt at *
   rw [getD_append_left hl,List.take_append_of_le_length (by omega)] at *
   simpa using this
 ·have key:∀ i,i < b.length->(nameOk ((a++b).getD (a.length+i) []) && !((a++b).take (a.length+i)).contains ((a++b).getD (a.length+i) []))=okAt a b i:=by
   intro i hi
   unfold okAt
   rw [getD_append_right,List.take_append,List.take_of_length_le (show a.length<=a.length+i by omega),show a.length+i-a.length=i by omega,Bool.and_assoc]
   congr 1
   rw [Bool.eq_iff_iff]
   simp
   exact And.comm
  rw [Bool.eq_iff_iff,List.all_eq_true,List.all_eq_true]
  constructor
  ·intro h i hi
   rw [<-key i (by simpa using hi)];exact h i hi
  ·intro h i hi
   exact (key i (by simpa using hi)).trans (h i hi)
/-! ### what definitions name -/
theorem idxFrom_idxN {s:Str}:∀ {l:List Str} {k:Nat},s∈l->idxFrom l s k=((k+idxN l s:Nat):Int)
 |[],_,h=>by cases h
 |x::r,k,h=>by
  unfold idxFrom idxN
  rw [List.findIdx?_cons]
  by_cases hx:(x==s)=true
  ·rw [if_pos hx,if_pos (by rw [idxFrom_sym];exact hx)];rfl
  ·have hx':¬ (s==x)=true:=by rw [idxFrom_sym];exact hx
   have hs:s∈r:=by
    rcases List.mem_cons.1 h with h|h
    ·exact absurd (by rw [h];simp) hx
    ·exact h
   rw [if_neg hx,if_neg hx',idxFrom_idxN hs]
   have:=findIdx_contains s r
   have hc:r.contains s=true:=by simpa using hs
   rw [hc] at this
   unfold idxN
   cases hf:r.findIdx? fun x=>s==x with
   |none=>rw [hf] at this;cases this
   |some j=>simp;omega
theorem idxN_lt {s:Str} {l:List Str} (h:s∈l):idxN l s < l.length:=by
 have:=findIdx_contains s l
 have hc:l.contains s=true:=by simpa using h
 rw [hc] at this
 unfold idxN
 cases hf:l.findIdx? fun x=>s==x with
 |none=>rw [hf] at this;cases this
 |some j=>exact findIdx_lt hf
theorem Pgm.Good.tos {p:Pgm} (h:p.Good):Tos p (tosR p):=by
 have hl:(tosR p).length=p.defs.length:=h.steps.2.1
 have hnl:(defNames p).length=p.defs.length:=by have:=h.defs;simp [defNames];omega
 refine ⟨hl,fun i d hd=>?_,fun i d hd k hk=>?_⟩
 ·unfold tosR stepsR
  rw [List.getD_eq_getElem?_getD,List.map_map,List.getElem?_map,hd]
  simp only [Option.map_some,Option.getD_some,Function.comp,stepsL,stepsN,List.map_map]
  apply List.map_congr_left
  intro x hx
  rw [List.mem_filter] at hx
  have:=h.names d (List.mem_of_getElem? hd) x hx.1 hx.2
  simp only [Function.comp]
  rw [idxFrom_idxN this]
  omega
 ·simp only [stepsN,List.mem_map,List.mem_filter] at hk
  obtain ⟨x,⟨hx,hn⟩,rfl⟩:=hk
  rw [hl,<-hnl]
  exact idxN_lt (h.names d (List.mem_of_getElem? hd) x hx hn)
/-! ### rings, and what reaches itself -/
theorem at2_reach {tos:List (List Nat)} {i j:Nat} (hi:i < tos.length) (hj:j < tos.length):at2 (reachR tos) i j=reachB tos i j:=by
 unfold at2 reachR reachRow
 simp [List.getD_eq_getElem?_getD,hi,hj]
theorem inRing_iff {tos:List (List Nat)} {i j:Nat} (hi:i < tos.length) (hj:j < tos.length):inRing (reachR tos) i j=true↔j=i\/(Reach tos i j/\Reach tos j i):=by
 unfold inRing
 rw [at2_reach hi hj,at2_reach hj hi]
 simp [reachB_iff]
theorem mem_ringTo {tos:List (List Nat)} {i j:Nat} (hi:i < tos.length):j∈ringTo (reachR tos) i tos.length↔j < tos.length/\(j=i\/(Reach tos i j/\Reach tos j i)):=by
 unfold ringTo
 rw [List.mem_filter,List.mem_range]
 constructor
 ·intro ⟨h1,h2⟩;exact ⟨h1,(inRing_iff hi h1).1 h2⟩
 ·intro ⟨h1,h2⟩;exact ⟨h1,(inRing_iff hi h1).2 h2⟩
theorem ringTo_same {tos:List (List Nat)} {i j:Nat} (hi:i < tos.length) (hj:j < tos.length) (h1:Reach tos i j) (h2:Reach tos j i):ringTo (reachR tos) i tos.length=ringTo (reachR tos) j tos.length:=by
 unfold ringTo
 apply List.filter_congr
 intro k hk
 rw [List.mem_range] at hk
 rw [Bool.eq_iff_iff,inRing_iff hi hk,inRing_iff hj hk]
 constructor
 ·rintro (rfl|⟨a,b⟩)
  ·exact .inr ⟨h2,h1⟩
  ·exact .inr ⟨h2.trans a,b.trans h1⟩
 ·rintro (rfl|⟨a,b⟩)
  ·exact .inr ⟨h1,h2⟩
  ·exact .inr ⟨h1.trans a,b.trans h2⟩
theorem rings_mem {tos:List (List Nat)} {k:Nat}:(∃ r∈ringsR (reachR tos),k∈r)↔k < tos.length/\Reach tos k k:=by
 have hlen:=reachR_len tos
 unfold ringsR ringsTo
 rw [hlen]
 constructor
 ·rintro ⟨r,hr,hk⟩
  rw [List.mem_map] at hr
  obtain ⟨i,hi,rfl⟩:=hr
  rw [List.mem_filter,List.mem_range] at hi
  obtain ⟨hi,his⟩:=hi
  unfold ringIs at his
  rw [Bool.and_eq_true,at2_reach hi hi,reachB_iff] at his
  obtain ⟨h1,h2⟩:=(mem_ringTo hi).1 hk
  refine ⟨h1,?_⟩
  rcases h2 with rfl|⟨a,b⟩
  ·exact his.1
  ·exact b.trans a
 ·rintro ⟨hk,hr⟩
  have hmem:k∈ringTo (reachR tos) k tos.length:=(mem_ringTo hk).2 ⟨hk, .inl rfl⟩
  cases hc:ringTo (reachR tos) k tos.length with
  |nil=>rw [hc] at hmem;cases hmem
  |cons i r=>
   have hi:i∈ringTo (reachR tos) k tos.length:=by rw [hc];simp
   obtain ⟨h1,h2⟩:=(mem_ringTo hk).1 hi
   have h3:Reach tos k i/\Reach tos i k:=by
    rcases h2 with rfl|h2
    ·exact ⟨hr,hr⟩
    ·exact h2
   have hs:=ringTo_same hk h1 h3.1 h3.2
   refine ⟨ringTo (reachR tos) i tos.length,?_,by rw [<-hs];exact hmem⟩
   rw [List.mem_map]
   refine ⟨i,?_,rfl⟩
   rw [List.mem_filter,List.mem_range]
   refine ⟨h1,?_⟩
   unfold ringIs
   rw [hlen,at2_reach h1 h1,<-hs,hc]
   simp [reachB_iff.2 (h3.2.trans h3.1)]
theorem progR_eq {p:Pgm} (hc:0<=countR p):progR p=true↔∀ i,i < p.defs.length->Reach (tosR p) i i->foreAt p.defs i=false:=by
 have hg:=countR_good hc
 have hl:(tosR p).length=p.defs.length:=hg.steps.2.1
 unfold progR ringsOf
 rw [if_neg (by omega),List.all_eq_true]
 constructor
 ·intro h i hi hr
  obtain ⟨r,h1,h2⟩:=rings_mem.2 ⟨by rw [hl];exact hi,hr⟩
  have:=List.all_eq_true.1 (h r h1) i h2
  simpa using this
 ·intro h r hr
  rw [List.all_eq_true]
  intro k hk
  obtain ⟨h1,h2⟩:=rings_mem.1 ⟨r,hr,hk⟩
  rw [h k (by rw [<-hl];exact h1) h2];rfl
end Go.Abs

/- Programs that are looked at: which ones are formed. -/
open Go Go.Abs
namespace Go.Abs
set_option maxRecDepth 100000
set_option maxHeartbeats 4000000
def ty20:TyI:={ d:=TyD.ifc,sz:=1,bytes:=16,zero:=AV.imm IV.niliface }
instance tyis20:TyIs CC 20 ty20:=⟨by kernel_rfl⟩
def ty115:TyI:={ d:=TyD.st [],sz:=0,bytes:=0,zero:=AV.imm (IV.agg []) }
instance tyis115:TyIs CC 175 ty115:=⟨by kernel_rfl⟩
instance fnis54:FnIs CC 49:=⟨rfl,fun _=>rfl⟩
theorem cal85n {rb nx:Nat} {G:Nat->Obj}:CalD CC 102 [.ptr rb 0] none G nx fun _ G' nx'=>G'=G/\nx<=nx':=by
 refine CalD.of (fn:=Go.Proofs.Tryz.f102) (by kernel_rfl) rfl rfl rfl ?_
 refine AN ?_
 refine R.op0 O.recoverN rfl ?_
 refine AN ?_
 refine R.op0 (O.ifcNil rfl rfl rfl rfl) rfl ?_
 refine AN ?_
 exact W.skipFinDf ⟨rfl,by omega⟩
theorem cal85p {rb nx:Nat} {G:Nat->Obj} {u:AV} (hG:G rb = .box [u] false) (hr:rb < nx):CalD CC 102 [.ptr rb 0] (some unf) G nx fun x G' _=>x=true/\G' rb = .box [.imm .nilp] false:=by
 refine CalD.of (fn:=Go.Proofs.Tryz.f102) (by kernel_rfl) rfl rfl rfl ?_
 refine AN ?_
 refine R.recover rfl ?_
 refine AN ?_
 refine R.op0 (O.ifcSome rfl rfl rfl) rfl ?_
 refine AN ?_
 refine R.op0 (O.typeIs rfl ⟨(fun h=>by cases h),(fun h=>by cases h)⟩) rfl ?_
 refine AN ?_
 exact W.skipFinDf ⟨rfl,at_upd⟩
noncomputable def lookedIV (p:Pgm):IV:=if progR p then scopeIV p ((p.defs.length-1:Nat):Int) (countR p) else .nilp
theorem ret54 (p:Pgm) (hp:p.Fits):Ret CC 49 [p.iv] (lookedIV p):=by
 refine Cal.ret ?_
 have hsl:p.srcs.length<=9223372036854775807:=hp.srcs
 have hdl:p.defs.length<=9223372036854775807:=hp.defs
 have hdn:defNames p=(p.defs.take 7).map Dfn.name:=rfl
 generalize hres:lookedIV p=res
 have hbad:progR p=false->res = .nilp:=fun h=>by rw [<-hres];unfold lookedIV;rw [h];rfl
 have hgood:progR p=true->res=scopeIV p ((p.defs.length-1:Nat):Int) (countR p):=fun h=>by rw [<-hres];unfold lookedIV;rw [h];rfl
 clear hres
 refine Cal.ofD (fn:=Go.Proofs.Tryz.f49) (by kernel_rfl) rfl rfl ?_
 obtain ⟨srcs,defs⟩:=p
 simp only at hsl hdl
 have hsm:(srcs.map sv).length=srcs.length:=List.length_map ..
 have hdm:(defs.map Dfn.iv).length=defs.length:=List.length_map ..
 refine AN ?_
 refine R.defer rfl rfl rfl rfl ?_
 refine R.done ?_
 have bad:progR ⟨srcs,defs⟩=false->∀ {G:Nat->Obj} {nx:Nat} {l:Env} {u:AV},look l 2=some (.ptr 1 0)->G 1 = .box [u] false->2<=nx->∀ t',Agree t' l->finD CC Go.Proofs.Tryz.f49.results.toList (fun v G x=>∃ ids,peek G pkDepth v=some (res,ids)) (.pan unf ⟨t',G,nx,[(mkFn (.func 102) [.ptr (0+1) 0],[])], .no⟩):=by
  intro h G nx l u h1 h2 h3
  refine panD rfl rfl h1 rfl ?_
  obtain ⟨n,v,m',x,G',nx',g1,g2,g3⟩:=cal85p h2 (show 1 < nx by omega)
  exact ⟨n,v,m',x,G',nx',g1,g2,_,_,g3,[],by rw [hbad h];rfl⟩
 have hneg:countR ⟨srcs,defs⟩ < 0->progR ⟨srcs,defs⟩=false:=fun h=>by unfold progR;rw [if_pos h]
 have hlen:(srcs.length < 1\/4 < srcs.length\/6 < defs.length)->progR ⟨srcs,defs⟩=false:=fun h=>hneg (by unfold countR;rw [if_pos h];decide)
 have hr87:=ret87
 rcases Bool.eq_false_or_eq_true (decide (((srcs.map sv).length:Int) > 0)) with hA|hA
 rotate_left
 ·have hA':=of_decide_eq_false hA
  refine AN ?_
  exact R.callPan rfl rfl pan86 (bad (hlen (by omega)) rfl rfl (by omega))
 rcases Bool.eq_false_or_eq_true (decide (((srcs.map sv).length:Int)<=4)) with hB|hB
 rotate_left
 ·have hB':=of_decide_eq_false hB
  refine AN ?_
  exact R.callPan rfl rfl pan86 (bad (hlen (by omega)) rfl rfl (by omega))
 rcases Bool.eq_false_or_eq_true (decide (((defs.map Dfn.iv).length:Int)<=6)) with hC|hC
 rotate_left
 ·have hC':=of_decide_eq_false hC
  refine AN ?_
  exact R.callPan rfl rfl (panM hC) (bad (hlen (by omega)) rfl rfl (by omega))
 have hA':=of_decide_eq_true hA
 have hB':=of_decide_eq_true hB
 have hC':=of_decide_eq_true hC
 have hr:=retM hC
 have hdn:defNames ⟨srcs,defs⟩=defs.map Dfn.name:=by rw [hdn];show (defs.take 7).map _=_;rw [List.take_of_length_le (by omega)]
 refine A1 ?_
 refine A1 ?_
 have hcr:countR ⟨srcs,defs⟩=if diff (srcs++defs.map Dfn.name) then countL srcs (defs.map Dfn.name) defs 0 0 else -1:=by
  unfold countR;rw [if_neg (show ¬ (srcs.length < 1\/4 < srcs.length\/6 < defs.length) by omega),hdn]
 rw [diff_append] at hcr
 obtain ⟨f1,f2⟩:=ret88 (l:=srcs) others_nil hsl hp.src
 rcases Bool.eq_false_or_eq_true (fresh [] srcs) with hF|hF
 rotate_left
 ·refine W.seqR ?_
  refine W.drawXN ?_
  refine AX ?_
  exact DX.callPan rfl rfl (f2 hF) rfl (by kernel_rfl) (bad (hneg (by rw [hcr,hF];simp)) rfl rfl (by omega))
 have hr88:=f1 hF
 refine W.seqR ?_
 refine W.drawN ?_
 refine AD ?_
 refine D.done (by kernel_rfl) ?_
 have hr75:=ret75 defs (by omega)
 obtain ⟨g1,g2⟩:=ret88 (l:=defs.map Dfn.name) (others_num srcs) (by rw [List.length_map];omega) (fun s hs=>by obtain ⟨d,hd,rfl⟩:=List.mem_map.1 hs;exact hp.name d hd)
 rcases Bool.eq_false_or_eq_true (fresh srcs (defs.map Dfn.name)) with hG|hG
 rotate_left
 ·refine W.seqR ?_
  refine W.drawXN ?_
  refine AX ?_
  exact DX.callPan rfl rfl (g2 hG) rfl (by kernel_rfl) (bad (hneg (by rw [hcr,hF,hG];simp)) rfl rfl (by omega))
 have hr88':=g1 hG
 refine W.seqR ?_
 refine W.drawN ?_
 refine AD ?_
 refine D.done (by kernel_rfl) ?_
 rw [hF,hG] at hcr
 simp only [Bool.and_self,if_true] at hcr
 have hnm:(defs.map Dfn.name).length=defs.length:=List.length_map ..
 have hfor:∀ i d,defs[i]? = some d->foreAt defs i=(allE d.exp).any Exp.fore:=fun i d h=>by unfold foreAt;rw [h];rfl
 have hpq:0<=countR ⟨srcs,defs⟩->(progR ⟨srcs,defs⟩=true↔∀ i,i < defs.length->Reach (tosR ⟨srcs,defs⟩) i i->foreAt defs i=false):=fun h=>progR_eq h
 have hgd:0<=countR ⟨srcs,defs⟩->Pgm.Good ⟨srcs,defs⟩:=fun h=>countR_good h
 have hfit:=hp.exp
 simp only at hfit
 have hsc:∀ n:Int,scopeIV ⟨srcs,defs⟩ ((defs.length-1:Nat):Int) n = .fptr [numIV srcs,numIV (defs.map Dfn.name),shapesIV, .int .i64 ((defs.length-1:Nat):Int), .int .i64 n] 0:=fun n=>by unfold scopeIV;rw [hdn]
 generalize hnames:defs.map Dfn.name=names at *
 refine AN ?_
 refine W.loop (X:=Nat×Int) (fun x=>[(1, .ptr 0 0),(2, .ptr 1 0),(50, .imm (.lst (defs.map Dfn.iv))),(51, .imm (.int .i64 (defs.map Dfn.iv).length)),(52, .imm (.int .i64 x.1))])
  (fun x nx G=>24<=nx/\G 0 = .box [.imm (.lst (srcs.map sv)), .imm (.lst (defs.map Dfn.iv))] false/\G 1 = .box [.ptr 23 0] false/\G 23 = .box [.imm (numIV srcs), .imm (numIV names), .imm shapesIV, .imm (.int .i64 ((x.1-1:Nat):Int)), .imm (.int .i64 x.2)] false /\
   x.1<=defs.length/\(0<=x.2/\x.2<=60)/\countR ⟨srcs,defs⟩=countL srcs names (defs.drop x.1) x.1 x.2)
  (fun x=>defs.length-x.1) (0,0) .auto ⟨by omega,rfl,rfl,rfl,Nat.zero_le _,by decide,hcr⟩ ?_
 clear f1 f2 g1 g2 hr88 hr88' hr75 hr87 hcr hlen hA hB hC hF hG hr
 rintro ⟨i,m⟩ nx G ⟨hnx,hG0,hG1,hG2,hi,hm,he⟩
 dsimp only at hG2 hi hm he ⊢
 rcases Bool.eq_false_or_eq_true (decide ((i:Int) < ((defs.map Dfn.iv).length:Int))) with hc|hc
 ·have hlt:i < defs.length:=by have:=of_decide_eq_true hc;omega
  obtain ⟨d,hx⟩:=at_lt hlt
  have hxi:=at_map Dfn.iv hx
  have hdc:=d.cells_len
  have hmu:defs.length-(i+1) < defs.length-i:=by omega
  have hcal:=fun nx G h1 h2=>@cal89 23 srcs names i d.exp (hfit d (List.mem_of_getElem? hx)) nx G m 1 h1 h2 hm (by omega)
  have hle:=(expR_le srcs names i d.exp 1 (60-m)).2
  rw [countL_drop srcs names hx] at he
  obtain ⟨nm,⟨o',s',n',f',c',k'⟩⟩:=d
  refine AN ?_
  refine R.callBP rfl rfl rfl rfl rfl ((hcal _ _ at_upd (by omega)).mono fun r hr=>?_)
  cases r with
  |pan u G' nx'=>
   obtain ⟨rfl,g1,g2,g3⟩:=hr
   rw [if_pos g1] at he
   exact bad (hneg (by rw [he];decide)) rfl ((g3 1 (by omega) (by decide)).trans at_upd) (by omega)
  |ret v G' nx'=>
   obtain ⟨rfl,g1,g2,g3,g4⟩:=hr
   rw [if_neg (by omega)] at he
   refine AN ?_
   exact W.skipLop (i+1,m+expR srcs names i (.mk o' s' n' f' c' k') 1 (60-m)) hmu .auto ⟨by omega,(g4 0 (by omega) (by decide)).trans at_upd,(g4 1 (by omega) (by decide)).trans at_upd,g2,hlt,by have:=hle g1;dsimp only at *;omega,he⟩
 have hge:defs.length<=i:=by have:=of_decide_eq_false hc;omega
 have hil:i=defs.length:=by omega
 subst hil
 rw [List.drop_eq_nil_of_le hge,countL] at he
 have h0:0<=countR ⟨srcs,defs⟩:=by omega
 have hpq:=hpq h0
 have hgd:=hgd h0
 have htos:=hgd.tos
 have htl:(tosR ⟨srcs,defs⟩).length=defs.length:=htos.len
 clear hneg
 have hgood2:(∀ i,i < defs.length->Reach (tosR ⟨srcs,defs⟩) i i->foreAt defs i=false)->res = .fptr [numIV srcs,numIV names,shapesIV, .int .i64 ((defs.length-1:Nat):Int), .int .i64 m] 0:=fun h=>by
  rw [hgood (hpq.2 h),<-hsc,he]
 have hbad2:∀ i,i < defs.length->Reach (tosR ⟨srcs,defs⟩) i i->foreAt defs i=true->progR ⟨srcs,defs⟩=false:=fun i h1 h2 h3=>by
  rw [Bool.eq_false_iff]
  intro h
  rw [hpq.1 h i h1 h2] at h3
  cases h3
 have hreach:=fun (d:Nat) (h:d < defs.length)=>ret47 hp htos ((defs.length-1:Nat):Int) m (d:=d) (by rw [htl];exact h)
 rw [hsc] at hreach
 generalize tosR ⟨srcs,defs⟩=tos at *
 refine AN ?_
 refine W.loop (X:=Nat) (fun i=>[(1, .ptr 0 0),(2, .ptr 1 0),(67, .imm (.lst (defs.map Dfn.iv))),(68, .imm (.int .i64 (defs.map Dfn.iv).length)),(69, .imm (.int .i64 i))])
  (fun i nx G=>24<=nx/\G 0 = .box [.imm (.lst (srcs.map sv)), .imm (.lst (defs.map Dfn.iv))] false/\G 1 = .box [.ptr 23 0] false/\(∃ fr,G 23 = .box ([numIV srcs,numIV names,shapesIV, .int .i64 ((defs.length-1:Nat):Int), .int .i64 m].map .imm) fr) /\
   i<=defs.length/\∀ j,j < i->Reach tos j j->foreAt defs j=false)
  (fun i=>defs.length-i) 0 .auto ⟨by omega,hG0,hG1,⟨false,hG2⟩,Nat.zero_le _,fun j h=>by omega⟩ ?_
 clear hG0 hG1 hG2 hnx hi hc hge nx G he
 rintro i nx G ⟨hnx,hG0,hG1,⟨fr,hG2⟩,hi,hall⟩
 rcases Bool.eq_false_or_eq_true (decide ((i:Int) < ((defs.map Dfn.iv).length:Int))) with hc|hc
 ·have hlt:i < defs.length:=by have:=of_decide_eq_true hc;omega
  obtain ⟨d,hx⟩:=at_lt hlt
  have hxi:=at_map Dfn.iv hx
  have hdc:=d.cells_len
  have hmu:defs.length-(i+1) < defs.length-i:=by omega
  have hf:=hfit d (List.mem_of_getElem? hx)
  have hfo:=hfor i d hx
  obtain ⟨out,ho1,ho2,ho3,hr47⟩:=hreach i hlt
  have hset:=setLook out i
  have hr49:=ret49 d.exp
  obtain ⟨nm,⟨o',s',n',f',c',k'⟩⟩:=d
  refine AN ?_
  refine R.opU (O.callFz (ids:=[23]) rfl ?_ hr47 rfl) rfl ?_
  ·exact peeks_cons (vs:=[(Pgm.mk srcs defs).iv,natIV i]) (peek_box (fr:=fr) (by exact at_upd))
  refine R.gen' (fun G2=>G2 0 = .box [.imm (.lst (srcs.map sv)), .imm (.lst (defs.map Dfn.iv))] false/\G2 1 = .box [.ptr 23 0] false/\G2 23 = .box ([numIV srcs,numIV names,shapesIV, .int .i64 ((defs.length-1:Nat):Int), .int .i64 m].map .imm) true /\
   G2 (nx+1+3) = .box [.imm (sv nm), .imm (.int .i64 o'), .imm (sv s'), .imm (.int .i64 n'), .imm (.int .i64 f'), .imm (.lst (Trm.ivs c')), .imm (.lst (Exp.ivs k'))] false) ⟨?_,?_,frz1 (fr:=fr) at_upd,?_⟩ ?_
  iterate 3 exact (frz1_ne (by omega)).trans at_upd
  clear hG0 hG1 hG2 G
  rintro G ⟨hG0,hG1,hG2,hG3⟩
  have hmem:out.contains i=true->Reach tos i i:=fun h=>(ho3 i).1 (by simpa using h)
  have hnmem:out.contains i=false->¬ Reach tos i i:=fun h hr=>by
   have:=(ho3 i).2 hr
   simp [this] at h
  rcases Bool.eq_false_or_eq_true (out.contains i) with hC|hC
  ·have hri:=hmem hC
   refine AN ?_
   refine W.nodes _ hf (fun k G1=>(∀ o,o < nx->G1 o=G o)/\((allE (.mk o' s' n' f' c' k')).take k).any Exp.fore=false) (fun _=>False) (fun u G1 nx1=>u=unf/\nx<=nx1/\(∀ o,o < nx->G1 o=G o)/\foreAt defs i=true)
    rfl rfl rfl rfl rfl ?_ ?_ ?_ ?_ ?_ ?_ ?_
   ·rintro k G1 G2 ⟨h1,h2⟩ h3
    exact ⟨fun o h=>(h3 o (by omega)).trans (h1 o h),h2⟩
   ·intro _ _ h;exact h.elim
   ·exact ⟨fun _ _=>rfl,rfl⟩
   ·rintro q k x G1 nx1 lp0 lp1 Φr hq hxa hn ⟨h1,h2⟩ hlp next _ hpn
    have htk:=fun h=>any_take (p:=Exp.fore) hxa h2 h
    have hany:=fun h=>any_at (p:=Exp.fore) hxa h
    obtain ⟨op',name',m',fold',calcs',kids'⟩:=x
    refine W.regionN ?_
    refine AQ ?_
    refine R.doneAstQ at_upd ?_
    refine W.gen' (fun G2=>G2 (nx1+0) = .box [.imm (.int .i64 op'), .imm (sv name'), .imm (.int .i64 m'), .imm (.int .i64 fold'), .imm (.lst (Trm.ivs calcs')), .imm (.lst (Exp.ivs kids'))] false/\G2 q=lp1/\∀ o,o < nx1->o≠q->G2 o=G1 o) ⟨at_upd,at_upd,fun o _ _=>at_upd⟩ ?_
    rintro G2 ⟨hbx,hlp2,hfr2⟩
    have hfr3:∀ o,o < nx->G2 o=G o:=fun o h=>(hfr2 o (by omega) (by omega)).trans (h1 o h)
    have hfr4:∀ o,q+2<=o->o < nx1->G2 o=G1 o:=fun o h h'=>hfr2 o h' (by omega)
    rcases Bool.eq_false_or_eq_true (op' != 14) with hP|hP
    ·rcases Bool.eq_false_or_eq_true (op' != 7) with hQ|hQ
     ·have hr:=retM (b:=true) rfl
      refine AN ?_
      refine next (by omega) hfr4 ⟨hfr3,htk ?_⟩ hlp2
      show (op'==14||(op'==7&&decide (m' < 0)))=false
      simp at hP hQ
      simp [hP,hQ]
     ·rcases Bool.eq_false_or_eq_true (decide (m'>=0)) with hR|hR
      ·have hr:=retM hR
       refine AN ?_
       refine next (by omega) hfr4 ⟨hfr3,htk ?_⟩ hlp2
       show (op'==14||(op'==7&&decide (m' < 0)))=false
       simp at hP hR
       simp [hP,hR]
      ·refine AN ?_
       refine R.callPan rfl rfl (panM hR) (hpn ⟨rfl,by omega,hfr3,?_⟩)
       rw [hfo]
       apply hany
       show (op'==14||(op'==7&&decide (m' < 0)))=true
       simp at hQ hR
       simp [hQ,hR]
    ·refine AN ?_
     refine R.callPan rfl rfl pan86 (hpn ⟨rfl,by omega,hfr3,?_⟩)
     rw [hfo]
     apply hany
     show (op'==14||(op'==7&&decide (m' < 0)))=true
     simp at hP
     simp [hP]
   ·rintro G1 nx1 ⟨h1,h2⟩ hn
    rw [List.take_length] at h2
    refine AN ?_
    refine W.skipLop (i+1) hmu .auto ⟨by omega,(h1 0 (by omega)).trans hG0,(h1 1 (by omega)).trans hG1,⟨true,(h1 23 (by omega)).trans hG2⟩,hlt,fun j h3 h4=>?_⟩
    by_cases hj:j=i
    ·subst hj;rw [hfo];exact h2
    ·exact hall j (by omega) h4
   ·intro _ _ h;exact h.elim
   ·rintro u G1 nx1 ⟨rfl,h1,h2,h3⟩
    exact bad (hbad2 i hlt hri h3) rfl ((h2 1 (by omega)).trans hG1) (by omega)
  ·have hnr:=hnmem hC
   refine AN ?_
   refine W.skipLop (i+1) hmu .auto ⟨by omega,hG0,hG1,⟨true,hG2⟩,hlt,fun j h3 h4=>?_⟩
   by_cases hj:j=i
   ·subst hj;exact absurd h4 hnr
   ·exact hall j (by omega) h4
 ·have hge:defs.length<=i:=by have:=of_decide_eq_false hc;omega
  have hres:=hgood2 fun j h1 h2=>hall j (by omega) h2
  refine AN ?_
  refine W.retFinD rfl rfl rfl rfl ?_
  obtain ⟨n,v,m',x,G',nx',g1,rfl,g3⟩:=cal85n (rb:=1) (nx:=nx+1+2) (G:=upd G 1 (.box [.ptr 23 0] false))
  refine ⟨n,v,m',x,_,nx',g1,_,_,upd_same _ _ _,[23],?_⟩
  rw [hres]
  exact peek_box (fr:=fr) at_upd
end Go.Abs

/- TermChecks: the law. -/
open Go Go.Abs
namespace Go.Abs
set_option maxRecDepth 100000
set_option maxHeartbeats 4000000
instance fnis29:FnIs CC 74:=⟨rfl,fun _=>rfl⟩
instance fnis46:FnIs CC 70:=⟨rfl,fun _=>rfl⟩
theorem ret29 (p:Pgm) (hp:p.Fits):Ret CC 74 [p.iv] (.int .i64 (if progR p then 0 else 2)):=by
 have hr:=ret54 p hp
 unfold lookedIV at hr
 generalize progR p=b at *
 generalize countR p=n at *
 generalize ((p.defs.length-1:Nat):Int)=m at *
 obtain ⟨srcs,defs⟩:=p
 refine Ret.of (fn:=Go.Proofs.Tryz.f74) (by kernel_rfl) rfl rfl ?_
 cases b with
 |true=>
  rw [if_pos rfl] at hr
  refine AA ?_
  exact W.retFin1 rfl ⟨[],rfl⟩
 |false=>
  rw [if_neg (by decide)] at hr
  refine AA ?_
  exact W.retFin1 rfl ⟨[],rfl⟩
end Go.Abs

/- TermParts: nodes and depths. -/
open Go Go.Abs
namespace Go.Abs
set_option maxRecDepth 100000
set_option maxHeartbeats 4000000
/-! ### what is formed is short -/
mutual
theorem calcR_sm:∀ (c:Trm) (other:Bool) (depth left:Int),0<=calcR c other depth left->c.Sm
 | .mk op n kids,other,depth,left,h=>by
  rw [calcR] at h
  split at h
  ·omega
  ·cases hk:kidsOf op n other with
   |none=>rw [hk] at h;simp at h
   |some k=>
    rw [hk] at h
    dsimp only at h
    split at h
    ·omega
    ·rename_i h1
     have hk2:k<=2:=by
      unfold kidsOf at hk
      (repeat' split at hk)<;>cases hk<;>omega
     exact .mk op n kids (by omega) (calcRs_sm kids other depth left 1 h)
theorem calcRs_sm:∀ (l:List Trm) (other:Bool) (depth left n:Int),0<=calcRs l other depth left n->∀ c∈l,c.Sm
 |[],_,_,_,_,_,c,hc=>by cases hc
 |k::r,other,depth,left,n,h,c,hc=>by
  rw [calcRs] at h
  split at h
  ·omega
  ·rename_i h1
   rcases List.mem_cons.1 hc with he|hc
   ·rw [he];exact calcR_sm k other (depth+1) (left-n) (by omega)
   ·exact calcRs_sm r other depth left _ h c hc
end
theorem shape_le {op:Int} {s:Shp} (h:shapeR op=some s):s.calcs<=2/\s.kids<=2:=by
 rcases ops15 op with rfl|rfl|rfl|rfl|rfl|rfl|rfl|rfl|rfl|rfl|rfl|rfl|rfl|rfl|rfl|⟨n1,n2,n3,n4,n5,n6,n7,n8,n9,n10,n11,n12,n13,n14,n15⟩
 iterate 15 (cases h;decide)
 unfold shapeR at h
 simp [n1,n2,n3,n4,n5,n6,n7,n8,n9,n10,n11,n12,n13,n14,n15] at h
mutual
theorem expR_sm (srcs defs:List Str) (ahead:Nat):∀ (e:Exp) (depth left:Int),0<=expR srcs defs ahead e depth left->e.Sm
 | .mk op name n fold calcs kids,depth,left,h=>by
  rw [expR] at h
  cases hs:shapeR op with
  |none=>rw [hs] at h;simp at h
  |some s=>
   rw [hs] at h
   dsimp only at h
   split at h
   ·omega
   ·split at h
    ·rename_i hh
     split at h
     ·omega
     ·rename_i hc
      have hle:=shape_le hs
      unfold headIs at hh
      simp only [Bool.and_eq_true,beq_iff_eq] at hh
      exact .mk op name n fold calcs kids (by omega) (by omega) (calcRs_sm calcs (other op) 0 left 1 (by omega)) (expRs_sm srcs defs ahead kids depth left _ h)
    ·omega
theorem expRs_sm (srcs defs:List Str) (ahead:Nat):∀ (l:List Exp) (depth left n:Int),0<=expRs srcs defs ahead l depth left n->∀ e∈l,e.Sm
 |[],_,_,_,_,e,he=>by cases he
 |k::r,depth,left,n,h,e,he=>by
  rw [expRs] at h
  split at h
  ·omega
  ·rename_i h1
   rcases List.mem_cons.1 he with hk|he
   ·rw [hk];exact expR_sm srcs defs ahead k (depth+1) (left-n) (by omega)
   ·exact expRs_sm srcs defs ahead r depth left _ h e he
end
theorem countL_sm (srcs names:List Str):∀ (ds:List Dfn) (i:Nat) (n:Int),0<=countL srcs names ds i n->∀ d∈ds,d.exp.Sm
 |[],_,_,_,d,hd=>by cases hd
 |k::r,i,n,h,d,hd=>by
  rw [countL] at h
  split at h
  ·omega
  ·rename_i h1
   rcases List.mem_cons.1 hd with hk|hd
   ·rw [hk];exact expR_sm srcs names i k.exp 1 (60-n) (by omega)
   ·exact countL_sm srcs names r (i+1) _ h d hd
theorem countR_sm {p:Pgm} (h:0<=countR p):∀ d∈p.defs,d.exp.Sm:=by
 unfold countR at h
 split at h
 ·omega
 ·split at h
  ·exact countL_sm _ _ _ _ _ h
  ·omega
theorem progR_count {p:Pgm} (h:progR p=true):0<=countR p:=by
 unfold progR at h
 split at h
 ·cases h
 ·omega
noncomputable def hasR (p:Pgm) (d:Int):Bool:=progR p&&decide (d>=0)&&decide (d < (p.defs.length:Int))
theorem hasR_at {p:Pgm} {d:Int} (h:hasR p d=true):progR p=true/\∃ (n:Nat) (x:Dfn),d=(n:Int)/\p.defs[n]? = some x:=by
 unfold hasR at h
 simp only [Bool.and_eq_true,decide_eq_true_eq] at h
 obtain ⟨⟨h1,h2⟩,h3⟩:=h
 obtain ⟨x,hx⟩:=at_lt (l:=p.defs) (i:=d.toNat) (by omega)
 exact ⟨h1,d.toNat,x,by omega,hx⟩
theorem ret46 (p:Pgm) (hp:p.Fits) (d:Int):Ret CC 70 [p.iv, .int .i64 d] (.tup [lookedIV p, .bool (hasR p d)]):=by
 have hr:=ret54 p hp
 unfold lookedIV at hr ⊢
 unfold hasR
 generalize progR p=b at *
 generalize countR p=n at *
 generalize ((p.defs.length-1:Nat):Int)=m at *
 obtain ⟨srcs,defs⟩:=p
 have hdm:(defs.map Dfn.iv).length=defs.length:=List.length_map ..
 simp only
 rw [<-hdm]
 have bt:(!false)=true:=rfl
 have bf:(!true)=false:=rfl
 refine Ret.of (fn:=Go.Proofs.Tryz.f70) (by kernel_rfl) rfl rfl ?_
 cases b with
 |true=>
  rw [if_pos rfl] at hr ⊢
  rcases Bool.eq_false_or_eq_true (decide (d>=0)) with h1|h1
  ·refine AA ?_
   refine W.retFin2 rfl rfl ⟨[],?_⟩
   rw [h1];rfl
  ·refine AA ?_
   refine W.retFin2 rfl rfl ⟨[],?_⟩
   rw [h1];rfl
 |false=>
  rw [if_neg (by decide)] at hr ⊢
  refine AA ?_
  exact W.retFin2 rfl rfl ⟨[],rfl⟩
end Go.Abs

/- What each node of a formed program is like. -/
open Go Go.Abs
namespace Go.Abs
set_option maxRecDepth 100000
def NodeIs (srcs defs:List Str) (ahead:Nat) (x:Exp):Prop:=∃ s,shapeR x.op=some s/\headIs srcs defs ahead s x.op x.name x.n x.fold x.calcs.length x.kids.length=true
mutual
theorem expR_head (srcs defs:List Str) (ahead:Nat):∀ (e:Exp) (depth left:Int),0<=expR srcs defs ahead e depth left->∀ x∈allE e,NodeIs srcs defs ahead x
 | .mk op name n fold calcs kids,depth,left,h,x,hx=>by
  rw [expR] at h
  rw [allE] at hx
  cases hs:shapeR op with
  |none=>rw [hs] at h;simp at h
  |some s=>
   rw [hs] at h
   dsimp only at h
   split at h
   ·omega
   ·split at h
    ·rename_i hh
     split at h
     ·omega
     ·rcases List.mem_cons.1 hx with he|hx
      ·rw [he]
       exact ⟨s,hs,hh⟩
      ·exact expRs_head srcs defs ahead kids depth left _ h x hx
    ·omega
theorem expRs_head (srcs defs:List Str) (ahead:Nat):∀ (l:List Exp) (depth left n:Int),0<=expRs srcs defs ahead l depth left n->∀ x∈allEs l,NodeIs srcs defs ahead x
 |[],_,_,_,_,x,hx=>by cases hx
 |k::r,depth,left,n,h,x,hx=>by
  rw [expRs] at h
  rw [allEs] at hx
  split at h
  ·omega
  ·rcases List.mem_append.1 hx with hx|hx
   ·exact expR_head srcs defs ahead k (depth+1) (left-n) (by omega) x hx
   ·exact expRs_head srcs defs ahead r depth left _ h x hx
end
theorem countL_head (srcs names:List Str):∀ (ds:List Dfn) (i:Nat) (n:Int),0<=countL srcs names ds i n->∀ j d,ds[j]? = some d->∀ x∈allE d.exp,NodeIs srcs names (i+j) x
 |[],_,_,_,j,d,hd=>by simp at hd
 |k::r,i,n,h,j,d,hd=>by
  rw [countL] at h
  split at h
  ·omega
  ·cases j with
   |zero=>
    simp at hd
    subst hd
    exact expR_head srcs names i k.exp 1 (60-n) (by omega)
   |succ j=>
    have:=countL_head srcs names r (i+1) _ h j d (by simpa using hd)
    rwa [show i+1+j=i+(j+1) by omega] at this
theorem countR_parts {p:Pgm} (h:0<=countR p):(1<=p.srcs.length/\p.srcs.length<=4/\p.defs.length<=6)/\diff (p.srcs++defNames p)=true/\defNames p=p.defs.map Dfn.name/\∀ i d,p.defs[i]? = some d->∀ x∈allE d.exp,NodeIs p.srcs (defNames p) i x:=by
 unfold countR at h
 split at h
 ·omega
 ·rename_i h0
  split at h
  ·rename_i h1
   refine ⟨by omega,h1,?_,fun i d hd=>?_⟩
   ·unfold defNames
    rw [List.take_of_length_le (by omega)]
   ·have:=countL_head p.srcs (defNames p) p.defs 0 0 h i d hd
    rwa [Nat.zero_add] at this
  ·omega
theorem diff_get {l:List Str} (h:diff l=true) {i:Nat} {s:Str} (hi:l[i]? = some s):nameOk s=true/\s∉l.take i:=by
 unfold diff at h
 have hlt:=(List.getElem?_eq_some_iff.1 hi).1
 have:=List.all_eq_true.1 h i (List.mem_range.2 hlt)
 rw [show l.getD i []=s from by rw [List.getD_eq_getElem?_getD,hi];rfl] at this
 simp only [Bool.and_eq_true,Bool.not_eq_true'] at this
 exact ⟨this.1,by simpa using this.2⟩
theorem diff_nodup {l:List Str} (h:diff l=true):l.Nodup:=by
 refine List.pairwise_iff_getElem.2 fun i j hi hj hij he=>?_
 have hs:l[j]? = some l[j]:=List.getElem?_eq_getElem hj
 have:=(diff_get h hs).2
 exact this (List.mem_iff_getElem?.2 ⟨i,by rw [List.getElem?_take];simp [hij,he,hi]⟩)
theorem diff_mem {l:List Str} (h:diff l=true) {s:Str} (hs:s∈l):nameOk s=true:=by
 obtain ⟨i,hi⟩:=List.mem_iff_getElem?.1 hs
 exact (diff_get h hi).1
end Go.Abs

/- Going round a ring until nothing changes: the rounds end after as many as there are members. -/
namespace Go.Abs.Iter
def le:Option Int->Option Int->Prop
 |none,_=>True
 |some _,none=>False
 |some a,some b=>a<=b
def lt (a b:Option Int):Prop:=¬ le b a
theorem le_refl:∀ a,le a a
 |none=>trivial
 |some _=>Int.le_refl _
theorem le_trans {a b c:Option Int} (h:le a b) (h2:le b c):le a c:=by
 cases a with
 |none=>trivial
 |some x=>cases b with
  |none=>exact absurd h id
  |some y=>cases c with
   |none=>exact absurd h2 id
   |some z=>exact Int.le_trans h h2
theorem le_antisymm {a b:Option Int} (h:le a b) (h2:le b a):a=b:=by
 cases a with
 |none=>cases b with
  |none=>rfl
  |some y=>exact absurd h2 id
 |some x=>cases b with
  |none=>exact absurd h id
  |some y=>exact congrArg some (Int.le_antisymm h h2)
theorem le_total (a b:Option Int):le a b\/le b a:=by
 cases a with
 |none=>exact .inl trivial
 |some x=>cases b with
  |none=>exact .inr trivial
  |some y=>exact Int.le_total x y
theorem lt_of_ne {a b:Option Int} (h:le a b) (hn:a≠b):lt a b:=fun h2=>hn (le_antisymm h h2)
theorem lt_of_lt_of_le {a b c:Option Int} (h:lt a b) (h2:le b c):lt a c:=fun h3=>h (le_trans h2 h3)
def LE (u v:Nat->Option Int):Prop:=∀ d,le (u d) (v d)
theorem nodup_le:∀ (a b:List Nat),a.Nodup->(∀ x∈a,x∈b)->a.length<=b.length
 |[],_,_,_=>Nat.zero_le _
 |x::a,b,hn,h=>by
  rw [List.nodup_cons] at hn
  have hx:x∈b:=h x (List.mem_cons_self ..)
  have:=nodup_le a (b.erase x) hn.2 (fun y hy=>by
   have hne:y≠x:=fun e=>hn.1 (e▸hy)
   exact (List.mem_erase_of_ne hne).2 (h y (List.mem_cons_of_mem _ hy)))
  rw [List.length_erase_of_mem hx] at this
  have:0 < b.length:=List.length_pos_of_mem hx
  simp only [List.length_cons];omega
section
variable (F:(Nat->Option Int)->Nat->Option Int) (g:List Nat)
def jac (v:Nat->Option Int):Nat->Option Int:=fun d=>if d∈g then F v d else v d
def one (v:Nat->Option Int) (d:Nat):Nat->Option Int:=fun x=>if x=d then F v d else v x
def gs (v:Nat->Option Int):Nat->Option Int:=g.foldl (one F) v
def it (f:(Nat->Option Int)->(Nat->Option Int)):Nat->(Nat->Option Int)->(Nat->Option Int)
 |0,v=>v
 |n+1,v=>f (it f n v)
structure Ok (v0:Nat->Option Int):Prop where
 start:∀ d∈g,v0 d=none
 mono:∀ u v,LE u v->∀ d,le (F u d) (F v d)
 wit:∀ u v,LE u v->(∀ d,d∉g->u d=v d)->∀ d∈g,lt (F u d) (F v d)->∃ e∈g,le (F v d) (v e)/\lt (u e) (v e)
variable {F g} {v0:Nat->Option Int} (h:Ok F g v0)
include h
theorem jac_mono {u v:Nat->Option Int} (huv:LE u v):LE (jac F g u) (jac F g v):=fun d=>by
 unfold jac;split
 ·exact h.mono u v huv d
 ·exact huv d
omit h in
theorem it_out (n:Nat):∀ d,d∉g->it (jac F g) n v0 d=v0 d:=by
 induction n with
 |zero=>exact fun d _=>rfl
 |succ n ih=>
  intro d hd
  show jac F g _ d=_
  unfold jac;rw [if_neg hd];exact ih d hd
theorem it_up (n:Nat):LE (it (jac F g) n v0) (it (jac F g) (n+1) v0):=by
 induction n with
 |zero=>
  intro d
  by_cases hd:d∈g
  ·show le (v0 d) _
   rw [h.start d hd];trivial
  ·rw [it_out (0+1) d hd];exact le_refl _
 |succ n ih=>exact jac_mono h ih
theorem it_upto {m n:Nat} (hmn:m<=n):LE (it (jac F g) m v0) (it (jac F g) n v0):=by
 induction hmn with
 |refl=>exact fun d=>le_refl _
 |step _ ih=>exact fun d=>le_trans (ih d) (it_up h _ d)
theorem chain (t:Nat):∀ d,lt (it (jac F g) t v0 d) (it (jac F g) (t+1) v0 d) ->
  ∃ l:List Nat,l.length=t+1/\l.Nodup/\(∀ x∈l,x∈g)/\∀ x∈l,∃ j,j<=t/\le (it (jac F g) (t+1) v0 d) (it (jac F g) (j+1) v0 x):=by
 induction t with
 |zero=>
  intro d hd
  have hg:d∈g:=Classical.byContradiction fun hg=>by
   rw [it_out (0+1) d hg] at hd;exact hd (le_refl _)
  exact ⟨[d],rfl,List.nodup_cons.2 ⟨List.not_mem_nil,List.nodup_nil⟩,fun x hx=>by simp only [List.mem_singleton] at hx;exact hx▸hg,fun x hx=>by
   simp only [List.mem_singleton] at hx;exact ⟨0,Nat.le_refl _,hx▸le_refl _⟩⟩
 |succ t ih=>
  intro d hd
  have hg:d∈g:=Classical.byContradiction fun hg=>by
   rw [it_out (t+1+1) d hg,it_out (t+1) d hg] at hd;exact hd (le_refl _)
  have hs:∀ n,it (jac F g) (n+1) v0 d=F (it (jac F g) n v0) d:=fun n=>by
   show jac F g _ d=_;unfold jac;rw [if_pos hg]
  have hd':=hd
  rw [hs (t+1),hs t] at hd'
  obtain ⟨e,_,he1,he2⟩:=h.wit _ _ (it_up h t) (fun x hx=>by rw [it_out t x hx,it_out (t+1) x hx]) d hg hd'
  obtain ⟨l,hl,hn,hm,hj⟩:=ih e he2
  rw [<-hs (t+1)] at he1
  refine ⟨d::l,by simp [hl],List.nodup_cons.2 ⟨?_,hn⟩,?_,?_⟩
  ·intro hdl
   obtain ⟨j,hjt,hle⟩:=hj d hdl
   exact hd (le_trans (le_trans he1 hle) (it_upto h (Nat.add_le_add_right hjt 1) d))
  ·intro x hx
   rcases List.mem_cons.1 hx with rfl|hx
   ·exact hg
   ·exact hm x hx
  ·intro x hx
   rcases List.mem_cons.1 hx with rfl|hx
   ·exact ⟨t+1,Nat.le_refl _,le_refl _⟩
   ·obtain ⟨j,hjt,hle⟩:=hj x hx
    exact ⟨j,Nat.le_succ_of_le hjt,le_trans he1 hle⟩
theorem jac_fix:jac F g (it (jac F g) g.length v0)=it (jac F g) g.length v0:=by
 funext d
 refine Classical.byContradiction fun hne=>?_
 have hup:=it_up h g.length d
 obtain ⟨l,hl,hn,hm,_⟩:=chain h g.length d (lt_of_ne hup fun e=>hne e.symm)
 have:=nodup_le l g hn hm
 omega
theorem gsl_up:∀ (r:List Nat) (u:Nat->Option Int),(∀ d,le (u d) (if d∈g then F u d else u d))->(∀ d∈r,d∈g)->LE u (r.foldl (one F) u)/\(∀ d,le (r.foldl (one F) u d) (if d∈g then F (r.foldl (one F) u) d else r.foldl (one F) u d))/\∀ d∈r,le (F u d) (r.foldl (one F) u d)
 |[],u,hu,_=>⟨fun d=>le_refl _,hu,fun d hd=>absurd hd List.not_mem_nil⟩
 |x::r,u,hu,hr=>by
  have hxg:x∈g:=hr x (List.mem_cons_self ..)
  have h1:LE u (one F u x):=fun d=>by
   unfold one;split
   ·rename_i e;subst e;have:=hu d;rwa [if_pos hxg] at this
   ·exact le_refl _
  have h2:∀ d,le (one F u x d) (if d∈g then F (one F u x) d else one F u x d):=fun d=>by
   by_cases hd:d∈g
   ·rw [if_pos hd]
    have hle:le (one F u x d) (F u d):=by
     unfold one;split
     ·rename_i e;subst e;exact le_refl _
     ·have:=hu d;rwa [if_pos hd] at this
    exact le_trans hle (h.mono _ _ h1 d)
   ·rw [if_neg hd];exact le_refl _
  obtain ⟨h3,h4,h5⟩:=gsl_up r (one F u x) h2 (fun d hd=>hr d (List.mem_cons_of_mem _ hd))
  refine ⟨fun d=>le_trans (h1 d) (h3 d),h4,fun d hd=>?_⟩
  rcases List.mem_cons.1 hd with rfl|hd
  ·have:=h3 d
   unfold one at this;rw [if_pos rfl] at this;exact this
  ·exact le_trans (h.mono _ _ h1 d) (h5 d hd)
theorem gsl_le {w:Nat->Option Int} (hw:∀ d∈g,F w d=w d):∀ (r:List Nat) (u:Nat->Option Int),(∀ d∈r,d∈g)->LE u w->LE (r.foldl (one F) u) w
 |[],u,_,hu=>hu
 |x::r,u,hr,hu=>by
  refine gsl_le hw r (one F u x) (fun d hd=>hr d (List.mem_cons_of_mem _ hd)) fun d=>?_
  unfold one;split
  ·rename_i e;subst e
   rw [<-hw d (hr d (List.mem_cons_self ..))];exact h.mono _ _ hu d
  ·exact hu d
theorem gs_it (n:Nat):LE (it (jac F g) n v0) (it (gs F g) n v0)/\LE (it (gs F g) n v0) (it (jac F g) g.length v0)/\∀ d,le (it (gs F g) n v0 d) (if d∈g then F (it (gs F g) n v0) d else it (gs F g) n v0 d):=by
 induction n with
 |zero=>
  refine ⟨fun d=>le_refl _,it_upto h (Nat.zero_le _),fun d=>?_⟩
  by_cases hd:d∈g
  ·show le (v0 d) _
   rw [h.start d hd];trivial
  ·rw [if_neg hd];exact le_refl _
 |succ n ih=>
  obtain ⟨h1,h2,h3⟩:=ih
  obtain ⟨a1,a2,a3⟩:=gsl_up h g (it (gs F g) n v0) h3 (fun _ hd=>hd)
  refine ⟨fun d=>?_,?_,a2⟩
  ·show le (jac F g _ d) (gs F g _ d)
   unfold jac;split
   ·rename_i hd
    exact le_trans (h.mono _ _ h1 d) (a3 d hd)
   ·exact le_trans (h1 d) (a1 d)
  ·refine gsl_le h (fun d hd=>?_) g _ (fun _ hd=>hd) h2
   have:=congrFun (jac_fix h) d
   unfold jac at this;rwa [if_pos hd] at this
theorem gs_eq {n:Nat} (hn:g.length<=n):it (gs F g) n v0=it (jac F g) g.length v0:=by
 funext d
 obtain ⟨h1,h2,_⟩:=gs_it h n
 exact le_antisymm (h2 d) (le_trans (it_upto h hn d) (h1 d))
end
end Go.Abs.Iter

/- How expressions depend on sources: what the reference says, and what of it goes round a ring. -/
open Go Go.Abs
namespace Go.Abs
set_option maxRecDepth 100000
structure Lg where
 on:Bool
 ever:Bool
 back:Int
 ahead:Int
def Lg.z:Lg:=⟨false,false,0,0⟩
def Lg.iv (a:Lg):IV := .agg [.bool a.on, .bool a.ever, .int .i64 a.back, .int .i64 a.ahead]
structure Lg.Ok (a:Lg):Prop where
 back:a.ever=true->a.back=0
 none:a.on=false->a=Lg.z
def mxI (a b:Int):Int:=if b > a then b else a
theorem mxI_eq (a b:Int):mxI a b=max a b:=by unfold mxI;split<;>omega
def Lg.both (a b:Lg):Lg:=if a.on then (if b.on then ⟨true,a.ever||b.ever,if a.ever||b.ever then 0 else mxI a.back b.back,mxI a.ahead b.ahead⟩ else a) else b
def Lg.thru (a:Lg) (ev:Bool) (bk ah:Int):Lg:=if a.on then ⟨true,a.ever||ev,if a.ever||ev then 0 else a.back+bk,a.ahead+ah⟩ else a
def kidL (op n:Int) (i:Nat) (a:Lg):Lg:=
 if op=7 then a.thru false n (-n) else if op=8 then a.thru false (n-1) 0 else if op=9\/op=12 then a.thru false n 0
 else if op=10\/op=11 then a.thru true 0 0 else if op=13 then a.thru (i==1) 0 0 else if op=14 then a.thru false (n*i) (n*i) else a
mutual
/-- An expression's lag about one source, by those of the definitions. -/
def expG (srcs names:List Str) (v:Nat->Lg) (s:Nat):Exp->Lg
 | .mk op name n _ _ kids=>if op=1 then (if idxN srcs name=s then ⟨true,false,0,0⟩ else Lg.z) else if op=2\/op=3 then (v (idxN names name)).thru false n (-n) else kidsG srcs names v s op n kids 0 Lg.z
def kidsG (srcs names:List Str) (v:Nat->Lg) (s:Nat) (op n:Int):List Exp->Nat->Lg->Lg
 |[],_,out=>out
 |x::r,i,out=>kidsG srcs names v s op n r (i+1) (out.both (kidL op n i (expG srcs names v s x)))
end
theorem Lg.okz:Lg.z.Ok:=⟨fun _=>rfl,fun _=>rfl⟩
theorem Lg.Ok.both {a b:Lg} (ha:a.Ok) (hb:b.Ok):(a.both b).Ok:=by
 unfold Lg.both
 split
 ·split
  ·exact ⟨fun h=>by simp only at h;simp only [h,if_true],fun h=>by cases h⟩
  ·exact ha
 ·exact hb
theorem Lg.Ok.thru {a:Lg} (ha:a.Ok) (ev:Bool) (bk ah:Int):(a.thru ev bk ah).Ok:=by
 unfold Lg.thru
 split
 ·exact ⟨fun h=>by simp only at h;simp only [h,if_true],fun h=>by cases h⟩
 ·exact ha
theorem Lg.Ok.kid {a:Lg} (ha:a.Ok) (op n:Int) (i:Nat):(kidL op n i a).Ok:=by
 unfold kidL
 repeat' split
 all_goals first|exact ha.thru _ _ _|exact ha
mutual
theorem expG_ok (srcs names:List Str) {v:Nat->Lg} (hv:∀ d,(v d).Ok) (s:Nat):∀ e,(expG srcs names v s e).Ok
 | .mk op name n fold calcs kids=>by
  rw [expG]
  split
  ·split
   ·exact ⟨fun _=>rfl,fun h=>by cases h⟩
   ·exact Lg.okz
  ·split
   ·exact (hv _).thru _ _ _
   ·exact kidsG_ok srcs names hv s op n kids 0 _ Lg.okz
theorem kidsG_ok (srcs names:List Str) {v:Nat->Lg} (hv:∀ d,(v d).Ok) (s:Nat) (op n:Int):∀ (l:List Exp) (i:Nat) (out:Lg),out.Ok->(kidsG srcs names v s op n l i out).Ok
 |[],_,_,h=>h
 |x::r,i,out,h=>by
  rw [kidsG]
  exact kidsG_ok srcs names hv s op n r (i+1) _ (h.both ((expG_ok srcs names hv s x).kid op n i))
end
/-! How far ahead. -/
def Lg.key (a:Lg):Option Int:=if a.on then some a.ahead else none
def omax:Option Int->Option Int->Option Int
 |none,b=>b
 |some a,none=>some a
 |some a,some b=>some (max a b)
def oup (k:Int):Option Int->Option Int
 |none=>none
 |some a=>some (a+k)
def foreK (op n:Int) (i:Nat):Int:=if op=7 then -n else if op=14 then n*i else 0
theorem key_both (a b:Lg):(a.both b).key=omax a.key b.key:=by
 unfold Lg.both Lg.key
 cases ha:a.on<;>cases hb:b.on<;>simp [omax,ha,hb,mxI_eq]
theorem key_thru (a:Lg) (ev:Bool) (bk ah:Int):(a.thru ev bk ah).key=oup ah a.key:=by
 unfold Lg.thru Lg.key
 cases ha:a.on<;>simp [oup,ha]
theorem key_kid (op n:Int) (i:Nat) (a:Lg):(kidL op n i a).key=oup (foreK op n i) a.key:=by
 have h0:a.key=oup 0 a.key:=by cases a.key<;>simp [oup]
 unfold kidL foreK
 by_cases h7:op=7
 ·simp only [h7,if_true];exact key_thru ..
 simp only [h7,if_false]
 by_cases h8:op=8
 ·subst h8;simp [key_thru]
 simp only [h8,if_false]
 by_cases h9:op=9\/op=12
 ·rcases h9 with rfl|rfl<;>simp [key_thru]
 simp only [h9,if_false]
 by_cases h10:op=10\/op=11
 ·rcases h10 with rfl|rfl<;>simp [key_thru]
 simp only [h10,if_false]
 by_cases h13:op=13
 ·subst h13;simp [key_thru]
 simp only [h13,if_false]
 by_cases h14:op=14
 ·simp only [h14,if_true];exact key_thru ..
 simp only [h14,if_false];exact h0
open Iter in
theorem le_omax {a a' b b':Option Int} (h:le a b) (h':le a' b'):le (omax a a') (omax b b'):=by
 cases a<;>cases a'<;>cases b<;>cases b'<;>simp only [le,omax] at h h' ⊢ <;> omega
open Iter in
theorem le_oup {a b:Option Int} (k:Int) (h:le a b):le (oup k a) (oup k b):=by
 cases a<;>cases b<;>simp only [le,oup] at h ⊢;omega
section
open Iter
variable (srcs names:List Str) (s:Nat)
mutual
theorem expG_mono {u v:Nat->Lg} (h:∀ d,le (u d).key (v d).key):∀ e,le (expG srcs names u s e).key (expG srcs names v s e).key
 | .mk op name n fold calcs kids=>by
  rw [expG,expG]
  split
  ·exact le_refl _
  ·split
   ·rw [key_thru,key_thru];exact le_oup _ (h _)
   ·exact kidsG_mono h op n kids 0 (le_refl _)
theorem kidsG_mono {u v:Nat->Lg} (h:∀ d,le (u d).key (v d).key) (op n:Int):∀ (l:List Exp) (i:Nat) {a b:Lg},le a.key b.key->le (kidsG srcs names u s op n l i a).key (kidsG srcs names v s op n l i b).key
 |[],_,_,_,hab=>by rw [kidsG,kidsG];exact hab
 |x::r,i,a,b,hab=>by
  rw [kidsG,kidsG]
  refine kidsG_mono h op n r (i+1) ?_
  rw [key_both,key_both,key_kid,key_kid]
  exact le_omax hab (le_oup _ (expG_mono h x))
end
def Wit (g:List Nat) (u v:Nat->Lg) (a b:Option Int):Prop:=lt a b->∃ e∈g,le b (v e).key/\lt (u e).key (v e).key
theorem Wit.max {g:List Nat} {u v:Nat->Lg} {a a' b b':Option Int} (h:Wit g u v a b) (h':Wit g u v a' b'):Wit g u v (omax a a') (omax b b'):=by
 intro hlt
 have hb:omax b b'=b\/omax b b'=b':=by
  cases b<;>cases b'<;>simp only [omax]
  ·exact .inl trivial
  ·exact .inr trivial
  ·exact .inl trivial
  ·rename_i x y;rcases Int.le_total x y with h|h
   ·right;rw [Int.max_eq_right h]
   ·left;rw [Int.max_eq_left h]
 have h1:le a (omax a a'):=by cases a<;>cases a'<;>simp only [omax,le]<;>omega
 have h2:le a' (omax a a'):=by cases a<;>cases a'<;>simp only [omax,le]<;>omega
 rcases hb with hb|hb<;>rw [hb] at hlt ⊢
 ·exact h fun hc=>hlt (le_trans hc h1)
 ·exact h' fun hc=>hlt (le_trans hc h2)
theorem Wit.up {g:List Nat} {u v:Nat->Lg} {a b:Option Int} {k:Int} (hk:k<=0) (h:Wit g u v a b):Wit g u v (oup k a) (oup k b):=by
 intro hlt
 obtain ⟨e,he,h1,h2⟩:=h fun hc=>hlt (le_oup k hc)
 refine ⟨e,he,le_trans ?_ h1,h2⟩
 cases b<;>simp only [oup,le];omega
mutual
theorem expG_wit {g:List Nat} {u v:Nat->Lg} (h:∀ d,d∉g->u d=v d):∀ e,(∀ x∈allE e,x.fore=false/\(x.op=2\/x.op=3->0<=x.n))->Wit g u v (expG srcs names u s e).key (expG srcs names v s e).key
 | .mk op name n fold calcs kids,he=>by
  have h0:=he (.mk op name n fold calcs kids) (by rw [allE];exact List.mem_cons_self ..)
  rw [expG,expG]
  split
  ·exact fun hc=>absurd (le_refl _) hc
  ·split
   ·rename_i hop
    have hn:0<=n:=h0.2 hop
    rw [key_thru,key_thru]
    refine Wit.up (by omega) fun hlt=>?_
    by_cases hd:idxN names name∈g
    ·exact ⟨_,hd,le_refl _,hlt⟩
    ·rw [h _ hd] at hlt;exact absurd (le_refl _) hlt
   ·have h1:op≠14/\(op=7->0<=n):=by
     have:=h0.1
     unfold Exp.fore at this
     rw [Bool.or_eq_false_iff] at this
     refine ⟨by simpa [Exp.op] using this.1,fun h7=>?_⟩
     have h2:=this.2
     simp only [Exp.op,Exp.n,h7,beq_self_eq_true,Bool.true_and] at h2
     have:=of_decide_eq_false h2
     omega
    exact kidsG_wit h op n h1 kids 0 (fun x hx=>he x (by rw [allE];exact List.mem_cons_of_mem _ hx)) (fun hc=>absurd (le_refl _) hc)
theorem kidsG_wit {g:List Nat} {u v:Nat->Lg} (h:∀ d,d∉g->u d=v d) (op n:Int) (hop:op≠14/\(op=7->0<=n)):∀ (l:List Exp) (i:Nat) {a b:Lg},(∀ x∈allEs l,x.fore=false/\(x.op=2\/x.op=3->0<=x.n))->Wit g u v a.key b.key->Wit g u v (kidsG srcs names u s op n l i a).key (kidsG srcs names v s op n l i b).key
 |[],_,_,_,_,hab=>by rw [kidsG,kidsG];exact hab
 |x::r,i,a,b,he,hab=>by
  rw [kidsG,kidsG]
  refine kidsG_wit h op n hop r (i+1) (fun y hy=>he y (by rw [allEs];exact List.mem_append_right _ hy)) ?_
  rw [key_both,key_both,key_kid,key_kid]
  refine hab.max (Wit.up ?_ (expG_wit h x fun y hy=>he y (by rw [allEs];exact List.mem_append_left _ hy)))
  unfold foreK
  split
  ·rename_i h7;have:=hop.2 h7;omega
  ·rw [if_neg hop.1];exact Int.le_refl _
end
end
end Go.Abs

/- The logic: ends of drawn regions at any addresses; slices of rows; rows as data. -/
namespace Go.Abs
variable {C:Cfg} {fid nt:Nat} {l:Env} {G:Nat->Obj} {nx:Nat} {df:List (AV×List AV)} {pk:Pk} {Φ:Out->Prop} {a b:Code} {id:Nat}
variable {ol r:List Oper} {base i d:Nat} {ty:TypeId} {pos:String} {af:Array Edge} {v:AV} {ups:List (Nat×U)}
def gN (ads:List Nat) (k:Nat):Nat:=ads.getD (k-1) 0
theorem gN_inj {ads:List Nat} (hn:ads.Nodup) {w x:Nat} (hw:1<=w/\w<=ads.length) (hx:1<=x/\x<=ads.length) (he:gN ads w=gN ads x):w=x:=by
 unfold gN at he
 rw [List.getD_eq_getElem?_getD,List.getD_eq_getElem?_getD,List.getElem?_eq_getElem (by omega),List.getElem?_eq_getElem (by omega)] at he
 simp only [Option.getD_some] at he
 rcases Nat.lt_trichotomy w x with h|h|h
 ·exact absurd he (List.pairwise_iff_getElem.1 hn _ _ (by omega) (by omega) (by omega))
 ·exact h
 ·exact absurd he.symm (List.pairwise_iff_getElem.1 hn _ _ (by omega) (by omega) (by omega))
theorem D.skipN' {fs:List Fp} (ads:List Nat) (hn:ads.Nodup) (fs0:List Fp) (hfs:fs.reverse=fs0.map (Fp.ren (gN ads))) (hb:((fpWrs fs0++fpAddrs fs0).all fun w=>decide (1<=w)&&decide (w<=ads.length))=true)
  (hk:(drawOK ⟨ol⟩ fs0&&edgesOK ⟨ol⟩)=true) (h:W C 0 nt .skip l G nx df pk Φ):D C nt ol base i [] l G nx df pk fs Φ:=
 D.skip (by
  rw [hfs,drawOK_ren fun w hw x hx he=>?_]
  ·exact hk
  ·have h1:=List.all_eq_true.1 hb w (List.mem_append_left _ hw)
   have h2:=List.all_eq_true.1 hb x (List.mem_append_right _ hx)
   simp only [Bool.and_eq_true,decide_eq_true_eq] at h1 h2
   exact gN_inj hn h1 h2 he) h
theorem peek_row1 {o n et sz:Nat} {xs:List IV} {fr:Bool} (h:G o = .row et sz (xs.map .imm) fr) (hn:xs.length=n):Go.Abs.peek G pkDepth (.row o n)=some (.lst xs,[o]):=by
 have hp:∀ x,Go.Abs.peek G 99 (.imm x)=some (x,[]):=fun x=>rfl
 show Go.Abs.peek G (99+1) _=_
 unfold Go.Abs.peek
 rw [h]
 dsimp only
 rw [if_pos (by simpa using hn),peekL_imm hp]
theorem peeks_nil:peeks G []=some ([],[]):=rfl
theorem peeks_one {v:AV} {x:IV} {ids ids2:List Nat} {vs:List AV} {xs:List IV} (h:Go.Abs.peek G pkDepth v=some (x,ids)) (hr:peeks G vs=some (xs,ids2)):peeks G (v::vs)=some (x::xs,ids++ids2):=by
 unfold peeks at hr ⊢
 rw [peekL,h,hr]
theorem peeks_im {x:IV} {ids2:List Nat} {vs:List AV} {xs:List IV} (hr:peeks G vs=some (xs,ids2)):peeks G (.imm x::vs)=some (x::xs,ids2):=peeks_one (ids:=[]) rfl hr
theorem boundE_at {l:Env} {n d t i:Nat} {k:IntKind} {j:Int} (h:look l t=some (.imm (.int k j))) (hj:j=(i:Int)) (hi:i<=n):boundE l n d (some (.tmp t))=some i:=by
 subst hj
 simp only [boundE,lookO,h]
 rw [if_pos ⟨Int.natCast_nonneg _,by omega⟩,Int.toNat_natCast]
theorem D.gen' {fs:List Fp} (P:(Nat->Obj)->Prop) (h0:P G) (h:∀ G,P G->D C nt ol base i r l G nx df pk fs Φ):D C nt ol base i r l G nx df pk fs Φ:=h _ h0
/-! what is read may be said to be more -/
theorem any_or_le {xs ys:List Nat} (h:∀ x∈xs,x∈ys) (x:Nat) (hx:xs.contains x=true):ys.contains x=true:=by
 simp at hx ⊢;exact h x hx
theorem clash_le1 {a:Fp} {rd':List Nat} {b:Fp} (h:∀ x∈a.rd,x∈rd') (hc:clash { a with rd:=rd' } b=false):clash a b=false:=by
 unfold clash at hc ⊢
 rw [Bool.or_eq_false_iff] at hc ⊢
 refine ⟨hc.1,?_⟩
 have h2:=hc.2
 rw [List.any_eq_false] at h2 ⊢
 intro x hx he
 refine h2 x hx ?_
 rw [Bool.or_eq_true] at he ⊢
 rcases he with he|he
 ·exact .inl (any_or_le h x he)
 ·exact .inr he
theorem clash_le2 {a b:Fp} {rd':List Nat} (h:∀ x∈b.rd,x∈rd') (hc:clash a { b with rd:=rd' }=false):clash a b=false:=by
 unfold clash at hc ⊢
 rw [Bool.or_eq_false_iff] at hc ⊢
 refine ⟨?_,hc.2⟩
 have h1:=hc.1
 rw [List.any_eq_false] at h1 ⊢
 intro x hx he
 refine h1 x hx ?_
 rw [Bool.or_eq_true,Bool.or_eq_true] at he ⊢
 rcases he with (he|he)|he
 ·exact .inl (.inl (any_or_le h x he))
 ·exact .inl (.inr he)
 ·exact .inr he
theorem clearOf_le1 {ops:Array Oper} {a:Fp} {rd':List Nat} (h:∀ x∈a.rd,x∈rd'):∀ fs:List Fp,clearOf ops { a with rd:=rd' } fs=true->clearOf ops a fs=true
 |[],_=>rfl
 |b::r,hc=>by
  unfold clearOf at hc ⊢
  rw [Bool.and_eq_true] at hc ⊢
  refine ⟨?_,clearOf_le1 h r hc.2⟩
  have h1:=hc.1
  rw [Bool.or_eq_true,Bool.and_eq_true] at h1 ⊢
  rcases h1 with h1|⟨h1,h2⟩
  ·exact .inl h1
  ·exact .inr ⟨by rw [clash_le1 h (by simpa using h1)];rfl,h2⟩
theorem clearOf_le2 {ops:Array Oper} {a c:Fp} {rd':List Nat} (h:∀ x∈c.rd,x∈rd') {B:List Fp}:∀ A:List Fp,clearOf ops a (A++{ c with rd:=rd' }::B)=true->clearOf ops a (A++c::B)=true
 |[],hc=>by
  simp only [List.nil_append] at hc ⊢
  unfold clearOf at hc ⊢
  rw [Bool.and_eq_true] at hc ⊢
  refine ⟨?_,hc.2⟩
  have h1:=hc.1
  rw [Bool.or_eq_true,Bool.and_eq_true] at h1 ⊢
  rcases h1 with h1|⟨h1,h2⟩
  ·exact .inl h1
  ·exact .inr ⟨by rw [clash_le2 h (by simpa using h1)];rfl,h2⟩
 |b::A,hc=>by
  rw [List.cons_append] at hc ⊢
  unfold clearOf at hc ⊢
  rw [Bool.and_eq_true] at hc ⊢
  exact ⟨hc.1,clearOf_le2 h A hc.2⟩
theorem drawOK_le {ops:Array Oper} {c:Fp} {rd':List Nat} (h:∀ x∈c.rd,x∈rd') {B:List Fp}:∀ A:List Fp,drawOK ops (A++{ c with rd:=rd' }::B)=true->drawOK ops (A++c::B)=true
 |[],hc=>by
  simp only [List.nil_append] at hc ⊢
  unfold drawOK at hc ⊢
  rw [Bool.and_eq_true] at hc ⊢
  exact ⟨clearOf_le1 h B hc.1,hc.2⟩
 |b::A,hc=>by
  rw [List.cons_append] at hc ⊢
  unfold drawOK at hc ⊢
  rw [Bool.and_eq_true] at hc ⊢
  exact ⟨clearOf_le2 h A hc.1,drawOK_le h A hc.2⟩
theorem drawOK_more {ops:Array Oper} {A fs:List Fp} {j:Nat} {rd rd' wr fz:List Nat} (h:∀ x∈rd,x∈rd') (hd:drawOK ops (A++⟨j,rd',wr,fz⟩::fs).reverse=true):drawOK ops (A++⟨j,rd,wr,fz⟩::fs).reverse=true:=by
 rw [List.reverse_append,List.reverse_cons,List.append_assoc] at hd ⊢
 exact drawOK_le (c:=⟨j,rd,wr,fz⟩) h fs.reverse hd
theorem runE_more {L:Low} {ops:Array Oper} {j:Nat} {rd rd' wr fz:List Nat} (h:∀ x∈rd,x∈rd'):∀ (r:List Oper) (i:Nat) (A fs:List Fp) (s:St) {s':St} {fs':List Fp},runE C L nt ops base i r (A++⟨j,rd',wr,fz⟩::fs) s=some (s',fs')->drawOK ops fs'.reverse=true ->
  ∃ fs2,runE C L nt ops base i r (A++⟨j,rd,wr,fz⟩::fs) s=some (s',fs2)/\drawOK ops fs2.reverse=true
 |[],_,A,fs,s,s',fs',he,hd=>by
  cases he
  exact ⟨_,rfl,drawOK_more h hd⟩
 |o::r,i,A,fs,s,s',fs',he,hd=>by
  unfold runE stepP at he ⊢
  cases hs:stepD C L nt ops base i o s with
  |some y=>rw [hs] at he;exact runE_more h r (i+1) (y.2::A) fs y.1 he hd
  |none=>
   rw [hs] at he
   simp only at he ⊢
   by_cases hk:(pivot ops i&&drawOK ops (A++⟨j,rd',wr,fz⟩::fs).reverse)=true
   ·have hk2:(pivot ops i&&drawOK ops (A++⟨j,rd,wr,fz⟩::fs).reverse)=true:=by
     rw [Bool.and_eq_true] at hk ⊢
     exact ⟨hk.1,drawOK_more h hk.2⟩
    rw [if_pos hk] at he
    rw [if_pos hk2]
    exact ⟨_,he,hd⟩
   ·rw [if_neg hk] at he;cases he
theorem D.more {fs:List Fp} {j:Nat} {rd rd' wr fz:List Nat} (h:∀ x∈rd,x∈rd') (hd:D C nt ol base i r l G nx df pk (⟨j,rd',wr,fz⟩::fs) Φ):D C nt ol base i r l G nx df pk (⟨j,rd,wr,fz⟩::fs) Φ := .mk fun t ht=>by
 obtain ⟨n,s',fs',h1,h2,h3⟩:=hd.st t ht
 rw [Bool.and_eq_true] at h2
 obtain ⟨fs2,h4,h5⟩:=runE_more h r i [] fs _ h1 h2.1
 exact ⟨n,s',fs2,h4,by rw [Bool.and_eq_true];exact ⟨h5,h2.2⟩,h3⟩
theorem D.callB {f:Operand} {ars:List Operand} {ats:Array TypeId} {vs cap:List AV} {fv:AV} {k:FuncId} {fs:List Fp} (hf:lookO l f=some fv) (hfn:fnOf fv=some (.func k,cap)) (hb:C.byref k=true) (ha:looks l ars=some vs) (hd:Nat.ble (d+1) nt=true)
  (hk:(pivot ⟨ol⟩ i&&drawOK ⟨ol⟩ fs.reverse)=true) (hr:Cal C k (vs++cap) G nx fun v G' nx'=>D C nt ol base (i+1) r ((d,v)::l) G' nx' df pk [] Φ) :
  D C nt ol base i (⟨some d, .call { callee := .value f,args:=⟨ars⟩,argTypes:=ats },ty,pos,af,none⟩::r) l G nx df pk fs Φ:=by
 obtain ⟨n,v,G',nx',h1,h2⟩:=hr
 refine .mk fun t ht=>?_
 obtain ⟨m,s',fs',h3,h4,h5⟩:=h2.st (upd t d v) (ht.put d v)
 have hop:opA C (low C n) (base+i) ⟨t,G,nx,df,pk⟩ (.call { callee := .value f,args:=⟨ars⟩,argTypes:=ats })=some (.wr v ⟨t,G',nx',df,pk⟩):=by
  simp only [opA,ht.ev hf,ht.evs ha]
  have:aCall C (low C n) (base+i) ⟨t,G,nx,df,pk⟩ fv vs=callA C (low C n) (base+i) ⟨t,G,nx,df,pk⟩ k (vs++cap):=by
   unfold aCall
   split
   ·cases hfn
   ·rw [hfn]
  rw [this]
  simp only [callA,hb,if_true,h1]
 refine ⟨max n m,s',fs',?_,h4,h5⟩
 have hlt:d < nt:=Nat.le_of_ble_eq_true hd
 unfold runE stepP stepD stepA
 simp only [wantA,opA_mono (low_mono (Nat.le_max_left n m)) hop,Go.Abs.put,if_pos hlt,if_pos hk]
 exact runE_mono (low_mono (Nat.le_max_right n m)) _ _ _ _ h3
theorem D.app2 {x y:Operand} {t u e e' lo hi q sz sz':Nat} {k ke:TyI} {xs:List IV} {z:IV} {fr:Bool} {fs:List Fp} {G0:Nat->Obj} (ho:Own e sz lo hi xs G0 v) (hq:G q = .row e' sz' [.imm z] fr) [hk:TyIs C t k] (hm:xs.length+1<=most)
  (next:∀ v' G' o',Own e sz lo nx (xs++[z]) G' v'->(∀ o,o < lo->G' o=G o)->(∀ o,o≠o'->G' o=G o)->lo<=o'->(o' < hi\/o'=base+i)->D C nt ol base (i+1) r ((d,v')::l) G' nx df pk (⟨i,[o',q],[o'],[]⟩::fs) Φ)
  (ht:k.d = .sl e:=by exact rfl) (he:TyIs C e ke:=by infer_instance) (hsz:sz=ke.sz:=by exact rfl) (hu:Nat.beq t u=true:=by exact rfl) (hx:lookO l x=some v:=by exact rfl) (hy:lookO l y=some (.row q 1):=by exact rfl)
  (hG:∀ o,lo<=o->o < hi->G o=G0 o:=by intro o _ _;exact at_upd) (hf:(AV.imm z).fits sz=true:=by first|exact rfl|assumption) (hs:0 < ke.sz:=by decide) (hb:ke.bytes<=4096:=by decide) (hz:ke.zero.fits ke.sz=true:=by exact rfl) (hid:lo<=base+i/\base+i < nx/\base+i≠q:=by omega)
  (hhi:hi<=nx/\hi<=q:=by omega) (hd:Nat.ble (d+1) nt=true:=by exact rfl) :
  D C nt ol base i (⟨some d, .call { callee := .builtin .append,args := #[x,y],argTypes := #[t,u] },ty,pos,af,none⟩::r) l G nx df pk fs Φ:=by
 subst hsz
 have hrd:rdE l G (.call { callee := .builtin .append,args := #[x,y],argTypes := #[t,u] })=some ([v, .row q 1].flatMap direct):=by
  simp only [rdE,pureOp,looks,hx,hy]
 have hys:([z].map AV.imm).all (AV.fits ke.sz)=true:=by simp [hf]
 have hw:elems G (.row q 1)=some ([z].map AV.imm):=elems_row hq rfl
 rcases ho with ⟨rfl,rfl⟩|⟨o,h1,h2,rfl,hG2⟩
 ·refine D.op1 (O.appNil (hk:=hk) (he:=he) ht hu hx hy hw hs hb hz hys (by simp [most])) hrd hd (D.more (rd':=[base+i,q]) (by simp [direct]) (next _ _ _ (.inr ⟨base+i,hid.1,hid.2.1,by simp,by rw [upd_same];simp⟩) (fun o ho=>upd_ne _ _ _ _ (by omega)) (fun o ho=>upd_ne _ _ _ _ ho) hid.1 (.inr rfl)))
 ·refine D.op1 (O.appRow (hk:=hk) (he:=he) ht hu hx ((hG o h1 h2).trans hG2) (by simp) hy hw hs hb hz hys (by simpa using hm)) hrd hd (D.more (rd':=[o,q]) (by simp [direct]) (next _ _ _ (.inr ⟨o,h1,by omega,by simp,by rw [upd_same];simp⟩) (fun o' ho'=>upd_ne _ _ _ _ (by omega)) (fun o' ho'=>upd_ne _ _ _ _ ho') h1 (.inl h2)))
theorem O.min {x y:Operand} {t u:TypeId} {m n:Int} {k:IntKind} (hx:lookO l x=some (.imm (.int k m))) (hy:lookO l y=some (.imm (.int k n))):OpV C id l G nx df pk (.call { callee := .builtin .min,args := #[x,y],argTypes := #[t,u] }) (.imm (.int k (if n < m then n else m))) []:=
 O.of fun t' L hA=>by simp only [opA,List.map_cons,List.map_nil,hA.ev hx,hA.ev hy,aBuiltin]
theorem O.loadRA {x:Operand} {t et:TypeId} {k:TyI} {o m n sz:Nat} {xs us:List AV} {fr:Bool} {u:AV} [hk:TyIs C t k] (hx:lookO l x=some (.rptr o m n 0)) (hG:G o = .row et sz xs fr) (hm:xs.length=m) (hu:xs[n]? = some u)
  (hc:Go.Abs.sub u.cells 0 k.sz=some us) (hg:k.d.isAgg=true):OpV C id l G nx df pk (.load t x) (mkAgg us) []:=
 O.of fun t L hA=>by simp [opA,hA.ev hx,aLoad,hk.is,hg,readAt,hG,hm,hu,hc]
theorem mul64 {m n:Int} (h : -9223372036854775808<=m*n/\m*n<=9223372036854775807):intOp .mul .i64 m n=some (.int .i64 (m*n)):=by simp only [intOp,wrap64 h]
theorem O.neg {t:TypeId} {x:Operand} {n:Int} {id:Nat} {l:Env} {G:Nat->Obj} {nx:Nat} {df:List (AV×List AV)} {pk:Pk} {C:Cfg} (hx:lookO l x=some (.imm (.int .i64 n))) (h : -9223372036854775807<=n/\n<=9223372036854775807):OpV C id l G nx df pk (.unOp .neg t x) (.imm (.int .i64 (-n))) []:=
 O.of fun t L ht=>by
  have:IntKind.i64.wrap (0-n) = -n:=by rw [wrap64 (by omega)];omega
  simp only [opA,ht.ev hx,unA,this]
end Go.Abs

/- One step of the logic after the other, as far as it goes, with memory. -/
open Go Go.Abs
namespace Go.Abs
set_option maxRecDepth 100000
theorem OA {C:Cfg} {id:Nat} {l:Env} {G:Nat->Obj} {nx:Nat} {df:List (AV×List AV)} {pk:Pk} {o:Op} {v:AV}
  (h:OpV C id l G nx df pk o v []:=by first|exact O.move rfl|exact O.assign rfl|exact O.fieldP rfl rfl rfl rfl|exact O.loadP rfl rfl rfl (by first|exact rfl|with_reducible assumption|assumption|exact at_upd) rfl|exact O.cmp rfl rfl rfl|exact O.int rfl rfl (add64 (by omega))|exact O.int rfl rfl (sub64 (by omega))|exact O.int rfl rfl (add8 (by omega))|exact O.pickT rfl (by first|with_reducible rfl|with_reducible assumption|decide) rfl|exact O.pickF rfl (by first|with_reducible rfl|with_reducible assumption|decide) rfl|exact O.lenL rfl rfl|exact O.lenSv rfl rfl|exact O.lenS rfl rfl|exact O.not rfl|exact O.neg rfl (by omega)|exact O.int rfl rfl (mul64 (by omega))|exact O.svEq rfl rfl|exact O.svNe rfl rfl|exact O.str rfl rfl rfl|exact O.boolEq rfl rfl rfl|exact O.boolNe rfl rfl rfl|exact O.fieldE rfl rfl rfl rfl|exact O.fieldR rfl rfl rfl rfl|exact O.loadPA rfl rfl (by first|exact rfl|with_reducible assumption|assumption|exact at_upd) rfl rfl|exact O.extr rfl rfl|exact O.nilP rfl|exact O.nilF rfl|exact O.extrT rfl rfl|exact O.makeFunc rfl rfl rfl|exact O.fieldF rfl rfl rfl rfl|exact O.loadF rfl rfl rfl rfl|exact O.loadFA rfl rfl rfl|exact O.ptrEq rfl rfl rfl rfl|exact O.ptrNe rfl rfl rfl rfl|exact O.max rfl rfl|exact O.min rfl rfl|(apply O.addrX;exact rfl;infer_instance;exact rfl;exact rfl;omega;(first|with_reducible assumption|assumption);(first|exact rfl|assumption))|(apply O.load1;exact rfl;(first|with_reducible assumption|assumption);exact rfl;exact rfl;exact rfl)|(apply O.loadE;exact rfl;exact rfl;exact rfl;(first|with_reducible assumption|assumption);exact rfl)|(apply O.loadEA;exact rfl;exact rfl;(first|with_reducible assumption|assumption);exact rfl)|(apply O.call;exact rfl;exact rfl;(first|with_reducible assumption|assumption))|(apply O.addrRX;exact rfl;infer_instance;exact rfl;exact rfl;(first|with_reducible assumption|assumption);(first|exact rfl|with_reducible assumption|assumption|exact List.length_map ..);omega;exact rfl)|(apply O.loadRX;exact rfl;(first|with_reducible assumption|assumption);(first|exact rfl|with_reducible assumption|assumption|exact List.length_map ..);(first|with_reducible assumption|assumption);exact rfl;exact rfl;exact rfl)|(apply O.loadRA;  exact rfl;(first|with_reducible assumption|assumption);(first|exact rfl|with_reducible assumption|assumption|exact List.length_map ..);(first|with_reducible assumption|assumption);exact rfl;exact rfl)|(apply O.lenO;exact rfl;exact rfl;(first|with_reducible assumption|assumption))|(apply O.lenR;exact rfl;exact rfl;(first|exact rfl|with_reducible assumption|assumption|exact at_upd);(first|exact rfl|with_reducible assumption|assumption|exact List.length_map ..))|(apply O.build;exact rfl;exact rfl;exact rfl;exact rfl)|(apply O.callV;exact rfl;infer_instance;exact rfl;exact rfl;(first|with_reducible assumption|assumption))|(apply O.lookA;exact rfl;infer_instance;infer_instance;exact rfl;exact rfl;exact rfl;(first|with_reducible assumption|assumption))):OpV C id l G nx df pk o v []:=h
theorem OB {C:Cfg} {id:Nat} {l:Env} {G:Nat->Obj} {nx:Nat} {df:List (AV×List AV)} {pk:Pk} {o:Op} {v:AV} {q:Nat} {x:Obj}
  (h:OpV C id l G nx df pk o v [(q, .set x)]:=by first|exact O.boxS rfl rfl rfl|exact O.alloc rfl rfl|exact O.makeMap|(apply O.buildX;exact rfl;infer_instance;exact rfl;exact rfl;decide;exact rfl;exact rfl;decide)):OpV C id l G nx df pk o v [(q, .set x)]:=h
theorem ON {C:Cfg} {id:Nat} {l:Env} {G:Nat->Obj} {nx:Nat} {df:List (AV×List AV)} {pk:Pk} {o:Op} {v:AV} {q:Nat} {x:Obj}
  (h:OpV C id l G nx df pk o v [(q, .set x)]:=by first|(apply O.storeP;exact rfl;exact rfl;exact rfl;(first|exact rfl|with_reducible assumption|assumption|exact at_upd);exact rfl;exact rfl)|(apply O.storeP1;exact rfl;exact rfl;exact rfl;assumption;assumption;(first|exact rfl|with_reducible assumption|assumption|exact at_upd);exact rfl;exact rfl)):OpV C id l G nx df pk o v [(q, .set x)]:=h
theorem BB {P Q:Prop} (k:Q) (h:Hold Q->P:=by
 intro k
 (repeat (first|(apply R.op0;exact OA;exact rfl)|(apply R.op1;exact OB;exact rfl)|(apply R.opN1;exact ON)|(apply R.guardT1;exact rfl;exact rfl;(first|with_reducible rfl|with_reducible assumption|decide))|(apply R.guardT0;exact rfl;exact rfl;(first|with_reducible rfl|with_reducible assumption|decide))|(apply R.guardF1;exact rfl;exact rfl;(first|with_reducible rfl|with_reducible assumption|decide);exact rfl)|(apply R.guardF0;exact rfl;exact rfl;(first|with_reducible rfl|with_reducible assumption|decide);exact rfl)|(apply R.guardN;exact rfl;exact rfl;exact rfl)|apply R.done|apply W.seq|apply W.regionN|apply W.drawN|apply W.block|apply W.scope|apply W.label|(apply W.condT;exact rfl;(first|with_reducible rfl|with_reducible assumption|decide))|(apply W.condF;exact rfl;(first|with_reducible rfl|with_reducible assumption|decide))|apply W.retAft|apply W.retBlk|apply W.retLop|apply W.exitAft|apply W.exitLop|apply W.exitBlk|(apply W.exitBlkNe;exact rfl)|apply W.skipAft|apply W.skipBlk|apply W.retCut|apply W.exitCut|apply R.skip|(apply D.op0;exact OA;exact rfl;exact rfl)|(apply D.op1;exact OB;exact rfl;exact rfl)|(apply D.opN1;exact ON;exact rfl)|(apply D.guardT1;exact rfl;exact rfl;(first|with_reducible rfl|with_reducible assumption|decide))|(apply D.guardT0;exact rfl;exact rfl;(first|with_reducible rfl|with_reducible assumption|decide))|(apply D.guardF1;exact rfl;exact rfl;(first|with_reducible rfl|with_reducible assumption|decide);exact rfl)|(apply D.guardF0;exact rfl;exact rfl;(first|with_reducible rfl|with_reducible assumption|decide);exact rfl)|(apply D.guardN;exact rfl;exact rfl;exact rfl)|(apply D.done;kernel_rfl)|(apply D.skip;kernel_rfl)))
 exact Hold.out k):P:=h ⟨k⟩
theorem BN {P Q:Prop} (k:Q) (h:Hold Q->P:=by
 intro k
 (repeat (first|(apply R.op0;exact OA;exact rfl)|(apply R.op1;exact OB;exact rfl)|(apply R.opN1;exact ON)|(apply R.guardT1;exact rfl;exact rfl;(first|with_reducible rfl|with_reducible assumption|decide))|(apply R.guardT0;exact rfl;exact rfl;(first|with_reducible rfl|with_reducible assumption|decide))|(apply R.guardF1;exact rfl;exact rfl;(first|with_reducible rfl|with_reducible assumption|decide);exact rfl)|(apply R.guardF0;exact rfl;exact rfl;(first|with_reducible rfl|with_reducible assumption|decide);exact rfl)|(apply R.guardN;exact rfl;exact rfl;exact rfl)|apply R.done|apply W.seq|apply W.regionN|apply W.drawN|apply W.block|apply W.scope|apply W.label|(apply W.condT;exact rfl;(first|with_reducible rfl|with_reducible assumption|decide))|(apply W.condF;exact rfl;(first|with_reducible rfl|with_reducible assumption|decide))|apply W.retAft|apply W.retBlk|apply W.retLop|apply W.exitAft|apply W.exitLop|apply W.exitBlk|(apply W.exitBlkNe;exact rfl)|apply W.skipAft|apply W.skipBlk|apply W.retCut|apply W.exitCut|apply R.skip|(apply D.op0;exact OA;exact rfl;exact rfl)|(apply D.op1;exact OB;exact rfl;exact rfl)|(apply D.opN1;exact ON;exact rfl)|(apply D.guardT1;exact rfl;exact rfl;(first|with_reducible rfl|with_reducible assumption|decide))|(apply D.guardT0;exact rfl;exact rfl;(first|with_reducible rfl|with_reducible assumption|decide))|(apply D.guardF1;exact rfl;exact rfl;(first|with_reducible rfl|with_reducible assumption|decide);exact rfl)|(apply D.guardF0;exact rfl;exact rfl;(first|with_reducible rfl|with_reducible assumption|decide);exact rfl)|(apply D.guardN;exact rfl;exact rfl;exact rfl)|refine D.auto ?_))
 exact Hold.out k):P:=h ⟨k⟩
theorem BD {P Q:Prop} (k:Q) (h:Hold Q->P:=by
 intro k
 (repeat (first|(apply D.op0;exact OA;exact rfl;exact rfl)|(apply D.op1;exact OB;exact rfl;exact rfl)|(apply D.opN1;exact ON;exact rfl)|(apply D.guardT1;exact rfl;exact rfl;(first|with_reducible rfl|with_reducible assumption|decide))|(apply D.guardT0;exact rfl;exact rfl;(first|with_reducible rfl|with_reducible assumption|decide))|(apply D.guardF1;exact rfl;exact rfl;(first|with_reducible rfl|with_reducible assumption|decide);exact rfl)|(apply D.guardF0;exact rfl;exact rfl;(first|with_reducible rfl|with_reducible assumption|decide);exact rfl)|(apply D.guardN;exact rfl;exact rfl;exact rfl)))
 exact Hold.out k):P:=h ⟨k⟩
end Go.Abs

/- Lags, one by one: what both sides compute of them. -/
open Go Go.Abs
namespace Go.Abs
set_option maxRecDepth 100000
set_option maxHeartbeats 4000000
def ty447:TyI:={ d:=TyD.st [(0,1),(1,1),(2,1),(3,1)],sz:=4,bytes:=24,zero:=AV.imm (IV.agg [IV.bool false,IV.bool false,IV.int IntKind.i64 (0),IV.int IntKind.i64 (0)]) }
instance tyis447:TyIs CC 147 ty447:=⟨by kernel_rfl⟩
def ty453:TyI:={ d:=TyD.st [(0,1),(1,1),(2,1),(3,1)],sz:=4,bytes:=24,zero:=AV.imm (IV.agg [IV.bool false,IV.bool false,IV.int IntKind.i64 (0),IV.int IntKind.i64 (0)]) }
instance tyis453:TyIs CC 153 ty453:=⟨by kernel_rfl⟩
instance fnis451:FnIs CC 151:=⟨rfl,fun _=>rfl⟩
instance fnis453:FnIs CC 153:=⟨rfl,fun _=>rfl⟩
instance fnis441:FnIs CC 141:=⟨rfl,fun _=>rfl⟩
structure Lg.In (K:Int) (a:Lg):Prop where
 back : -K<=a.back/\a.back<=K
 ahead : -K<=a.ahead/\a.ahead<=K
theorem Lg.iv_mk (on e:Bool) (b f:Int):Lg.iv ⟨on,e,b,f⟩ = .agg [.bool on, .bool e, .int .i64 b, .int .i64 f]:=rfl
theorem ret453 {a b:Lg}:Ret CC 153 [a.iv,b.iv] (a.both b).iv:=by
 obtain ⟨on,e,b1,f⟩:=a
 obtain ⟨on',e',b2,f'⟩:=b
 rw [Lg.iv_mk,Lg.iv_mk]
 refine Ret.of (fn:=Go.Proofs.Tryz.f153) (by kernel_rfl) rfl rfl ?_
 cases on
 ·refine BB ?_
  exact W.retFinCA rfl rfl rfl rfl ⟨[],rfl⟩
 cases on'
 ·refine BB ?_
  exact W.retFinCA rfl rfl rfl rfl ⟨[],rfl⟩
 cases e<;>cases e'
 all_goals
  refine BB ?_
  exact W.retFinCA rfl rfl rfl rfl ⟨[],rfl⟩
theorem ret451 {a:Lg} {bk ah:Int} (hk:a.Ok) (h:a.In 4294967296) (hb : -4294967296<=bk/\bk<=4294967296) (ha : -4294967296<=ah/\ah<=4294967296):Ret CC 151 [a.iv, .int .i64 bk, .int .i64 ah] (a.thru false bk ah).iv:=by
 obtain ⟨h1,h2⟩:=h
 have h3:=hk.back
 obtain ⟨on,e,b,f⟩:=a
 simp only at h1 h2 h3
 rw [Lg.iv_mk]
 refine Ret.of (fn:=Go.Proofs.Tryz.f151) (by kernel_rfl) rfl rfl ?_
 cases on
 ·refine BB ?_
  exact W.retFinCA rfl rfl rfl rfl ⟨[],rfl⟩
 ·cases e
  ·refine BB ?_
   exact W.retFinCA rfl rfl rfl rfl ⟨[],rfl⟩
  ·obtain rfl:=h3 rfl
   refine BB ?_
   exact W.retFinCA rfl rfl rfl rfl ⟨[],rfl⟩
theorem ret441 {a:Lg}:Ret CC 141 [a.iv] (a.thru true 0 0).iv:=by
 obtain ⟨on,e,b,f⟩:=a
 have hf:f+0=f:=Int.add_zero f
 rw [Lg.iv_mk]
 refine Ret.of (fn:=Go.Proofs.Tryz.f141) (by kernel_rfl) rfl rfl ?_
 cases on
 ·refine BB ?_
  exact W.retFinCA rfl rfl rfl rfl ⟨[],rfl⟩
 ·cases e
  all_goals
   simp only [Lg.thru,if_true,Bool.or_true,hf]
   refine BB ?_
   exact W.retFinCA rfl rfl rfl rfl ⟨[],rfl⟩
end Go.Abs

/- The groups of definitions, in their order. -/
open Go Go.Abs
namespace Go.Abs
set_option maxRecDepth 100000
noncomputable def grpR (tos:List (List Nat)) (d:Nat):List Nat:=ringTo (reachR tos) d tos.length
noncomputable def readyR (tos:List (List Nat)) (done:List Nat) (d:Nat):Bool := !done.contains d&&(List.range tos.length).all fun k => !reachB tos d k||done.contains k||(grpR tos d).contains k
noncomputable def nextR (tos:List (List Nat)) (done:List Nat):Option Nat:=(List.range tos.length).find? (readyR tos done)
noncomputable def orderTo (tos:List (List Nat)):Nat->List Nat->List (List Nat)
 |0,_=>[]
 |f+1,done=>match nextR tos done with
  |none=>[]
  |some d=>grpR tos d::orderTo tos f (done++grpR tos d)
noncomputable def orderR (tos:List (List Nat)):List (List Nat):=orderTo tos tos.length []
section
variable {tos:List (List Nat)}
theorem mem_grp {i j:Nat} (hi:i < tos.length):j∈grpR tos i↔j < tos.length/\(j=i\/(Reach tos i j/\Reach tos j i)):=mem_ringTo hi
theorem grp_self {d:Nat} (hd:d < tos.length):d∈grpR tos d:=(mem_grp hd).2 ⟨hd, .inl rfl⟩
theorem grp_same {i j:Nat} (hi:i < tos.length) (hj:j∈grpR tos i):grpR tos j=grpR tos i:=by
 obtain ⟨hl,h⟩:=(mem_grp hi).1 hj
 rcases h with rfl|⟨h1,h2⟩
 ·rfl
 ·exact (ringTo_same hi hl h1 h2).symm
theorem grp_nodup (d:Nat):(grpR tos d).Nodup:=List.Pairwise.filter _ List.nodup_range
theorem grp_lt {d k:Nat} (h:k∈grpR tos d):k < tos.length:=by
 unfold grpR ringTo at h
 exact List.mem_range.1 (List.mem_filter.1 h).1
theorem ready_iff {done:List Nat} {d:Nat}:readyR tos done d=true↔d∉done/\∀ k,k < tos.length->Reach tos d k->k∈done\/k∈grpR tos d:=by
 unfold readyR
 rw [Bool.and_eq_true,List.all_eq_true,Bool.not_eq_true',List.contains_eq_mem,decide_eq_false_iff_not]
 refine and_congr Iff.rfl ⟨fun h k hk hr=>?_,fun h k hk=>?_⟩
 ·have:=h k (List.mem_range.2 hk)
  rw [reachB_iff.2 hr] at this
  simpa [List.contains_iff_mem] using this
 ·by_cases hr:reachB tos d k=true
  ·have:=h k (List.mem_range.1 hk) (reachB_iff.1 hr)
   simpa [hr,List.contains_iff_mem] using this
  ·simp [hr]
structure DoneIs (tos:List (List Nat)) (done:List Nat):Prop where
 nodup:done.Nodup
 lt:∀ d∈done,d < tos.length
 whole:∀ d∈done,∀ k∈grpR tos d,k∈done
theorem DoneIs.nil:DoneIs tos []:=⟨List.nodup_nil,fun _ h=>absurd h List.not_mem_nil,fun _ h=>absurd h List.not_mem_nil⟩
theorem DoneIs.apart {done:List Nat} (h:DoneIs tos done) {d:Nat} (hd:d < tos.length) (hn:d∉done) {k:Nat} (hk:k∈grpR tos d):k∉done:=fun hkd=>
 hn (h.whole k hkd d (by rw [grp_same hd hk];exact grp_self hd))
theorem DoneIs.step {done:List Nat} (h:DoneIs tos done) {d:Nat} (hd:d < tos.length) (hn:d∉done):DoneIs tos (done++grpR tos d) where
 nodup:=List.nodup_append.2 ⟨h.nodup,grp_nodup d,fun a ha b hb hab=>h.apart hd hn hb (hab▸ha)⟩
 lt:=fun k hk=>by
  rcases List.mem_append.1 hk with hk|hk
  ·exact h.lt k hk
  ·exact grp_lt hk
 whole:=fun e he k hk=>by
  rcases List.mem_append.1 he with he|he
  ·exact List.mem_append_left _ (h.whole e he k hk)
  ·rw [grp_same hd he] at hk
   exact List.mem_append_right _ hk
theorem DoneIs.len {done:List Nat} (h:DoneIs tos done):done.length<=tos.length:=nodup_lt h.nodup h.lt
theorem DoneIs.all {done:List Nat} (h:DoneIs tos done) (hl:tos.length<=done.length) {d:Nat} (hd:d < tos.length):d∈done:=Classical.byContradiction fun hn=>by
 have:=nodup_lt (a:=d::done) (n:=tos.length) (List.nodup_cons.2 ⟨hn,h.nodup⟩) (fun x hx=>by
  rcases List.mem_cons.1 hx with rfl|hx
  ·exact hd
  ·exact h.lt x hx)
 simp only [List.length_cons] at this;omega
theorem DoneIs.some {done:List Nat} (hl:done.length < tos.length):∃ d,d < tos.length/\d∉done:=Classical.byContradiction fun hn=>by
 have:=nodup_le (List.range tos.length) done List.nodup_range (fun x hx=>Classical.byContradiction fun hc=>hn ⟨x,List.mem_range.1 hx,hc⟩)
 rw [List.length_range] at this;omega
noncomputable def downN (tos:List (List Nat)) (d:Nat):List Nat:=(List.range tos.length).filter fun k=>k==d||reachB tos d k
theorem down_lt {d k:Nat} (hd:d < tos.length) (hk:Reach tos d k) (hg:k∉grpR tos d) (hkl:k < tos.length):(downN tos k).length < (downN tos d).length:=by
 have hnr:¬ (d=k)/\¬ Reach tos k d:=by
  refine ⟨fun e=>hg (e▸grp_self hd),fun h=>hg ((mem_grp hd).2 ⟨hkl, .inr ⟨hk,h⟩⟩)⟩
 have:=nodup_le (d::downN tos k) (downN tos d) (List.nodup_cons.2 ⟨by
  unfold downN
  rw [List.mem_filter,Bool.or_eq_true,reachB_iff,beq_iff_eq]
  exact fun h=>h.2.elim hnr.1 hnr.2,List.Pairwise.filter _ List.nodup_range⟩) (fun x hx=>by
  unfold downN at hx ⊢
  rw [List.mem_filter,Bool.or_eq_true,reachB_iff,beq_iff_eq,List.mem_range]
  rcases List.mem_cons.1 hx with rfl|hx
  ·exact ⟨hd, .inl rfl⟩
  ·rw [List.mem_filter,Bool.or_eq_true,reachB_iff,beq_iff_eq,List.mem_range] at hx
   refine ⟨hx.1, .inr ?_⟩
   rcases hx.2 with rfl|h
   ·exact hk
   ·exact hk.trans h)
 simp only [List.length_cons] at this;omega
theorem ready_some (done:List Nat):∀ (m d:Nat),(downN tos d).length<=m->d < tos.length->d∉done->∃ e,e < tos.length/\readyR tos done e=true:=by
 intro m
 induction m with
 |zero=>
  intro d hm hd _
  have:d∈downN tos d:=by unfold downN;rw [List.mem_filter];exact ⟨List.mem_range.2 hd,by simp⟩
  have h0:(downN tos d).length=0:=by omega
  rw [List.eq_nil_of_length_eq_zero h0] at this
  exact absurd this List.not_mem_nil
 |succ m ih=>
  intro d hm hd hn
  by_cases hr:readyR tos done d=true
  ·exact ⟨d,hd,hr⟩
  ·rw [ready_iff] at hr
   have:∃ k,k < tos.length/\Reach tos d k/\k∉done/\k∉grpR tos d:=Classical.byContradiction fun hc=>hr ⟨hn,fun k hk hdk=>Classical.byContradiction fun hc2=>hc ⟨k,hk,hdk,fun h=>hc2 (.inl h),fun h=>hc2 (.inr h)⟩⟩
   obtain ⟨k,hk,hdk,h1,h2⟩:=this
   have:=down_lt hd hdk h2 hk
   exact ih k (by omega) hk h1
theorem next_some {done:List Nat} (hl:done.length < tos.length):∃ d,nextR tos done=some d/\d < tos.length/\d∉done:=by
 obtain ⟨d,hd,hn⟩:=DoneIs.some hl
 obtain ⟨e,he,hr⟩:=ready_some done _ d (Nat.le_refl _) hd hn
 have:(nextR tos done).isSome:=by
  unfold nextR
  rw [List.find?_isSome]
  exact ⟨e,List.mem_range.2 he,hr⟩
 obtain ⟨x,hx⟩:=Option.isSome_iff_exists.1 this
 refine ⟨x,hx,List.mem_range.1 (List.mem_of_find?_eq_some hx),?_⟩
 have:=List.find?_some hx
 exact (ready_iff.1 this).1
theorem next_none {done:List Nat} (h:DoneIs tos done) (hl:tos.length<=done.length):nextR tos done=none:=by
 unfold nextR
 rw [List.find?_eq_none]
 intro d hd hr
 exact (ready_iff.1 hr).1 (h.all hl (List.mem_range.1 hd))
theorem orderTo_end {done:List Nat} (h:DoneIs tos done) (hl:tos.length<=done.length) (f:Nat):orderTo tos f done=[]:=by
 cases f with
 |zero=>rfl
 |succ f=>rw [orderTo,next_none h hl]
theorem next_is {done:List Nat} {d:Nat} (hd:d < tos.length) (hr:readyR tos done d=true) (hf:∀ e,e < d->readyR tos done e=false):nextR tos done=some d:=by
 have:(nextR tos done).isSome:=by
  unfold nextR
  rw [List.find?_isSome]
  exact ⟨d,List.mem_range.2 hd,hr⟩
 obtain ⟨x,hx⟩:=Option.isSome_iff_exists.1 this
 rw [hx]
 have hxr:=List.find?_some hx
 unfold nextR at hx
 obtain ⟨_,l1,l2,hab,hno⟩:=List.find?_eq_some_iff_append.1 hx
 have hx1:¬ x < d:=fun h=>by rw [hf x h] at hxr;cases hxr
 refine congrArg Option.some (Nat.le_antisymm (Nat.le_of_not_lt fun h=>?_) (Nat.le_of_not_lt hx1))
 have hlen:l1.length=x:=by
  have h1:(List.range tos.length)[l1.length]? = some x:=by rw [hab];simp
  rw [List.getElem?_eq_some_iff] at h1
  obtain ⟨h2,h3⟩:=h1
  simpa using h3
 have:d∈l1:=by
  have h1:(List.range tos.length)[d]? = some d:=by rw [List.getElem?_range hd]
  rw [hab,List.getElem?_append_left (by omega)] at h1
  exact List.mem_of_getElem? h1
 have:=hno d this
 rw [hr] at this;cases this
theorem next_inv {done:List Nat} {d:Nat} (h:nextR tos done=some d):d < tos.length/\readyR tos done d=true/\∀ e,e < d->readyR tos done e=false:=by
 have hr:=List.find?_some h
 unfold nextR at h
 have hd:=List.mem_range.1 (List.mem_of_find?_eq_some h)
 refine ⟨hd,hr,fun e he=>?_⟩
 obtain ⟨_,l1,l2,hab,hno⟩:=List.find?_eq_some_iff_append.1 h
 have hlen:l1.length=d:=by
  have h1:(List.range tos.length)[l1.length]? = some d:=by rw [hab];simp
  rw [List.getElem?_eq_some_iff] at h1
  obtain ⟨h2,h3⟩:=h1
  simpa using h3
 have:e∈l1:=by
  have h1:(List.range tos.length)[e]? = some e:=by rw [List.getElem?_range (by omega)]
  rw [hab,List.getElem?_append_left (by omega)] at h1
  exact List.mem_of_getElem? h1
 simpa using hno e this
theorem ready_same {done:List Nat} (h:DoneIs tos done) {i j:Nat} (hi:i < tos.length) (hj:j∈grpR tos i) (hr:readyR tos done i=true):readyR tos done j=true:=by
 rw [ready_iff] at hr ⊢
 refine ⟨h.apart hi hr.1 hj,fun k hk hjk=>?_⟩
 rw [grp_same hi hj]
 obtain ⟨hl,hc⟩:=(mem_grp hi).1 hj
 rcases hc with rfl|⟨h1,h2⟩
 ·exact hr.2 k hk hjk
 ·exact hr.2 k hk (h1.trans hjk)
end
end Go.Abs

/- The lags of definitions: round after round. -/
open Go Go.Abs
namespace Go.Abs
set_option maxRecDepth 100000
def colD (D:List (List Lg)) (s:Nat):Nat->Lg:=fun d=>(D.getD d []).getD s Lg.z
def expAt (p:Pgm) (d:Nat):Exp:=match p.defs[d]? with
 |some x=>x.exp
 |none => .mk 0 [] 0 0 [] []
def allL (p:Pgm) (D:List (List Lg)) (e:Exp):List Lg:=(List.range p.srcs.length).map fun s=>expG p.srcs (p.defs.map Dfn.name) (colD D s) s e
def ringL (ring:Bool) (a:Lg):Lg:=if ring then a.thru true 0 0 else a
def rowL (p:Pgm) (ring:Bool) (D:List (List Lg)) (d:Nat):List Lg:=(allL p D (expAt p d)).map (ringL ring)
def setL (p:Pgm) (ring:Bool) (D:List (List Lg)) (d:Nat):List (List Lg):=D.set d (rowL p ring D d)
def rndL (p:Pgm) (ring:Bool) (g:List Nat) (D:List (List Lg)):List (List Lg):=g.foldl (setL p ring) D
def rndsL (p:Pgm) (ring:Bool) (g:List Nat):Nat->List (List Lg)->List (List Lg)
 |0,D=>D
 |n+1,D=>rndL p ring g (rndsL p ring g n D)
structure Wide (p:Pgm) (D:List (List Lg)):Prop where
 len:D.length=p.defs.length
 row:∀ r∈D,r.length=p.srcs.length
 ok:∀ r∈D,∀ a∈r,a.Ok
theorem Wide.col {p:Pgm} {D:List (List Lg)} (h:Wide p D) (s d:Nat):(colD D s d).Ok:=by
 unfold colD
 rw [List.getD_eq_getElem?_getD,List.getD_eq_getElem?_getD]
 cases hd:D[d]? with
 |none=>exact Lg.okz
 |some r=>
  simp only [Option.getD_some]
  cases hs:r[s]? with
  |none=>exact Lg.okz
  |some a=>exact h.ok r (List.mem_of_getElem? hd) a (List.mem_of_getElem? hs)
theorem rowL_len (p:Pgm) (ring:Bool) (D:List (List Lg)) (d:Nat):(rowL p ring D d).length=p.srcs.length:=by simp [rowL,allL]
theorem Wide.allL {p:Pgm} {D:List (List Lg)} (h:Wide p D) (e:Exp):∀ a∈allL p D e,a.Ok:=fun a ha=>by
 unfold Go.Abs.allL at ha
 obtain ⟨s,_,rfl⟩:=List.mem_map.1 ha
 exact expG_ok _ _ (h.col s) s _
theorem Wide.rowL {p:Pgm} {D:List (List Lg)} (h:Wide p D) (ring:Bool) (d:Nat):∀ a∈rowL p ring D d,a.Ok:=fun a ha=>by
 unfold Go.Abs.rowL at ha
 obtain ⟨b,hb,rfl⟩:=List.mem_map.1 ha
 unfold ringL
 split
 ·exact (h.allL _ b hb).thru _ _ _
 ·exact h.allL _ b hb
theorem Wide.set {p:Pgm} {D:List (List Lg)} (h:Wide p D) (ring:Bool) (d:Nat):Wide p (setL p ring D d) where
 len:=by unfold setL;rw [List.length_set];exact h.len
 row:=fun r hr=>by
  rcases List.mem_or_eq_of_mem_set hr with hr|rfl
  ·exact h.row r hr
  ·exact rowL_len ..
 ok:=fun r hr=>by
  rcases List.mem_or_eq_of_mem_set hr with hr|rfl
  ·exact h.ok r hr
  ·exact h.rowL ring d
theorem Wide.rnd {p:Pgm} {ring:Bool}:∀ (g:List Nat) {D:List (List Lg)},Wide p D->Wide p (rndL p ring g D)
 |[],_,h=>h
 |d::g,_,h=>Wide.rnd g (h.set ring d)
theorem Wide.rnds {p:Pgm} {D:List (List Lg)} (h:Wide p D) (ring:Bool) (g:List Nat):∀ n,Wide p (rndsL p ring g n D)
 |0=>h
 |n+1=>(h.rnds ring g n).rnd g
theorem Wide.ext {p:Pgm} {D E:List (List Lg)} (h:Wide p D) (k:Wide p E) (he:∀ s,s < p.srcs.length->∀ d,colD D s d=colD E s d):D=E:=by
 refine List.ext_getElem (by rw [h.len,k.len]) fun d h1 h2=>?_
 refine List.ext_getElem (by rw [h.row _ (List.getElem_mem h1),k.row _ (List.getElem_mem h2)]) fun s h3 h4=>?_
 have hs:s < p.srcs.length:=by rw [<-h.row _ (List.getElem_mem h1)];exact h3
 have:=he s hs d
 unfold colD at this
 simpa [List.getD_eq_getElem?_getD,h1,h2,h3,h4] using this
theorem col_set {p:Pgm} {D:List (List Lg)} (h:Wide p D) (ring:Bool) {d:Nat} (hd:d < p.defs.length) {s:Nat} (hs:s < p.srcs.length) (e:Nat) :
  colD (setL p ring D d) s e=if e=d then ringL ring (expG p.srcs (p.defs.map Dfn.name) (colD D s) s (expAt p d)) else colD D s e:=by
 have hd':d < D.length:=by rw [h.len];exact hd
 unfold colD setL
 by_cases he:e=d
 ·subst he
  rw [if_pos rfl,List.getD_eq_getElem?_getD (l:=D.set e _),List.getElem?_set_self hd',Option.getD_some]
  unfold rowL allL
  simp [List.getD_eq_getElem?_getD,hs]
  rfl
 ·rw [if_neg he,List.getD_eq_getElem?_getD (l:=D.set d _),List.getElem?_set_ne (fun h=>he h.symm),<-List.getD_eq_getElem?_getD]
/-! A ring. -/
def ofK:Option Int->Lg
 |none=>Lg.z
 |some a=>⟨true,true,0,a⟩
theorem ring_ofK {a:Lg} (h:a.Ok):ringL true a=ofK (ringL true a).key:=by
 unfold ringL
 rw [if_pos rfl]
 unfold Lg.thru
 cases ha:a.on
 ·rw [h.none ha];rfl
 ·simp [Lg.key,ofK]
def valK (g:List Nat) (w:Nat->Lg) (u:Nat->Option Int) (e:Nat):Lg:=if e∈g then ofK (u e) else w e
def FK (p:Pgm) (g:List Nat) (w:Nat->Lg) (s:Nat) (u:Nat->Option Int) (d:Nat):Option Int:=(ringL true (expG p.srcs (p.defs.map Dfn.name) (valK g w u) s (expAt p d))).key
theorem key_ofK (x:Option Int):(ofK x).key=x:=by cases x<;>rfl
theorem key_ring (a:Lg):(ringL true a).key=a.key:=by
 unfold ringL
 rw [if_pos rfl,key_thru]
 cases a.key<;>simp [oup]
theorem FK_ok {p:Pgm} {g:List Nat} {w:Nat->Lg} {s:Nat} (hg:∀ d∈g,∀ x∈allE (expAt p d),x.fore=false/\(x.op=2\/x.op=3->0<=x.n)) {v0:Nat->Option Int} (h0:∀ d∈g,v0 d=none):Iter.Ok (FK p g w s) g v0 where
 start:=h0
 mono:=fun u v h d=>by
  unfold FK
  rw [key_ring,key_ring]
  refine expG_mono _ _ _ (fun e=>?_) _
  unfold valK
  split
  ·rw [key_ofK,key_ofK];exact h e
  ·exact Iter.le_refl _
 wit:=fun u v h ho d hd hlt=>by
  unfold FK at hlt ⊢
  rw [key_ring] at hlt ⊢
  rw [key_ring] at hlt
  obtain ⟨e,he,h1,h2⟩:=expG_wit p.srcs (p.defs.map Dfn.name) s (g:=g) (u:=valK g w u) (v:=valK g w v) (fun e he=>by unfold valK;rw [if_neg he,if_neg he]) _ (hg d hd) hlt
  unfold valK at h1 h2
  rw [if_pos he,key_ofK] at h1 h2
  rw [if_pos he,key_ofK] at h2
  exact ⟨e,he,h1,h2⟩
theorem ring_step {p:Pgm} {g:List Nat} {w:Nat->Lg} {s:Nat} (hs:s < p.srcs.length) {D:List (List Lg)} (h:Wide p D) {u:Nat->Option Int} (hu:∀ e,colD D s e=valK g w u e) {d:Nat} (hd:d < p.defs.length) (hg:d∈g) (e:Nat) :
  colD (setL p true D d) s e=valK g w (Iter.one (FK p g w s) u d) e:=by
 rw [col_set h true hd hs,show colD D s=valK g w u from funext hu]
 unfold valK Iter.one
 by_cases he:e=d
 ·subst he
  rw [if_pos rfl,if_pos hg,if_pos rfl]
  have hok:(expG p.srcs (p.defs.map Dfn.name) (valK g w u) s (expAt p e)).Ok:=expG_ok _ _ (fun e=>by rw [<-hu];exact h.col s e) s _
  exact ring_ofK hok
 ·rw [if_neg he,if_neg he]
theorem ring_rnd {p:Pgm} {g:List Nat} {w:Nat->Lg} {s:Nat} (hs:s < p.srcs.length):∀ (r:List Nat),(∀ d∈r,d < p.defs.length/\d∈g)->∀ {D:List (List Lg)},Wide p D->∀ {u:Nat->Option Int},(∀ e,colD D s e=valK g w u e) ->
  ∀ e,colD (rndL p true r D) s e=valK g w (r.foldl (Iter.one (FK p g w s)) u) e
 |[],_,_,_,_,hu=>hu
 |d::r,hr,D,h,u,hu=>by
  have hd:=hr d (List.mem_cons_self ..)
  exact ring_rnd hs r (fun x hx=>hr x (List.mem_cons_of_mem _ hx)) (h.set true d) (ring_step hs h hu hd.1 hd.2)
theorem ring_rnds {p:Pgm} {g:List Nat} {w:Nat->Lg} {s:Nat} (hs:s < p.srcs.length) (hg:∀ d∈g,d < p.defs.length) {D:List (List Lg)} (h:Wide p D) {u:Nat->Option Int} (hu:∀ e,colD D s e=valK g w u e) :
  ∀ n e,colD (rndsL p true g n D) s e=valK g w (Iter.it (Iter.gs (FK p g w s) g) n u) e
 |0=>hu
 |n+1=>ring_rnd hs g (fun d hd=>⟨hg d hd,hd⟩) (h.rnds true g n) (ring_rnds hs hg h hu n)
theorem ring_end {p:Pgm} {g:List Nat} (hg:∀ d∈g,d < p.defs.length) (hx:∀ d∈g,∀ x∈allE (expAt p d),x.fore=false/\(x.op=2\/x.op=3->0<=x.n)) {D:List (List Lg)} (h:Wide p D) (h0:∀ d∈g,∀ s,colD D s d=Lg.z) {m n:Nat} (hm:g.length<=m) (hn:g.length<=n) :
  rndsL p true g m D=rndsL p true g n D:=by
 refine (h.rnds true g m).ext (h.rnds true g n) fun s hs e=>?_
 have hu:∀ e,colD D s e=valK g (colD D s) (fun d=>if d∈g then none else (colD D s d).key) e:=fun e=>by
  unfold valK
  by_cases he:e∈g
  ·rw [if_pos he,h0 e he];simp only [he,if_true];rfl
  ·rw [if_neg he]
 have hok:=FK_ok (p:=p) (g:=g) (w:=colD D s) (s:=s) hx (v0:=fun d=>if d∈g then none else (colD D s d).key) (fun d hd=>if_pos hd)
 rw [ring_rnds hs hg h hu m e,ring_rnds hs hg h hu n e,Iter.gs_eq hok hm,Iter.gs_eq hok hn]
/-! What is alone. -/
mutual
theorem expG_cong (srcs names:List Str) {u v:Nat->Lg} (s:Nat):∀ e,(∀ x∈allE e,x.op=2\/x.op=3->u (idxN names x.name)=v (idxN names x.name))->expG srcs names u s e=expG srcs names v s e
 | .mk op name n fold calcs kids,h=>by
  rw [expG,expG]
  split
  ·rfl
  ·split
   ·rename_i hop
    have h1:u (idxN names name)=v (idxN names name):=h (.mk op name n fold calcs kids) (by rw [allE];exact List.mem_cons_self ..) hop
    rw [h1]
   ·exact kidsG_cong srcs names s op n kids 0 _ fun x hx=>h x (by rw [allE];exact List.mem_cons_of_mem _ hx)
theorem kidsG_cong (srcs names:List Str) {u v:Nat->Lg} (s:Nat) (op n:Int):∀ (l:List Exp) (i:Nat) (out:Lg),(∀ x∈allEs l,x.op=2\/x.op=3->u (idxN names x.name)=v (idxN names x.name))->kidsG srcs names u s op n l i out=kidsG srcs names v s op n l i out
 |[],_,_,_=>by rw [kidsG,kidsG]
 |x::r,i,out,h=>by
  rw [kidsG,kidsG,expG_cong srcs names s x fun y hy=>h y (by rw [allEs];exact List.mem_append_left _ hy)]
  exact kidsG_cong srcs names s op n r (i+1) _ fun y hy=>h y (by rw [allEs];exact List.mem_append_right _ hy)
end
theorem one_end {p:Pgm} {d:Nat} (hd:d < p.defs.length) (hx:∀ x∈allE (expAt p d),x.op=2\/x.op=3->idxN (p.defs.map Dfn.name) x.name≠d) {D:List (List Lg)} (h:Wide p D):∀ {n:Nat},1<=n->rndsL p false [d] n D=rndsL p false [d] 1 D
 |0,hn=>absurd hn (by omega)
 |1,_=>rfl
 |n+2,_=>by
  rw [rndsL,one_end hd hx h (n:=n+1) (by omega)]
  have hw:Wide p (setL p false D d):=h.set false d
  show setL p false (setL p false D d) d=setL p false D d
  refine (hw.set false d).ext hw fun s hs e=>?_
  rw [col_set hw false hd hs]
  by_cases he:e=d
  ·subst he
   rw [if_pos rfl,col_set h false hd hs,if_pos rfl]
   refine congrArg (ringL false) (expG_cong _ _ s _ fun x hxe hop=>?_)
   rw [col_set h false hd hs,if_neg (hx x hxe hop)]
  ·rw [if_neg he]
theorem rnds_still {p:Pgm} {ring:Bool} {g:List Nat} {D:List (List Lg)} {r:Nat} (h:rndL p ring g (rndsL p ring g r D)=rndsL p ring g r D):∀ {m:Nat},r<=m->rndsL p ring g m D=rndsL p ring g r D:=by
 intro m hm
 induction hm with
 |refl=>rfl
 |step _ ih=>rw [rndsL,ih,h]
end Go.Abs

/- The groups of definitions, in their order: how the reference finds them. -/
open Go Go.Abs
namespace Go.Abs
set_option maxRecDepth 100000
noncomputable def groupsR (tos:List (List Nat)):List (List Nat):=ringsR (reachR tos)++((List.range tos.length).filter fun d => !reachB tos d d).map fun d=>[d]
section
variable {tos:List (List Nat)}
theorem grp_head {d f:Nat} {r:List Nat} (h:grpR tos d=f::r) {x:Nat} (hx:x∈grpR tos d):f<=x:=by
 have hp:(grpR tos d).Pairwise (· < ·):=List.Pairwise.filter _ List.pairwise_lt_range
 rw [h] at hp hx
 rcases List.mem_cons.1 hx with rfl|hx
 ·exact Nat.le_refl _
 ·exact Nat.le_of_lt ((List.pairwise_cons.1 hp).1 x hx)
theorem grp_alone {d:Nat} (hd:d < tos.length) (hn:¬ Reach tos d d):grpR tos d=[d]:=by
 have hm:∀ x,x∈grpR tos d↔x=d:=fun x=>by
  rw [mem_grp hd]
  refine ⟨fun h=>?_,fun h=>⟨h▸hd, .inl h⟩⟩
  rcases h.2 with h|⟨h1,h2⟩
  ·exact h
  ·exact absurd (h1.trans h2) hn
 have hnd:=grp_nodup (tos:=tos) d
 match hg:grpR tos d with
 |[]=>have:=(hm d).2 rfl;rw [hg] at this;exact absurd this List.not_mem_nil
 |[x]=>rw [(hm x).1 (by rw [hg];exact List.mem_singleton.2 rfl)]
 |x::y::r=>
  rw [hg] at hnd
  have h1:=(hm x).1 (by rw [hg];simp)
  have h2:=(hm y).1 (by rw [hg];simp)
  rw [h1,h2] at hnd
  simp at hnd
theorem groups_is {g:List Nat} (h:g∈groupsR tos):∃ f r,f < tos.length/\g=f::r/\g=grpR tos f:=by
 rcases List.mem_append.1 h with h|h
 ·unfold ringsR ringsTo at h
  obtain ⟨i,hi,rfl⟩:=List.mem_map.1 h
  rw [List.mem_filter,List.mem_range,reachR_len] at hi
  obtain ⟨h1,h2⟩:=hi
  unfold ringIs at h2
  rw [Bool.and_eq_true,beq_iff_eq] at h2
  have h3:=h2.2
  rw [reachR_len] at h3 ⊢
  cases hr:ringTo (reachR tos) i tos.length with
  |nil=>rw [hr] at h3;cases h3
  |cons f r=>
   rw [hr] at h3
   simp only [List.head?_cons,Option.some.injEq] at h3
   subst h3
   exact ⟨f,r,h1,rfl,hr.symm⟩
 ·obtain ⟨d,hd,rfl⟩:=List.mem_map.1 h
  rw [List.mem_filter,List.mem_range,Bool.not_eq_true'] at hd
  refine ⟨d,[],hd.1,rfl,(grp_alone hd.1 fun hr=>?_).symm⟩
  rw [reachB_iff.2 hr] at hd
  cases hd.2
theorem groups_all {d:Nat} (hd:d < tos.length):grpR tos d∈groupsR tos:=by
 by_cases hr:Reach tos d d
 ·obtain ⟨r,h1,h2⟩:=rings_mem.2 ⟨hd,hr⟩
  have h3:r∈groupsR tos:=List.mem_append_left _ h1
  obtain ⟨f,r',hf,h4,h5⟩:=groups_is h3
  rw [h5] at h2
  rw [grp_same hf h2,<-h5]
  exact h3
 ·refine List.mem_append_right _ (List.mem_map.2 ⟨d,?_,(grp_alone hd hr).symm⟩)
  rw [List.mem_filter,List.mem_range,Bool.not_eq_true']
  refine ⟨hd,?_⟩
  cases h:reachB tos d d with
  |false=>rfl
  |true=>exact absurd (reachB_iff.1 h) hr
theorem groups_nodup:(groupsR tos).Nodup:=by
 refine List.nodup_append.2 ⟨?_,?_,?_⟩
 ·refine List.Pairwise.map _ ?_ (List.Pairwise.imp_of_mem ?_ (List.Pairwise.filter (ringIs (reachR tos)) (List.nodup_range (n:=(reachR tos).length))) (S:=fun a b=>ringTo (reachR tos) a (reachR tos).length≠ringTo (reachR tos) b (reachR tos).length))
  ·exact fun a b h=>h
  ·intro a b ha hb hab he
   rw [List.mem_filter] at ha hb
   have h1:=ha.2
   have h2:=hb.2
   unfold ringIs at h1 h2
   rw [Bool.and_eq_true,beq_iff_eq] at h1 h2
   rw [he,h2.2] at h1
   exact hab (Option.some.inj h1.2).symm
 ·refine List.Pairwise.map _ ?_ (List.Pairwise.filter _ (List.nodup_range (n:=tos.length)))
  exact fun a b h he=>h (List.singleton_inj.1 he)
 ·intro a ha b hb hab
  subst hab
  obtain ⟨d,hd,rfl⟩:=List.mem_map.1 hb
  rw [List.mem_filter,List.mem_range,Bool.not_eq_true'] at hd
  have:=(rings_mem (tos:=tos) (k:=d)).1 ⟨[d],ha,List.mem_singleton.2 rfl⟩
  rw [reachB_iff.2 this.2] at hd
  cases hd.2
theorem ready_ref {done:List Nat} {f:Nat} (hf:f < tos.length):readyR tos done f=(!done.contains f&&(List.range tos.length).all fun k => !reachB tos f k||reachB tos k f||done.contains k):=by
 rw [Bool.eq_iff_iff,ready_iff,Bool.and_eq_true,List.all_eq_true,Bool.not_eq_true',List.contains_eq_mem,decide_eq_false_iff_not]
 refine and_congr Iff.rfl ⟨fun h k hk=>?_,fun h k hk hr=>?_⟩
 ·rw [List.mem_range] at hk
  cases hr:reachB tos f k with
  |false=>rfl
  |true=>
   have hfk:=reachB_iff.1 hr
   rcases h k hk hfk with h|h
   ·simp [h]
   ·have:reachB tos k f=true:=by
     rcases ((mem_grp hf).1 h).2 with rfl|⟨_,h2⟩
     ·exact hr
     ·exact reachB_iff.2 h2
    simp [this]
 ·have:=h k (List.mem_range.2 hk)
  rw [reachB_iff.2 hr] at this
  simp only [Bool.not_true,Bool.false_or,Bool.or_eq_true,List.contains_iff_mem] at this
  rcases this with h|h
  ·exact .inr ((mem_grp hf).2 ⟨hk, .inr ⟨hr,reachB_iff.1 h⟩⟩)
  ·exact .inl h
structure BestIs (tos:List (List Nat)) (done:List Nat) (g:Nat) (best:Option Nat):Prop where
 none:best=none->∀ i f r,i < g->(groupsR tos)[i]? = some (f::r)->readyR tos done f=false
 some:∀ j,best=some j->j < g/\∃ f r,(groupsR tos)[j]? = some (f::r)/\readyR tos done f=true/\∀ i f' r',i < g->(groupsR tos)[i]? = some (f'::r')->readyR tos done f'=true->f<=f'
theorem BestIs.zero {done:List Nat}:BestIs tos done 0 .none:=⟨fun _ i _ _ h=>absurd h (Nat.not_lt_zero i),fun _ h=>by cases h⟩
theorem BestIs.skip {done:List Nat} {g:Nat} {best:Option Nat} (h:BestIs tos done g best) {f:Nat} {r:List Nat} (hg:(groupsR tos)[g]? = .some (f::r))
  (hn:readyR tos done f=false\/∃ j f' r',best = .some j/\(groupsR tos)[j]? = .some (f'::r')/\f'<=f):BestIs tos done (g+1) best where
 none:=fun hb i f' r' hi he=>by
  rcases Nat.lt_or_eq_of_le (Nat.le_of_lt_succ hi) with hi|rfl
  ·exact h.none hb i f' r' hi he
  ·rw [hg] at he;cases he
   rcases hn with hn|⟨j,_,_,hj,_⟩
   ·exact hn
   ·rw [hb] at hj;cases hj
 some:=fun j hj=>by
  obtain ⟨h1,f1,r1,h2,h3,h4⟩:=h.some j hj
  refine ⟨by omega,f1,r1,h2,h3,fun i f' r' hi he hr=>?_⟩
  rcases Nat.lt_or_eq_of_le (Nat.le_of_lt_succ hi) with hi|rfl
  ·exact h4 i f' r' hi he hr
  ·rw [hg] at he;cases he
   rcases hn with hn|⟨j',f2,r2,hj',h5,h6⟩
   ·rw [hr] at hn;cases hn
   ·rw [hj] at hj';cases hj'
    rw [h2] at h5;cases h5
    exact h6
theorem BestIs.take {done:List Nat} {g:Nat} {best:Option Nat} (h:BestIs tos done g best) {f:Nat} {r:List Nat} (hg:(groupsR tos)[g]? = .some (f::r)) (hr:readyR tos done f=true)
  (hn:best = .none\/∃ j f' r',best = .some j/\(groupsR tos)[j]? = .some (f'::r')/\f < f'):BestIs tos done (g+1) (.some g) where
 none:=fun hb=>by cases hb
 some:=fun j hj=>by
  cases hj
  refine ⟨by omega,f,r,hg,hr,fun i f' r' hi he hr'=>?_⟩
  rcases Nat.lt_or_eq_of_le (Nat.le_of_lt_succ hi) with hi|rfl
  ·rcases hn with hn|⟨j',f2,r2,hj',h5,h6⟩
   ·rw [h.none hn i f' r' hi he] at hr';cases hr'
   ·obtain ⟨_,f1,r1,h2,_,h4⟩:=h.some j' hj'
    rw [h2] at h5;cases h5
    have:=h4 i f' r' hi he hr'
    omega
  ·rw [hg] at he;cases he;exact Nat.le_refl _
theorem BestIs.fin {done:List Nat} (hdone:DoneIs tos done) (hl:done.length < tos.length) {best:Option Nat} (h:BestIs tos done (groupsR tos).length best):∃ j d,best = .some j/\(groupsR tos)[j]? = .some (grpR tos d)/\nextR tos done = .some d/\d < tos.length/\d∉done:=by
 obtain ⟨d,h1,h2,h3⟩:=next_some hl
 obtain ⟨_,h4,h5⟩:=next_inv h1
 obtain ⟨i,hi⟩:=List.mem_iff_getElem?.1 (groups_all h2)
 obtain ⟨f,r,hf,hg1,hg2⟩:=groups_is (groups_all h2)
 have hfd:f∈grpR tos d:=by rw [hg1];exact List.mem_cons_self ..
 have hfr:=ready_same hdone h2 hfd h4
 have hle:=grp_head hg1 (grp_self h2)
 have hfeq:f=d:=by
  rcases Nat.lt_or_eq_of_le hle with hlt|h
  ·rw [h5 f hlt] at hfr;cases hfr
  ·exact h
 have hil:i < (groupsR tos).length:=(List.getElem?_eq_some_iff.1 hi).1
 rw [hg1] at hi
 cases best with
 |none=>rw [h.none rfl i f r hil hi] at hfr;cases hfr
 |some j=>
  obtain ⟨_,f1,r1,k2,k3,k4⟩:=h.some j rfl
  have hle1:=k4 i f r hil hi hfr
  have hf1:f1=d:=by
   rcases Nat.lt_or_eq_of_le (by omega:f1<=d) with hlt|h
   ·rw [h5 f1 hlt] at k3;cases k3
   ·exact h
  obtain ⟨f2,r2,_,e1,e2⟩:=groups_is (List.mem_of_getElem? k2)
  cases e1
  refine ⟨j,d,rfl,?_,h1,h2,h3⟩
  rw [k2,e2,hf1]
theorem groups_done {done:List Nat} (hdone:DoneIs tos done) {out:List (List Nat)} (ho:out.Nodup) (hs:∀ g∈out,g∈groupsR tos) (hd:∀ g∈groupsR tos,g∈out↔∀ k∈g,k∈done) :
  (out.length < (groupsR tos).length↔done.length < tos.length):=by
 constructor
 ·intro h
  refine Nat.lt_of_le_of_ne hdone.len fun he=>?_
  have:=nodup_le (groupsR tos) out groups_nodup (fun g hg=>(hd g hg).2 fun k hk=>by
   obtain ⟨f,r,hf,_,e⟩:=groups_is hg
   rw [e] at hk
   exact hdone.all (by omega) (grp_lt hk))
  omega
 ·intro h
  obtain ⟨d,hdl,hdn⟩:=DoneIs.some h
  have hg:=groups_all hdl
  have hno:grpR tos d∉out:=fun hc=>hdn ((hd _ hg).1 hc d (grp_self hdl))
  have:=nodup_le (grpR tos d::out) (groupsR tos) (List.nodup_cons.2 ⟨hno,ho⟩) (fun g hg'=>by
   rcases List.mem_cons.1 hg' with rfl|hg'
   ·exact hg
   ·exact hs g hg')
  simp only [List.length_cons] at this
  omega
end
end Go.Abs
