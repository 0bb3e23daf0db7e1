/- What each node of a formed program is like. -/
import Derived.Test.YtbdoijpclmhbaaaKp9
open Go Go.Abs
namespace Go.Abs
set_option maxRecDepth 100000
def NodeIs (srcs defs:List Str) (ahead:Nat) (x:Exp):Prop:=∃ s,shapeR x.op=some s/\headIs srcs defs ahead s x.op x.name x.n x.fold x.calcs.length x.kids.length=true
mutual
theorem expR_head (srcs defs:List Str) (ahead:Nat):∀ (e:Exp) (depth left:Int),0<=expR srcs defs ahead e depth left->∀ x∈allE e,NodeIs srcs defs ahead x
 | .mk op name n fold calcs kids,depth,left,h,x,hx=>by
  rw [expR] at h
  rw [allE] at hx
  cases hs:shapeR op with
  |none=>rw [hs] at h;simp at h
  |some s=>
   rw [hs] at h
   dsimp only at h
   split at h
   ·omega
   ·split at h
    ·rename_i hh
     split at h
     ·omega
     ·rcases List.mem_cons.1 hx with he|hx
      ·rw [he]
       exact ⟨s,hs,hh⟩
      ·exact expRs_head srcs defs ahead kids depth left _ h x hx
    ·omega
theorem expRs_head (srcs defs:List Str) (ahead:Nat):∀ (l:List Exp) (depth left n:Int),0<=expRs srcs defs ahead l depth left n->∀ x∈allEs l,NodeIs srcs defs ahead x
 |[],_,_,_,_,x,hx=>by cases hx
 |k::r,depth,left,n,h,x,hx=>by
  rw [expRs] at h
  rw [allEs] at hx
  split at h
  ·omega
  ·rcases List.mem_append.1 hx with hx|hx
   ·exact expR_head srcs defs ahead k (depth+1) (left-n) (by omega) x hx
   ·exact expRs_head srcs defs ahead r depth left _ h x hx
end
theorem countL_head (srcs names:List Str):∀ (ds:List Dfn) (i:Nat) (n:Int),0<=countL srcs names ds i n->∀ j d,ds[j]? = some d->∀ x∈allE d.exp,NodeIs srcs names (i+j) x
 |[],_,_,_,j,d,hd=>by simp at hd
 |k::r,i,n,h,j,d,hd=>by
  rw [countL] at h
  split at h
  ·omega
  ·cases j with
   |zero=>
    simp at hd
    subst hd
    exact expR_head srcs names i k.exp 1 (60-n) (by omega)
   |succ j=>
    have:=countL_head srcs names r (i+1) _ h j d (by simpa using hd)
    rwa [show i+1+j=i+(j+1) by omega] at this
theorem countR_parts {p:Pgm} (h:0<=countR p):(1<=p.srcs.length/\p.srcs.length<=4/\p.defs.length<=6)/\diff (p.srcs++defNames p)=true/\defNames p=p.defs.map Dfn.name/\∀ i d,p.defs[i]? = some d->∀ x∈allE d.exp,NodeIs p.srcs (defNames p) i x:=by
 unfold countR at h
 split at h
 ·omega
 ·rename_i h0
  split at h
  ·rename_i h1
   refine ⟨by omega,h1,?_,fun i d hd=>?_⟩
   ·unfold defNames
    rw [List.take_of_length_le (by omega)]
   ·have:=countL_head p.srcs (defNames p) p.defs 0 0 h i d hd
    rwa [Nat.zero_add] at this
  ·omega
theorem diff_get {l:List Str} (h:diff l=true) {i:Nat} {s:Str} (hi:l[i]? = some s):nameOk s=true/\s∉l.take i:=by
 unfold diff at h
 have hlt:=(List.getElem?_eq_some_iff.1 hi).1
 have:=List.all_eq_true.1 h i (List.mem_range.2 hlt)
 rw [show l.getD i []=s from by rw [List.getD_eq_getElem?_getD,hi];rfl] at this
 simp only [Bool.and_eq_true,Bool.not_eq_true'] at this
 exact ⟨this.1,by simpa using this.2⟩
theorem diff_nodup {l:List Str} (h:diff l=true):l.Nodup:=by
 refine List.pairwise_iff_getElem.2 fun i j hi hj hij he=>?_
 have hs:l[j]? = some l[j]:=List.getElem?_eq_getElem hj
 have:=(diff_get h hs).2
 exact this (List.mem_iff_getElem?.2 ⟨i,by rw [List.getElem?_take];simp [hij,he,hi]⟩)
theorem diff_mem {l:List Str} (h:diff l=true) {s:Str} (hs:s∈l):nameOk s=true:=by
 obtain ⟨i,hi⟩:=List.mem_iff_getElem?.1 hs
 exact (diff_get h hi).1
end Go.Abs

/- Programs with other names, as the reference makes them. -/
open Go Go.Abs
namespace Go.Abs
set_option maxRecDepth 100000
set_option maxHeartbeats 4000000
def oldN (p:Pgm):List Str:=p.srcs++p.defs.map Dfn.name
theorem progR_parts {p:Pgm} (h:progR p=true):(oldN p).Nodup/\(1<=p.srcs.length/\p.srcs.length<=4)/\p.defs.length<=6/\(∀ d∈p.defs,d.exp.Sm)/\(∀ s∈oldN p,nameOk s=true)/\∀ i d,p.defs[i]? = some d->∀ x∈allE d.exp,NodeIs p.srcs (p.defs.map Dfn.name) i x:=by
 have hc:=progR_count h
 obtain ⟨h1,h2,h3,h4⟩:=countR_parts hc
 rw [h3] at h2 h4
 exact ⟨diff_nodup h2,⟨h1.1,h1.2.1⟩,h1.2.2,countR_sm hc,fun s hs=>diff_mem h2 hs,h4⟩
end Go.Abs

/- Which programs are alike. -/
open Go Go.Abs
namespace Go.Abs
set_option maxRecDepth 100000
set_option maxHeartbeats 4000000
theorem ret24 {p:Pgm} (h:p.Sm):Ret CC 4 [p.iv] p.iv:=by
 have hsm:=h.exp
 have hs:=h.srcs
 have hd:=h.defs
 obtain ⟨srcs,defs⟩:=p
 simp only at *
 have hdm:(defs.map Dfn.iv).length=defs.length:=List.length_map ..
 have hfs:∀ l:List Str,((l.map sv).map AV.imm).all (AV.fits 1)=true:=fun l=>fits_all (fun y hy=>by obtain ⟨z,_,rfl⟩:=List.mem_map.1 hy;rfl)
 refine Ret.of (fn:=Go.Proofs.Try.f4) (by kernel_rfl) rfl rfl ?_
 refine BB ?_
 refine R.op1 (O.appNil rfl rfl rfl rfl (ys:=(srcs.map sv).map AV.imm) rfl (by decide) (by decide) rfl (hfs _) (by simp only [List.length_map,most];omega)) rfl ?_
 have hsl:((srcs.map sv).map AV.imm).length=srcs.length:=by simp
 rw [hsl]
 refine BB ?_
 refine W.loop (X:=Nat×AV) (fun x=>[(1, .ptr 0 0),(2, .ptr 1 0),(3, .ptr 6 0),(4, .imm (.int .i64 x.1))])
  (fun x nx G=>9<=nx/\G 0 = .box [.imm (.lst (srcs.map sv)), .imm (.lst (defs.map Dfn.iv))] false/\G 1 = .box ty29.zero.cells false/\G 4 = .row 9 1 ((srcs.map sv).map AV.imm) false/\G 6 = .box [.row 4 srcs.length,x.2] false/\x.1<=defs.length/\Own 42 7 9 nx ((defs.take x.1).map Dfn.iv) G x.2)
  (fun x=>defs.length-x.1) (0, .nils) .auto ⟨by omega,rfl,rfl,rfl,rfl,Nat.zero_le _, .nil ..⟩ ?_
 rintro ⟨i,w⟩ nx G ⟨hnx,g0,g1,g4,g6,hi,ho⟩
 dsimp only at g6 hi ho ⊢
 have hw1:=ho.cells1
 have hw2:=ho.one1
 rcases Bool.eq_false_or_eq_true (decide ((i:Int) < ((defs.map Dfn.iv).length:Int))) with hcc|hcc
 ·have hlt:i < defs.length:=by have:=of_decide_eq_true hcc;omega
  obtain ⟨y,hy⟩:=at_lt hlt
  have hyi:=at_map Dfn.iv hy
  have hdc:=y.cells_len
  have hmu:defs.length-(i+1) < defs.length-i:=by omega
  have hr:=ret62 (hsm y (List.mem_of_getElem? hy))
  have htk:(defs.take (i+1)).map Dfn.iv=(defs.take i).map Dfn.iv++[y.iv]:=by
   rw [List.take_add_one,hy,List.map_append];rfl
  have hlen:((defs.take i).map Dfn.iv).length<=1048576:=by simp;omega
  obtain ⟨ny,⟨o1,s1,n1,f1,c1,k1⟩⟩:=y
  refine BB ?_
  refine D.app2 ho at_upd (by simp only [most];omega) fun v' G' o' ho' hG' hG2 hlo hlo2=>?_
  have hv1:=ho'.cells1
  have hv2:=ho'.one1
  have i0:=(hG' 0 (by omega)).trans (Eq.trans at_upd g0)
  have i1:=(hG' 1 (by omega)).trans (Eq.trans at_upd g1)
  have i4:=(hG' 4 (by omega)).trans (Eq.trans at_upd g4)
  have i6:=(hG' 6 (by omega)).trans (Eq.trans at_upd g6)
  refine BD ?_
  refine D.skipN' [0,6,o',nx+5+16] (by simp;omega) [⟨0,[],[],[]⟩,⟨1,[2],[],[]⟩,⟨2,[],[],[]⟩,⟨3,[1],[],[]⟩,⟨4,[],[],[]⟩,⟨5,[],[],[]⟩,⟨6,[],[],[]⟩,⟨7,[],[],[]⟩,⟨8,[],[],[]⟩,⟨9,[1],[],[]⟩,
   ⟨10,[],[],[]⟩,⟨11,[],[],[]⟩,⟨12,[],[],[]⟩,⟨13,[],[],[]⟩,⟨14,[],[],[]⟩,⟨15,[],[],[]⟩,⟨16,[],[4],[]⟩,⟨17,[3,4],[3],[]⟩,⟨18,[],[],[]⟩,⟨19,[2],[2],[]⟩] rfl rfl (by kernel_rfl) ?_
  refine BB ?_
  refine W.skipLop (i+1,v') hmu .auto ⟨by omega,Eq.trans at_upd i0,Eq.trans at_upd i1,Eq.trans at_upd i4,at_upd,hlt,?_⟩
  show Own 42 7 9 _ ((defs.take (i+1)).map Dfn.iv) _ v'
  rw [htk]
  exact ho'.fr
 ·have hge:defs.length<=i:=by have:=of_decide_eq_false hcc;omega
  rw [List.take_of_length_le hge] at ho
  have hmk:mkAgg [.row 4 srcs.length,w] = .agg [.row 4 srcs.length,w]:=mkAgg_not ⟨.row 4 srcs.length,by simp,by intro x h;cases h⟩
  have hft:AV.fits 2 (.agg [.row 4 srcs.length,w])=true:=by
   show ((2==2)&&(true&&(w.one&&true)))=true
   rw [hw2];rfl
  have hrw:Rdx 2 G (fun o=>2<=o) (.agg [.row 4 srcs.length,w]) (Pgm.mk srcs defs).iv:=
   Rdx.agg (d:=1) (.cons (Rdx.row (d:=0) (e:=9) (sz:=1) (fr:=false) g4 hsl (All2.imms 0 _ _ _) (by omega)) (.cons (ho.rdx.frame (fun _ _=>rfl) fun _ h=>by omega) .nil))
  refine BB ?_
  refine R.opN1 (O.storeP rfl (congrArg some hmk) hft g1 rfl rfl) ?_
  refine BB ?_
  refine W.retFinCA (cs:=[.row 4 srcs.length,w]) rfl at_upd rfl rfl ?_
  rw [hmk]
  exact (hrw.frame (fun o h=>at_upd) fun _ h=>h).peek (by decide)
end Go.Abs

/- Sorted numbers of a set. (No program in sight.) -/
open Go Go.Abs
namespace Go.Abs
theorem slt_ext:∀ {a b:List Int},a.Pairwise (· < ·)->b.Pairwise (· < ·)->(∀ x,x∈a↔x∈b)->a=b
 |[],[],_,_,_=>rfl
 |[],y::s,_,_,h=>absurd ((h y).2 (by simp)) (by simp)
 |x::r,[],_,_,h=>absurd ((h x).1 (by simp)) (by simp)
 |x::r,y::s,ha,hb,h=>by
  rw [List.pairwise_cons] at ha hb
  have hxy:x=y:=by
   have h1:=(h x).1 (by simp)
   have h2:=(h y).2 (by simp)
   rcases List.mem_cons.1 h1 with h1|h1
   ·exact h1
   ·rcases List.mem_cons.1 h2 with h2|h2
    ·exact h2.symm
    ·have:=ha.1 y h2
     have:=hb.1 x h1
     omega
  subst hxy
  rw [slt_ext ha.2 hb.2 fun z=>?_]
  constructor
  ·intro hz
   have:=ha.1 z hz
   rcases List.mem_cons.1 ((h z).1 (by simp [hz])) with h1|h1
   ·omega
   ·exact h1
  ·intro hz
   have:=hb.1 z hz
   rcases List.mem_cons.1 ((h z).2 (by simp [hz])) with h1|h1
   ·omega
   ·exact h1
theorem ins_mem {x z:Int}:∀ {l:List Int},z∈ins x l↔z=x\/z∈l
 |[]=>by simp [ins]
 |y::r=>by
  unfold ins
  split
  ·simp
  ·simp only [List.mem_cons,ins_mem (l:=r)]
   constructor
   ·rintro (h|h|h)<;>simp [h]
   ·rintro (h|h|h)<;>simp [h]
theorem isort_mem {z:Int}:∀ {l:List Int},z∈isort l↔z∈l
 |[]=>by simp [isort]
 |x::r=>by rw [isort,ins_mem,isort_mem,List.mem_cons]
theorem ins_slt {x:Int}:∀ {l:List Int},l.Pairwise (· < ·)->x∉l->(ins x l).Pairwise (· < ·)
 |[],_,_=>by simp [ins]
 |y::r,h,hx=>by
  have hne:x≠y:=fun e=>hx (by simp [e])
  have hr:x∉r:=fun e=>hx (by simp [e])
  unfold ins
  rw [List.pairwise_cons] at h
  split
  ·rename_i hle
   rw [List.pairwise_cons,List.pairwise_cons]
   refine ⟨fun z hz=>?_,h⟩
   rcases List.mem_cons.1 hz with rfl|hz
   ·omega
   ·have:=h.1 z hz;omega
  ·rename_i hle
   rw [List.pairwise_cons]
   refine ⟨fun z hz=>?_,ins_slt h.2 hr⟩
   rcases ins_mem.1 hz with rfl|hz
   ·omega
   ·exact h.1 z hz
theorem isort_slt:∀ {l:List Int},l.Nodup->(isort l).Pairwise (· < ·)
 |[],_=>by simp [isort]
 |x::r,h=>by
  rw [List.nodup_cons] at h
  exact ins_slt (isort_slt h.2) fun e=>h.1 (isort_mem.1 e)
theorem ints_nats (l:List Nat):ints (l.map natIV)=l.map Int.ofNat:=by
 induction l with
 |nil=>rfl
 |cons x r ih=>
  rw [List.map_cons,List.map_cons,<-ih];rfl
theorem sorted_eq {out:List Nat} {n:Nat} {P:Nat->Bool} (hn:out.Nodup) (hb:∀ x∈out,x < n) (hP:∀ x,x < n->(P x=true↔x∈out)):(isort (ints (out.map natIV))).map (IV.int .i64)=((List.range n).filter P).map natIV:=by
 have key:isort (ints (out.map natIV))=((List.range n).filter P).map Int.ofNat:=by
  rw [ints_nats]
  refine slt_ext (isort_slt ?_) ?_ fun z=>?_
  ·rw [List.Nodup,List.pairwise_map]
   exact hn.imp fun h e=>h (Int.ofNat.inj e)
  ·rw [List.pairwise_map]
   refine (List.Pairwise.filter _ List.pairwise_lt_range).imp fun h=>?_
   exact Int.ofNat_lt.2 h
  ·rw [isort_mem,List.mem_map,List.mem_map]
   constructor
   ·rintro ⟨x,hx,rfl⟩
    exact ⟨x,List.mem_filter.2 ⟨List.mem_range.2 (hb x hx),(hP x (hb x hx)).2 hx⟩,rfl⟩
   ·rintro ⟨x,hx,rfl⟩
    rw [List.mem_filter,List.mem_range] at hx
    exact ⟨x,(hP x hx.1).1 hx.2,rfl⟩
 rw [key,List.map_map]
 rfl
theorem natKeys_int (l:List Nat):(l.map natIV).all isIntIV=true:=by
 induction l with
 |nil=>rfl
 |cons x r ih=>rw [List.map_cons,List.all_cons,ih];rfl
end Go.Abs

/- Lists of numbers: comparing what is the same; the numbers of what is true. -/
open Go Go.Abs
namespace Go.Abs
set_option maxRecDepth 100000
set_option maxHeartbeats 4000000
theorem ret19 {l:List Int} (hl:l.length<=9223372036854775807):Ret CC 8 [intsIV l,intsIV l] (.bool true):=by
 have hlm:(l.map intIV).length=l.length:=List.length_map ..
 have b3:(((l.map intIV).length:Int) != ((l.map intIV).length:Int))=false:=by simp
 refine Ret.of (fn:=Go.Proofs.Try.f8) (by kernel_rfl) rfl rfl ?_
 refine AA ?_
 refine W.loop (X:=Nat) (fun i=>[(0, .imm (intsIV l)),(1, .imm (intsIV l)),(5, .imm (.int .i64 i))])
  (fun i nx G=>i<=l.length) (fun i=>l.length-i) 0 .auto (Nat.zero_le _) ?_
 rintro i nx G hi
 rcases Bool.eq_false_or_eq_true (decide ((i:Int) < ((l.map intIV).length:Int))) with hc|hc
 ·have hlt:i < l.length:=by have:=of_decide_eq_true hc;omega
  obtain ⟨d,hx⟩:=at_lt hlt
  have hxi:=at_map intIV hx
  have hmu:l.length-(i+1) < l.length-i:=by omega
  have hne:(d != d)=false:=by simp
  refine AA ?_
  exact W.skipLop (i+1) hmu .auto hlt
 ·refine AA ?_
  exact W.retFin1 rfl ⟨[],rfl⟩
end Go.Abs

/- What definitions depend on. -/
open Go Go.Abs
namespace Go.Abs
set_option maxRecDepth 100000
set_option maxHeartbeats 4000000
/-! ### sets -/
def addN (l:List Nat) (k:Nat):List Nat:=if l.contains k then l else l++[k]
theorem addN_mem {l:List Nat} {k x:Nat}:x∈addN l k↔x∈l\/x=k:=by
 unfold addN
 split
 ·rename_i h
  constructor
  ·exact .inl
  ·rintro (h'|rfl)
   ·exact h'
   ·simpa using h
 ·simp
theorem addN_nodup {l:List Nat} {k:Nat} (h:l.Nodup):(addN l k).Nodup:=by
 unfold addN
 split
 ·exact h
 ·rename_i h'
  rw [List.nodup_append]
  exact ⟨h,by simp,fun a ha b hb=>by rw [List.mem_singleton.1 hb];exact fun e=>h' (by simpa [e] using ha)⟩
theorem O.setPut {id:Nat} {l:Env} {G:Nat->Obj} {nx:Nat} {df:List (AV×List AV)} {pk:Pk} {m x y:Operand} {q k:Nat} {s:List Nat} (hm:lookO l m=some (.map q)) (hx:lookO l x=some (.imm (natIV k))) (hy:lookO l y=some (.imm (.bool true))) (hG:G q=setObj s) :
  OpV CC id l G nx df pk (.mapUpdate 46 m x y) .undef [(q, .set (setObj (addN s k)))]:=by
 unfold addN
 cases hc:s.contains k with
 |false=>
  rw [if_neg (by decide),setObj_add]
  exact O.mapNew (k:=ty74) (kk:=ty3) rfl inferInstance hm hx hy hG rfl (setNew hc)
 |true=>
  rw [if_pos rfl]
  have hsome:=findIdx_contains' k s
  rw [hc] at hsome
  obtain ⟨j,hj⟩:=Option.isSome_iff_exists.1 hsome
  have hlt:=findIdx_lt' hj
  have hkj:s[j]? = some k:=by
   rw [List.findIdx?_eq_some_iff_getElem] at hj
   obtain ⟨h1,h2,_⟩:=hj
   rw [List.getElem?_eq_getElem h1]
   have:k=s[j]:=by simpa using h2
   rw [<-this]
  have h1:(s.map natIV).set j (natIV k)=s.map natIV:=by
   rw [<-List.map_set]
   congr 1
   apply List.ext_getElem?
   intro i
   rw [List.getElem?_set]
   split
   ·rename_i he;subst he;rw [hkj];try simp [hlt]
   ·rfl
  have h2:((s.map fun _=>IV.bool true).map AV.imm).set j (.imm (.bool true))=(s.map fun _=>IV.bool true).map AV.imm:=by
   apply List.ext_getElem?
   intro i
   rw [List.getElem?_set]
   split
   ·rename_i he;subst he;simp [hlt]
   ·rfl
  refine O.of fun t' L hA=>?_
  have hkt:=(inferInstance:TyIs CC 46 ty74).is
  have hkt3:=(inferInstance:TyIs CC 3 ty3).is
  simp only [opA,hA.ev hm,hA.ev hx,hA.ev hy,aMapUpdate,hkt,hG,setObj,show ty74.d = .mp 3 4 from rfl,hkt3]
  rw [if_pos (show keyOk ty3.d (natIV k)=true from rfl),natKey,hj]
  simp only [h1,h2]
theorem orcSet {l:List Nat} {n:Nat} {P:Nat->Bool} (hn:l.Nodup) (hb:∀ x∈l,x < n) (hP:∀ x,x < n->(P x=true↔x∈l)) (hs:l.length<=4294967296):CC.orc 14 [setIV l]=some (.own 3 1 (((List.range n).filter P).map natIV)):=by
 show (if (l.map natIV).all isIntIV=true/\(l.map natIV).length<=4294967296 then some (OrcR.own 3 1 ((isort (ints (l.map natIV))).map (.int .i64))) else none)=_
 rw [if_pos ⟨natKeys_int l,by simpa using hs⟩,sorted_eq hn hb hP]
end Go.Abs

/- Keep: the program of some definitions, and of those on which they depend. -/
open Go Go.Abs
namespace Go.Abs
set_option maxRecDepth 100000
set_option maxHeartbeats 4000000
noncomputable def keepB (tos:List (List Nat)) (L:List Int) (e:Nat):Bool:=L.any fun d=>d.toNat==e||reachB tos d.toNat e
noncomputable def keepN (p:Pgm) (L:List Int):List Nat:=(List.range p.defs.length).filter (keepB (tosR p) L)
def takeD (defs:List Dfn) (L:List Nat):List Dfn:=L.filterMap fun i=>defs[i]?
noncomputable def keepP (p:Pgm) (L:List Int):Pgm:=⟨p.srcs,takeD p.defs (keepN p L)⟩
def insB (n:Nat) (d:Int):Bool:=decide (0<=d)&&decide (d < n)
noncomputable def keepR (p:Pgm) (L:List Int):Pgm×Int:=if progR p then (if L.all (insB p.defs.length) then (keepP p L,0) else (⟨[],[]⟩,2)) else (⟨[],[]⟩,2)
noncomputable def keepIV (p:Pgm) (L:List Int):IV := .tup [(keepR p L).1.iv, .int .i64 (keepR p L).2]
theorem W.skipM {C:Cfg} {fid fid' nt:Nat} {b:Code} {l:Env} {G:Nat->Obj} {nx:Nat} {df:List (AV×List AV)} {pk:Pk} {Φ:Out->Prop} (h:MW C fid nt b l G nx df pk Φ):W C fid' nt .skip l G nx df pk (aftM C fid nt b Φ) := .skip h.st
theorem MW.exitB {X:Type} {C:Cfg} {fid nt id:Nat} {c y:Code} {l:Env} {G:Nat->Obj} {nx:Nat} {df:List (AV×List AV)} {pk:Pk} {le:X->Env} {Ge:X->Nat->(Nat->Obj)->Prop} {mu:X->Nat} {z:X} {Φ:Out->Prop} (hC:CfgOK C) (h:MW C fid nt y l G nx df pk Φ) :
  MW C fid nt (.exit id) l G nx df pk (aftM C fid nt c (lop le Ge mu df pk z (blk' id (aftM C fid nt y Φ)))) := .of hC (.exit fun t ht=>by
 show (if id=id then (aftM C fid nt y Φ) (.norm ⟨t,G,nx,df,pk⟩) else _)
 rw [if_pos rfl]
 exact h.st t ht)
theorem MW.walkT {X:Type} {C:Cfg} {fid nt nx:Nat} {l:Env} {G:Nat->Obj} {df:List (AV×List AV)} {pk:Pk} {Φ:Out->Prop} {le:X->Env} {Ge:X->Nat->(Nat->Obj)->Prop} {so:X->List Nat} {ks us:List IV} {o it d1 fl d3 dk tm i11 i12 i13 e2 e3:Nat} {oN oE rg:Oper} {ol r12 r13:List Oper} {r14:Code} {tyM kt et:TypeId} {kM:TyI} {G1:Nat->Obj} {l1:Env} (hC:CfgOK C) (n:Nat) (x0:X)
  (hol:ol[n]? = some rg) (hln:ol.length=n+1) (hrg:rg.dst=some it/\rg.op = .range tyM (.tmp tm)/\rg.guard=none/\it < nt) [hk:TyIs C tyM kM] (hkm:kM.d = .mp kt et)
  (hA:R C nt ol nx 0 (ol.take n) l G (nx+ol.length) df pk (fun out=>∃ t',out = .norm ⟨t',G1,nx+ol.length,df,pk⟩/\Agree t' l1)) (hl1:look l1 tm=some (.imm (.fmp ks us))) (ho:o=nx+n)
  (H:WalkH C fid nt le Ge so ks o it d1 fl d3 dk oN oE r12 r13 r14 df pk) (hx0:Sub (le x0) ((it, .ptr o 0)::l1)) (hg0:Ge x0 (nx+ol.length) G1) (hs0:so x0=[])
  (hΦ:∀ x nx G,Ge x nx G->(∀ j,j < ks.length->j∈so x)->∀ t,Agree t (le x)->Φ (.norm ⟨t,G,nx,df,pk⟩)) :
  MW C fid nt (.seq (.region i11 ⟨ol⟩ false) (.block e2 (.loop (.seq (.region i12 ⟨oN::r12⟩ false) (.seq (.cond (.tmp fl) .skip (.exit e2)) (.block e3 (.seq (.region i13 ⟨oE::r13⟩ false) r14))))))) l G nx df pk Φ:=by
 have hA':ol=ol.take n++[rg]:=by
  obtain ⟨h1,h2⟩:=List.getElem?_eq_some_iff.1 hol
  conv=>lhs;rw [<-List.take_append_drop n ol]
  rw [List.drop_eq_getElem_cons h1,h2,List.drop_of_length_le (by omega)]
 have hlt:(ol.take n).length=n:=by rw [List.length_take];omega
 generalize ol.take n=A at *
 subst hA'
 refine (MW.walk (i11:=i11) (i12:=i12) (i13:=i13) (e2:=e2) (e3:=e3) (us:=us) hC x0 hrg hkm hA hl1 (by omega) H hx0 hg0 hs0).mono fun out h=>?_
 obtain ⟨⟨t,G2,n2,d2,p2⟩,x,rfl,h1,h2,h3,h4,h5⟩:=h
 simp only at h2 h3 h4 h5
 subst d2 p2
 exact hΦ x n2 G2 h3 h1 t h2
def InK (tos:List (List Nat)) (L:List Int) (e:Nat):Prop:=∃ d∈L,d.toNat=e\/Reach tos d.toNat e
theorem keep_calls {p:Pgm} (hp:p.Fits) {ls:List Int} (hls:ls.length<=maxI) {M:Mem} {w:World} {vs:Array Value} (hm:∀ b o,M b=some o->w.heap[b]? = some o) (hv:VL (VI M) [p.iv,intsIV ls] vs) :
  Calls CC.P 5 vs w fun e w'=>∃ cv,e = .returned cv/\WS (QN w) w w'/\OrcEnd w M cv w' (.dat (keepIV p ls)):=by
 have h54:=ret54 p hp
 have hls:ls.length<=9223372036854775807:=hls
 unfold keepIV keepR
 unfold lookedIV at h54
 cases hb:progR p with
 |false=>
  rw [hb] at h54
  simp only [Bool.false_eq_true,if_false] at h54 ⊢
  refine MW.calls cfgOK (fn:=Go.Proofs.Try.f5) (by kernel_rfl) rfl rfl (.of cfgOK ?_) hm hv
  clear hv hm
  obtain ⟨srcs,defs⟩:=p
  refine BB ?_
  exact W.retFinCT rfl rfl rfl rfl rfl ⟨[],rfl⟩
 |true=>
 rw [hb] at h54
 simp only [if_true] at h54 ⊢
 have hc:=progR_count hb
 have hg:=countR_good hc
 have htl:(tosR p).length=p.defs.length:=hg.steps.2.1
 obtain ⟨hn,hs,hd6,hsm,hok,hnode⟩:=progR_parts hb
 have h47:=fun d hd=>ret47 hp hg.tos ((p.defs.length-1:Nat):Int) (countR p) (d:=d) hd
 have hsi:∀ d∈p.defs,Ret CC 15 [d.exp.iv] d.exp.iv:=fun d hd=>ret63 (hsm d hd)
 obtain ⟨cs,hcs⟩:∃ cs,scopeIV p ((p.defs.length-1:Nat):Int) (countR p) = .fptr cs 0:=⟨_,rfl⟩
 rw [hcs] at h54
 simp only [hcs] at h47
 refine MW.calls cfgOK (fn:=Go.Proofs.Try.f5) (by kernel_rfl) rfl rfl ?_ hm hv
 clear hv hm
 unfold keepP keepN
 generalize tosR p=tos at *
 clear hg hc hnode hcs
 obtain ⟨srcs,defs⟩:=p
 simp only at *
 have horc:CC.orc 13 [.lst (srcs.map sv)]=some (.own 9 1 (srcs.map sv)):=by
  show (if (srcs.map sv).all isStrIV=true/\(srcs.map sv).length<=4294967296 then some (OrcR.own 9 1 (srcs.map sv)) else none)=_
  rw [if_pos ⟨by rw [List.all_map];exact List.all_eq_true.2 fun _ _=>rfl,by simp;omega⟩]
 have hdm:(defs.map Dfn.iv).length=defs.length:=List.length_map ..
 have hlm:(ls.map intIV).length=ls.length:=List.length_map ..
 refine MW.seq (.of cfgOK ?_)
 refine BB ?_
 refine W.skipM ?_
 refine MW.seq (.of cfgOK ?_)
 refine BB ?_
 refine W.skipM ?_
 refine MW.seq (.of cfgOK ?_)
 refine BB ?_
 refine W.skipM ?_
 refine MW.seq (.of cfgOK ?_)
 refine BB ?_
 refine W.skipM ?_
 refine MW.seq (MW.seq (.of cfgOK ?_))
 refine BB ?_
 refine W.skipM ?_
 refine MW.block ?_
 refine MW.loop (X:=Nat) (fun i=>[(1, .imm (intsIV ls)),(2, .ptr 0 0),(4, .ptr 1 0),(6, .imm (.fptr cs 0)),(7, .map 8),(20, .imm (intsIV ls)),(21, .imm (.int .i64 (ls.map intIV).length)),(22, .imm (.int .i64 i))])
  (fun i nx G=>13<=nx/\G 0 = .box [.imm (.lst (srcs.map sv)), .imm (.lst (defs.map Dfn.iv))] false/\G 1 = .box ty29.zero.cells false/\i<=ls.length/\(∀ d∈ls.take i,insB defs.length d=true)/\∃ s:List Nat,G 8=setObj s/\s.Nodup/\(∀ x∈s,x < tos.length)/\∀ e,e∈s↔InK tos (ls.take i) e)
  (fun i=>ls.length-i) 0 .auto ⟨by omega,rfl,rfl,Nat.zero_le _,(fun d hd=>by cases hd),[],rfl,List.nodup_nil,(fun _ h=>by cases h),fun e=>⟨(fun h=>by cases h),fun h=>by obtain ⟨_,h,_⟩:=h;cases h⟩⟩ ?_
 rintro i nx G ⟨hnx,g0,g1,hi,hins,s,g8,s1,s2,s3⟩
 refine MW.seq (.of cfgOK ?_)
 refine BB ?_
 refine W.skipM ?_
 refine MW.seq (MW.cond rfl (fun h1=>?_) (fun h1=>?_))
 ·have hlt:i < ls.length:=by have:=of_decide_eq_true h1;rw [hlm] at this;omega
  obtain ⟨d,hd⟩:=at_lt hlt
  have hdi:(ls.map intIV)[((i:Nat):Int).toNat]? = some (.int .i64 d):=at_map intIV hd
  refine .of cfgOK (W.skipM ?_)
  refine MW.seq (MW.block ?_)
  refine MW.seq (.of cfgOK ?_)
  refine BB ?_
  refine W.skipM ?_
  cases hin:insB defs.length d with
  |false=>
   have hall:ls.all (insB defs.length)=false:=by
    rw [List.all_eq_false]
    exact ⟨d,List.mem_of_getElem? hd,by rw [hin];decide⟩
   rw [hall]
   refine MW.seq (.of cfgOK ?_)
   rcases Bool.eq_false_or_eq_true (decide (d < 0)) with c1|c1
   ·refine BB ?_
    exact .ret (W.retFinCT (fid:=0) (nt:=0) (Ψ:=fun v G _=>∃ ids,peek G pkDepth v=some (.tup [(Pgm.mk [] []).iv, .int .i64 2],ids)) (cs:=ty29.zero.cells) rfl at_upd rfl rfl rfl ⟨[],rfl⟩).retI
   ·have c2:decide (d>=((defs.map Dfn.iv).length:Int))=true:=by
     unfold insB at hin
     rw [decide_eq_true (by have:=of_decide_eq_false c1;omega:(0:Int)<=d),Bool.true_and] at hin
     have:=of_decide_eq_false hin
     exact decide_eq_true (by rw [hdm];omega)
    refine BB ?_
    exact .ret (W.retFinCT (fid:=0) (nt:=0) (Ψ:=fun v G _=>∃ ids,peek G pkDepth v=some (.tup [(Pgm.mk [] []).iv, .int .i64 2],ids)) (cs:=ty29.zero.cells) rfl at_upd rfl rfl rfl ⟨[],rfl⟩).retI
  |true=>
   have hdb:0<=d/\d < defs.length:=by
    unfold insB at hin
    rw [Bool.and_eq_true] at hin
    exact ⟨of_decide_eq_true hin.1,of_decide_eq_true hin.2⟩
   obtain ⟨d,rfl⟩:=Int.eq_ofNat_of_zero_le hdb.1
   have c1:decide (((d:Nat):Int) < 0)=false:=decide_eq_false (by omega)
   have c2:decide (((d:Nat):Int)>=((defs.map Dfn.iv).length:Int))=false:=decide_eq_false (by rw [hdm];omega)
   refine MW.seq (.of cfgOK ?_)
   refine BB ?_
   refine W.skipM ?_
   refine MW.seq (.of cfgOK ?_)
   refine BB ?_
   refine R.opN1 (O.setPut rfl rfl rfl g8) ?_
   refine BB ?_
   refine W.skipM ?_
   obtain ⟨out,o1,o2,o3,h47⟩:=h47 d (by omega)
   have hmu:ls.length-(i+1) < ls.length-i:=by omega
   have hol:(out.map natIV).length=out.length:=List.length_map ..
   unfold setIV at h47
   refine MW.walkT (X:=List Nat) (ks:=out.map natIV) (us:=out.map fun _ => .bool true) (o:=nx+1+3+9+3+4)
    (le:=fun _=>[(1, .imm (intsIV ls)),(2, .ptr 0 0),(4, .ptr 1 0),(6, .imm (.fptr cs 0)),(7, .map 8),(20, .imm (intsIV ls)),(21, .imm (.int .i64 (ls.map intIV).length)),(22, .imm (.int .i64 i)),(42, .ptr (nx+1+3+9+3+4) 0)])
    (Ge:=fun x n2 G2=>nx+1+3+9+3+5<=n2/\G2 0 = .box [.imm (.lst (srcs.map sv)), .imm (.lst (defs.map Dfn.iv))] false/\G2 1 = .box ty29.zero.cells false/\∃ s':List Nat,G2 8=setObj s'/\s'.Nodup/\(∀ x∈s',x < tos.length)/\∀ e,e∈s'↔(e∈addN s d\/∃ j∈x,out[j]? = some e))
    (so:=fun x=>x) (dk:=10) (l1:=[(1, .imm (intsIV ls)),(2, .ptr 0 0),(4, .ptr 1 0),(6, .imm (.fptr cs 0)),(7, .map 8),(20, .imm (intsIV ls)),(21, .imm (.int .i64 (ls.map intIV).length)),(22, .imm (.int .i64 i)),(41, .imm (.fmp (out.map natIV) (out.map fun _ => .bool true)))])
    (G1:=upd G 8 (setObj (addN s d))) cfgOK 4 [] rfl rfl ⟨rfl,rfl,rfl,by decide⟩ rfl ?_ rfl rfl ⟨fun _=>rfl,⟨rfl,rfl,rfl,by decide⟩,⟨rfl,rfl,rfl,by decide⟩,?_,?_,?_,?_,?_⟩ .auto ?_ rfl ?_
   ·refine BQ ?_
    exact R.last fun t ht=>⟨t,rfl,ht.sub .auto⟩
   ·rintro x n2 G2 v bb hg hv
    rcases hv with rfl|⟨kk,uu,rfl⟩
    ·refine BQ ?_
     exact R.last fun t ht=>⟨t,rfl,ht.sub .auto⟩
    ·refine BQ ?_
     exact R.last fun t ht=>⟨t,rfl,ht.sub .auto⟩
   ·intro x v;exact .auto
   ·rintro x n2 G2 kk uu hg
    refine BQ ?_
    exact R.last fun t ht=>⟨t,rfl,ht.sub .auto⟩
   ·rintro x n2 G2 j kk ⟨hn2,k0,k1,s',k8,t1,t2,t3⟩ hj hnot
    rw [List.getElem?_map,Option.map_eq_some_iff] at hj
    obtain ⟨e,he,rfl⟩:=hj
    have het:=o2 e (List.mem_of_getElem? he)
    refine BB ?_
    refine R.opN1 (O.setPut rfl rfl rfl k8) ?_
    refine BB ?_
    refine .skip fun t ht=>⟨_,j::x,rfl,rfl,ht.sub .auto,⟨by simp only;omega,at_upd,at_upd,addN s' e,upd_same G2 8 _,addN_nodup t1,fun y hy=>?_,fun y=>?_⟩,rfl,rfl⟩
    ·rcases addN_mem.1 hy with hy|rfl
     ·exact t2 y hy
     ·exact het
    ·rw [addN_mem,t3 y]
     constructor
     ·rintro ((h|⟨j2,h,h5⟩)|rfl)
      ·exact .inl h
      ·exact .inr ⟨j2,List.mem_cons_of_mem _ h,h5⟩
      ·exact .inr ⟨j,List.mem_cons_self ..,he⟩
     ·rintro (h|⟨j2,h,h5⟩)
      ·exact .inl (.inl h)
      ·rcases List.mem_cons.1 h with rfl|h
       ·rw [he] at h5;exact .inr (Option.some.inj h5).symm
       ·exact .inl (.inr ⟨j2,h,h5⟩)
   ·rintro x n2 n3 G2 ⟨hn2,hr⟩ h
    exact ⟨by omega,hr⟩
   ·refine ⟨by simp,at_upd,at_upd,addN s d,upd_same _ _ _,addN_nodup s1,fun x hx=>?_,fun e=>?_⟩
    ·rcases addN_mem.1 hx with hx|rfl
     ·exact s2 x hx
     ·omega
    ·simp
   ·rintro x n2 G2 ⟨hn2,k0,k1,s',k8,t1,t2,t3⟩ hall t ht
    have hin2:∀ y∈ls.take (i+1),insB defs.length y=true:=fun y hy=>by
     rw [List.take_add_one,hd] at hy
     rcases List.mem_append.1 hy with hy|hy
     ·exact hins y hy
     ·simp at hy;subst hy;exact hin
    have t4:∀ e,e∈s'↔InK tos (ls.take (i+1)) e:=fun e=>by
     rw [t3 e,addN_mem,s3 e,List.take_add_one,hd]
     constructor
     ·rintro ((⟨y,hy,h⟩|rfl)|⟨j,hj,h⟩)
      ·exact ⟨y,List.mem_append_left _ hy,h⟩
      ·exact ⟨_,List.mem_append_right _ (by simp), .inl (Int.toNat_natCast _)⟩
      ·exact ⟨((d:Nat):Int),List.mem_append_right _ (by simp), .inr (by rw [Int.toNat_natCast];exact (o3 e).1 (List.mem_of_getElem? h))⟩
     ·rintro ⟨y,hy,h⟩
      rcases List.mem_append.1 hy with hy|hy
      ·exact .inl (.inl ⟨y,hy,h⟩)
      ·simp at hy
       subst hy
       rw [Int.toNat_natCast] at h
       rcases h with h|h
       ·exact .inl (.inr h.symm)
       ·obtain ⟨j,hj⟩:=List.mem_iff_getElem?.1 ((o3 e).2 h)
        exact .inr ⟨j,hall j (by rw [hol];exact (List.getElem?_eq_some_iff.1 hj).1),hj⟩
    refine MW.st (.of cfgOK ?_) t ht
    refine BB ?_
    exact W.skipLop (i+1) hmu .auto ⟨by omega,k0,k1,hlt,hin2,s',k8,t1,t2,t4⟩
 ·have hge:ls.length<=i:=by have:=of_decide_eq_false h1;rw [hlm] at this;omega
  rw [List.take_of_length_le hge] at hins s3
  have hall:ls.all (insB defs.length)=true:=List.all_eq_true.2 fun d hd=>hins d hd
  rw [hall]
  simp only [if_true]
  have hkb:∀ e,keepB tos ls e=true↔e∈s:=fun e=>by
   rw [s3 e]
   unfold keepB InK
   rw [List.any_eq_true]
   constructor
   ·rintro ⟨d,h2,h3⟩
    rw [Bool.or_eq_true,beq_iff_eq,reachB_iff] at h3
    exact ⟨d,h2,h3⟩
   ·rintro ⟨d,h2,h3⟩
    exact ⟨d,h2,by rw [Bool.or_eq_true,beq_iff_eq,reachB_iff];exact h3⟩
  have horc2:CC.orc 14 [setIV s]=some (.own 3 1 (((List.range defs.length).filter (keepB tos ls)).map natIV)):=orcSet s1 (fun x hx=>by rw [<-htl];exact s2 x hx) (fun x _=>hkb x) (by have:=nodup_lt s1 s2;omega)
  have hL:∀ e∈(List.range defs.length).filter (keepB tos ls),e < defs.length:=fun e he=>List.mem_range.1 (List.mem_filter.1 he).1
  have hL6:((List.range defs.length).filter (keepB tos ls)).length<=6:=by
   have:=List.length_filter_le (keepB tos ls) (List.range defs.length)
   rw [List.length_range] at this;omega
  generalize (List.range defs.length).filter (keepB tos ls)=L at *
  refine MW.exitB cfgOK (.of cfgOK ?_)
  refine BB ?_
  refine R.op1 (O.callOwnI rfl horc rfl rfl) rfl ?_
  refine BB ?_
  have hsl:(srcs.map sv).length=srcs.length:=List.length_map ..
  refine R.gen' (fun G2=>G2 0 = .box [.imm (.lst (srcs.map sv)), .imm (.lst (defs.map Dfn.iv))] false/\G2 1 = .box ty29.zero.cells false/\G2 8=setObj s/\G2 (nx+1+2) = .row 9 1 ((srcs.map sv).map .imm) false/\G2 (nx+1+4) = .box [.row (nx+1+2) srcs.length, .nils] false) ⟨Eq.trans at_upd g0,Eq.trans at_upd g1,Eq.trans at_upd g8,at_upd,by rw [<-hsl];exact at_upd⟩ ?_
  clear g0 g1 g8 G
  rintro G ⟨g0,g1,g8,g2,g4⟩
  have hr1:∀ q,q≠8->q≠nx+1+6+1->updL G (frz [8]++[(nx+1+6+1, .set (.row 3 1 ((L.map natIV).map .imm) false))]) q=G q:=fun q h2 h3=>by rw [updL_frz1,if_neg h3,if_neg h2]
  refine R.opU (O.callOwn rfl horc2 rfl (peeks_cons (vs:=[]) (peek_mpx g8))) rfl ?_
  refine R.gen' (fun G2=>G2 0 = .box [.imm (.lst (srcs.map sv)), .imm (.lst (defs.map Dfn.iv))] false/\G2 1 = .box ty29.zero.cells false/\G2 (nx+1+2) = .row 9 1 ((srcs.map sv).map .imm) false/\G2 (nx+1+4) = .box [.row (nx+1+2) srcs.length, .nils] false/\G2 (nx+1+6+1) = .row 3 1 ((L.map natIV).map .imm) false)
   ⟨(hr1 0 (by omega) (by omega)).trans g0,(hr1 1 (by omega) (by omega)).trans g1,(hr1 _ (by omega) (by omega)).trans g2,(hr1 _ (by omega) (by omega)).trans g4,by rw [updL_frz1,if_pos rfl]⟩ ?_
  clear g0 g1 g8 g2 g4 hr1 G
  rintro G ⟨g0,g1,g2,g4,g7⟩
  have hLm:(L.map natIV).length=L.length:=List.length_map ..
  have hLm2:((L.map natIV).map AV.imm).length=L.length:=by rw [List.length_map,hLm]
  refine R.op0 (O.lenR rfl rfl g7 (List.length_map ..)) rfl ?_
  refine BB ?_
  rw [hLm]
  refine W.loop (X:=Nat×AV) (fun x=>[(2, .ptr 0 0),(4, .ptr 1 0),(11, .ptr (nx+1+4) 0),(55, .row (nx+1+6+1) L.length),(56, .imm (.int .i64 L.length)),(57, .imm (.int .i64 x.1))])
   (fun x n2 G2=>nx+11<=n2/\G2 0 = .box [.imm (.lst (srcs.map sv)), .imm (.lst (defs.map Dfn.iv))] false/\G2 1 = .box ty29.zero.cells false/\G2 (nx+1+2) = .row 9 1 ((srcs.map sv).map .imm) false/\G2 (nx+1+4) = .box [.row (nx+1+2) srcs.length,x.2] false/\G2 (nx+1+6+1) = .row 3 1 ((L.map natIV).map .imm) false/\x.1<=L.length/\Own 42 7 (nx+11) n2 ((takeD defs (L.take x.1)).map Dfn.iv) G2 x.2)
   (fun x=>L.length-x.1) (0, .nils) .auto ⟨by omega,g0,g1,g2,g4,g7,Nat.zero_le _, .nil ..⟩ ?_
  clear g0 g1 g2 g4 g7 G
  rintro ⟨j,v⟩ n2 G ⟨hn2,g0,g1,g2,g4,g7,hj,ho⟩
  dsimp only at g4 hj ho ⊢
  have hw1:=ho.cells1
  have hw2:=ho.one1
  rcases Bool.eq_false_or_eq_true (decide ((j:Int) < (L.length:Int))) with hcc|hcc
  ·have hlt:j < L.length:=by have:=of_decide_eq_true hcc;omega
   obtain ⟨e,hje⟩:=at_lt hlt
   have hjx:((L.map natIV).map AV.imm)[((j:Nat):Int).toNat]? = some (.imm (natIV e)):=by rw [Int.toNat_natCast];simp [hje]
   have hed:=hL e (List.mem_of_getElem? hje)
   obtain ⟨y,hy⟩:=at_lt hed
   have hyi:=at_map Dfn.iv hy
   have hdc:=y.cells_len
   have hr:=hsi y (List.mem_of_getElem? hy)
   have hmu:L.length-(j+1) < L.length-j:=by omega
   have htk:(takeD defs (L.take (j+1))).map Dfn.iv=(takeD defs (L.take j)).map Dfn.iv++[y.iv]:=by
    unfold takeD
    rw [List.take_add_one,hje,List.filterMap_append,List.map_append]
    congr 1
    show (List.filterMap _ [e]).map Dfn.iv=_
    rw [List.filterMap_cons,hy];rfl
   have hlen:((takeD defs (L.take j)).map Dfn.iv).length<=6:=by
    rw [List.length_map]
    unfold takeD
    have:=List.length_filterMap_le (fun i=>defs[i]?) (L.take j)
    rw [List.length_take] at this
    omega
   obtain ⟨ny,ey⟩:=y
   simp only at hr htk
   obtain ⟨o1,z1,n1,f1,c1,k1⟩:=ey
   refine BB ?_
   refine D.app2 ho at_upd (by simp only [most];omega) fun v' G' o' ho' hG' hG2 hlo hlo2=>?_
   have hv1:=ho'.cells1
   have hv2:=ho'.one1
   have i0:=(hG' 0 (by omega)).trans (Eq.trans at_upd g0)
   have i1:=(hG' 1 (by omega)).trans (Eq.trans at_upd g1)
   have i2:=(hG' (nx+1+2) (by omega)).trans (Eq.trans at_upd g2)
   have i4:=(hG' (nx+1+4) (by omega)).trans (Eq.trans at_upd g4)
   have i7:=(hG' (nx+1+6+1) (by omega)).trans (Eq.trans at_upd g7)
   refine BD ?_
   refine D.skipN' [0,nx+1+4,o',n2+1+3+16] (by simp;omega) [⟨0,[],[],[]⟩,⟨1,[2],[],[]⟩,⟨2,[],[],[]⟩,⟨3,[1],[],[]⟩,⟨4,[],[],[]⟩,⟨5,[],[],[]⟩,⟨6,[],[],[]⟩,⟨7,[],[],[]⟩,⟨8,[],[],[]⟩,
    ⟨9,[1],[],[]⟩,⟨10,[],[],[]⟩,⟨11,[],[],[]⟩,⟨12,[],[],[]⟩,⟨13,[],[],[]⟩,⟨14,[],[],[]⟩,⟨15,[],[],[]⟩,⟨16,[],[4],[]⟩,⟨17,[3,4],[3],[]⟩,⟨18,[],[],[]⟩,⟨19,[2],[2],[]⟩] rfl rfl (by kernel_rfl) ?_
   refine BB ?_
   refine W.skipLop (j+1,v') hmu .auto ⟨by omega,Eq.trans at_upd i0,Eq.trans at_upd i1,Eq.trans at_upd i2,at_upd,Eq.trans at_upd i7,hlt,?_⟩
   show Own 42 7 (nx+11) _ ((takeD defs (L.take (j+1))).map Dfn.iv) _ v'
   rw [htk]
   exact ho'.fr
  ·have hge:L.length<=j:=by have:=of_decide_eq_false hcc;omega
   rw [List.take_of_length_le hge] at ho
   have hmk:mkAgg [.row (nx+1+2) srcs.length,v] = .agg [.row (nx+1+2) srcs.length,v]:=mkAgg_not ⟨.row (nx+1+2) srcs.length,by simp,by intro x h;cases h⟩
   have hft:AV.fits 2 (.agg [.row (nx+1+2) srcs.length,v])=true:=by
    show ((2==2)&&(true&&(v.one&&true)))=true
    rw [hw2];rfl
   have hrw:Rdx 2 G (fun o=>2<=o) (.agg [.row (nx+1+2) srcs.length,v]) (Pgm.mk srcs (takeD defs L)).iv:=
    Rdx.agg (d:=1) (.cons (Rdx.row (d:=0) (e:=9) (sz:=1) (fr:=false) g2 (by rw [List.length_map,hsl]) (All2.imms 0 _ _ _) (by omega)) (.cons (ho.rdx.frame (fun _ _=>rfl) fun _ h=>by omega) .nil))
   refine BB ?_
   refine R.opN1 (O.storeP rfl (congrArg some hmk) hft g1 rfl rfl) ?_
   refine BB ?_
   refine W.retFinCT (cs:=[.row (nx+1+2) srcs.length,v]) rfl at_upd rfl rfl rfl ?_
   rw [hmk]
   exact Rdx.peek (d:=3) (P:=fun o=>2<=o) (Rdx.tup (d:=2) (.cons (hrw.frame (fun o h=>at_upd) fun _ h=>h) (.cons (.imm ..) .nil))) (by decide)
end Go.Abs

/- Laws that call Keep: all calls by what is known of them. -/
open Go Go.Abs Go.RowKit
namespace Go.Abs
set_option maxRecDepth 100000
theorem ret_calls {f:FuncId} {ivs:List IV} {x:IV} (h:Ret CC f ivs x):PInv CC.P f/\∀ M w vs,(∀ b o,M b=some o->w.heap[b]? = some o)->VL (VI M) ivs vs->Calls CC.P f vs w fun e w'=>∃ cv,e = .returned cv/\WS (QN w) w w'/\OrcEnd w M cv w' (.dat x):=by
 obtain ⟨n,v,G',nx',pk',ids,h1,h2⟩:=h
 refine ⟨((low_ok cfgOK n).1 _ _ _ _ _ _ _ h1).1,fun M w vs hm hv=>?_⟩
 refine (run_ok (C:=CC) (n:=n) (v:=v) (G:=G') (nx:=nx') cfgOK (by unfold run;rw [h1];rfl) hm hv).mono fun e w' ⟨cv,Q',M',ρ',he,hws,hle,hmq,hI,hsub,hva⟩=>?_
 have hdat:=peek_live _ _ _ _ h2
 refine ⟨cv,he,hws,memOf w' M' ρ' ids,Mem.le_trans hle (memOf_le _ _ _ _),hmq.trans ((MQ.memOf hI hdat).sub fun b hb=>hsub b hb),(hI.frz hdat).mem,peek_VI hI _ _ _ _ _ h2 (fun o h=>h) hva⟩
theorem ret_uniq {f:FuncId} {ivs:List IV} {x y:IV} (h:Ret CC f ivs x) (k:Ret CC f ivs y):x=y:=by
 obtain ⟨n,v,G,nx,pk,ids,h1,h2⟩:=h
 obtain ⟨m,v',G',nx',pk',ids',k1,k2⟩:=k
 have e1:=(low_mono (C:=CC) (Nat.le_max_left n m)).call _ _ _ _ _ _ h1
 have e2:=(low_mono (C:=CC) (Nat.le_max_right n m)).call _ _ _ _ _ _ k1
 rw [e1] at e2
 cases e2
 rw [h2] at k2
 cases k2
 rfl
open Classical in
noncomputable def orcK (f:FuncId) (ivs:List IV):Option OrcR:=
 if f=5 then (if h:∃ x:Pgm×List Int,ivs=[x.1.iv,intsIV x.2]/\x.1.Fits/\x.2.length<=maxI then some (.dat (keepIV (Classical.choose h).1 (Classical.choose h).2)) else none)
 else if h:∃ x,Ret CC f ivs x then some (.dat (Classical.choose h)) else none
noncomputable def CK:Cfg:={ P:=CC.P,byref:=fun _=>false,orc:=orcK }
theorem cfgK:CfgOK CK where
 mixed:=cfgOK.mixed
 ng:=cfgOK.ng
 orc:=by
  intro f ivs r h
  have h':orcK f ivs=some r:=h
  unfold orcK at h'
  split at h'
  ·rename_i hf
   subst hf
   split at h'
   ·rename_i hx
    cases h'
    obtain ⟨h1,h2,h3⟩:=Classical.choose_spec hx
    refine ⟨⟨_,Go.Proofs.Try.func5,by kernel_rfl⟩,fun M w vs hm hv=>?_⟩
    rw [h1] at hv
    exact keep_calls h2 h3 hm hv
   ·cases h'
  ·split at h'
   ·rename_i hx
    cases h'
    exact ret_calls (Classical.choose_spec hx)
   ·cases h'
theorem orcK_ret {f:FuncId} {ivs:List IV} {x:IV} (hf:Nat.beq f 5=false) (h:Ret CC f ivs x):CK.orc f ivs=some (.dat x):=by
 show orcK f ivs=_
 unfold orcK
 rw [if_neg (fun e=>by rw [e,Nat.beq_refl] at hf;cases hf),dif_pos ⟨x,h⟩,ret_uniq (Classical.choose_spec ⟨x,h⟩) h]
theorem sv_inj {a b:Str} (h:sv a=sv b):a=b:=by
 simp only [sv,IV.str.injEq,ByteArray.mk.injEq] at h
 have:=congrArg Array.toList h
 simpa using this
theorem map_inj {α:Type} {f:α->IV} (hf:∀ {a b},f a=f b->a=b):∀ {l m:List α},l.map f=m.map f->l=m
 |[],[],_=>rfl
 |[],_::_,h=>by cases h
 |_::_,[],h=>by cases h
 |a::l,b::m,h=>by
  rw [List.map_cons,List.map_cons,List.cons.injEq] at h
  rw [hf h.1,map_inj hf h.2]
mutual
theorem Trm.iv_inj:∀ {a b:Trm},a.iv=b.iv->a=b
 | .mk o n k, .mk o2 n2 k2,h=>by
  simp only [Trm.iv,IV.agg.injEq,List.cons.injEq,IV.int.injEq,IV.lst.injEq,true_and,and_true] at h
  obtain ⟨rfl,rfl,h⟩:=h
  rw [Trm.ivs_inj h]
theorem Trm.ivs_inj:∀ {a b:List Trm},Trm.ivs a=Trm.ivs b->a=b
 |[],[],_=>rfl
 |[],_::_,h=>by simp [Trm.ivs] at h
 |_::_,[],h=>by simp [Trm.ivs] at h
 |a::l,b::m,h=>by
  simp only [Trm.ivs,List.cons.injEq] at h
  rw [Trm.iv_inj h.1,Trm.ivs_inj h.2]
end
mutual
theorem Exp.iv_inj:∀ {a b:Exp},a.iv=b.iv->a=b
 | .mk o s n f c k, .mk o2 s2 n2 f2 c2 k2,h=>by
  simp only [Exp.iv,IV.agg.injEq,List.cons.injEq,IV.int.injEq,IV.lst.injEq,true_and,and_true] at h
  obtain ⟨rfl,hs,rfl,rfl,hc,h⟩:=h
  rw [sv_inj hs,Trm.ivs_inj hc,Exp.ivs_inj h]
theorem Exp.ivs_inj:∀ {a b:List Exp},Exp.ivs a=Exp.ivs b->a=b
 |[],[],_=>rfl
 |[],_::_,h=>by simp [Exp.ivs] at h
 |_::_,[],h=>by simp [Exp.ivs] at h
 |a::l,b::m,h=>by
  simp only [Exp.ivs,List.cons.injEq] at h
  rw [Exp.iv_inj h.1,Exp.ivs_inj h.2]
end
theorem Dfn.iv_inj {a b:Dfn} (h:a.iv=b.iv):a=b:=by
 obtain ⟨s,⟨o,z,n,f,c,k⟩⟩:=a
 obtain ⟨s2,⟨o2,z2,n2,f2,c2,k2⟩⟩:=b
 simp only [Dfn.iv,Exp.iv,IV.cells,IV.agg.injEq,List.cons.injEq] at h
 obtain ⟨h1,h2⟩:=h
 have h3:Exp.iv (.mk o z n f c k)=Exp.iv (.mk o2 z2 n2 f2 c2 k2):=by
  simp only [Exp.iv,IV.agg.injEq,List.cons.injEq];exact h2
 rw [sv_inj h1,Exp.iv_inj h3]
theorem Pgm.iv_inj {p q:Pgm} (h:p.iv=q.iv):p=q:=by
 obtain ⟨s,d⟩:=p
 obtain ⟨s2,d2⟩:=q
 simp only [Pgm.iv,IV.agg.injEq,List.cons.injEq,IV.lst.injEq,and_true] at h
 rw [map_inj sv_inj h.1,map_inj Dfn.iv_inj h.2]
theorem intsIV_inj {a b:List Int} (h:intsIV a=intsIV b):a=b:=by
 simp only [intsIV,IV.lst.injEq] at h
 exact map_inj (fun h=>by simpa [intIV] using h) h
theorem orcK_keep {p:Pgm} {ls:List Int} (hp:p.Fits) (hl:ls.length<=maxI):CK.orc 5 [p.iv,intsIV ls]=some (.dat (keepIV p ls)):=by
 show orcK 5 _=_
 unfold orcK
 have hx:∃ x:Pgm×List Int,[p.iv,intsIV ls]=[x.1.iv,intsIV x.2]/\x.1.Fits/\x.2.length<=maxI:=⟨(p,ls),rfl,hp,hl⟩
 rw [if_pos rfl,dif_pos hx]
 obtain ⟨h1,_,_⟩:=Classical.choose_spec hx
 generalize Classical.choose hx=y at *
 obtain ⟨q,ms⟩:=y
 simp only [List.cons.injEq,and_true] at h1
 simp only
 rw [Pgm.iv_inj h1.1,intsIV_inj h1.2]
instance tyisK {t:TypeId} {k:TyI} [h:TyIs CC t k]:TyIs CK t k:=⟨h.is⟩
section
variable {id nt:Nat} {l:Env} {G:Nat->Obj} {nx:Nat} {df:List (AV×List AV)} {pk:Pk}
theorem O.callO {f:FuncId} {ars:List Operand} {ats:Array TypeId} {vs:List AV} {ivs:List IV} {x:IV} (ho:CK.orc f ivs=some (.dat x)) (ha:looks l ars=some vs) (hi:imms vs=some ivs) :
  OpV CK id l G nx df pk (.call { callee := .value (.func f),args:=⟨ars⟩,argTypes:=ats }) (.imm x) []:=by
 have hb:CK.byref f=false:=rfl
 refine ⟨fun t ht=>⟨0,?_⟩⟩
 simp only [opA,ev,aCall,fnOf,List.map_nil,List.append_nil,callA,hb,Bool.false_eq_true,if_false,ht.evs ha,imms_eq hi,peeks_imm,ho,give_nil]
theorem O.callOG {f:FuncId} {ars:List Operand} {ats:Array TypeId} {vs:List AV} {ivs:List IV} {x:IV} {ids:List Nat} (ho:CK.orc f ivs=some (.dat x)) (ha:looks l ars=some vs) (hi:peeks G vs=some (ivs,ids)) (hx:x.scalar=true) :
  OpV CK id l G nx df pk (.call { callee := .value (.func f),args:=⟨ars⟩,argTypes:=ats }) (.imm x) []:=by
 have hb:CK.byref f=false:=rfl
 refine ⟨fun t ht=>⟨0,?_⟩⟩
 simp only [opA,ev,aCall,fnOf,List.map_nil,List.append_nil,callA,hb,Bool.false_eq_true,if_false,ht.evs ha,hi,ho,hx,give,if_true]
end
theorem calls_of_retK {f:FuncId} {ivs:List IV} {b:Bool} (h:Ret CK f ivs (.bool b)) {M:Mem} {w:World} {vs:Array Value} (hm:∀ b o,M b=some o->w.heap[b]? = some o) (hv:VL (VI M) ivs vs) :
  Calls Go.Proofs.Try.prog f vs w fun e w'=>e = .returned (.bool b)/\Below w.heap.size w w':=by
 obtain ⟨n,v,G',nx',pk',ids,h1,h2⟩:=h
 have hb:=peek_bool h2
 subst hb
 exact run_bool (C:=CK) (n:=n) (G:=G') (nx:=nx') cfgK (by unfold run;rw [h1];rfl) hm hv
end Go.Abs

/- The reference: Keep. -/
open Go Go.Abs
namespace Go.Abs
set_option maxRecDepth 100000
set_option maxHeartbeats 4000000
noncomputable def onR (tos:List (List Nat)) (n:Nat) (L:List Int):List Bool:=(List.range n).map (keepB tos L)
noncomputable def onM (tos:List (List Nat)) (n:Nat) (L:List Int) (d k:Nat):List Bool:=(List.range n).map fun e=>if e < k then keepB tos (L++[(d:Int)]) e else (keepB tos L e||d==e)
theorem keepB_add {tos:List (List Nat)} {L:List Int} {d e:Nat}:keepB tos (L++[(d:Int)]) e=(keepB tos L e||(d==e||reachB tos d e)):=by
 unfold keepB
 rw [List.any_append,List.any_cons,List.any_nil,Bool.or_false,Int.toNat_natCast]
theorem map_range_at {α:Type} {f:Nat->α} {n i:Nat} (h:i < n):((List.range n).map f)[i]? = some (f i):=by
 rw [List.getElem?_map,List.getElem?_range h];rfl
theorem onR_nil {tos:List (List Nat)} {n:Nat}:onR tos n []=List.replicate n false:=by
 unfold onR
 refine List.ext_getElem? fun i=>?_
 by_cases h:i < n
 ·rw [map_range_at h,List.getElem?_replicate,if_pos h];rfl
 ·rw [List.getElem?_eq_none (by simpa using h),List.getElem?_eq_none (by simpa using h)]
theorem map_range_set {α:Type} {f g:Nat->α} {n i:Nat} {v:α} (hv:i < n->g i=v) (h:∀ e,e < n->e≠i->g e=f e):((List.range n).map f).set i v=(List.range n).map g:=by
 refine List.ext_getElem? fun e=>?_
 rw [List.getElem?_set]
 by_cases he:i=e
 ·subst he
  rw [if_pos rfl]
  by_cases hn:i < n
  ·rw [if_pos (by simpa using hn),map_range_at hn,hv hn]
  ·rw [if_neg (by simpa using hn),List.getElem?_eq_none (by simpa using hn)]
 ·rw [if_neg he]
  by_cases hn:e < n
  ·rw [map_range_at hn,map_range_at hn,h e hn (Ne.symm he)]
  ·rw [List.getElem?_eq_none (by simpa using hn),List.getElem?_eq_none (by simpa using hn)]
theorem onR_set {tos:List (List Nat)} {n d:Nat} {L:List Int}:(onR tos n L).set d true=onM tos n L d 0:=by
 unfold onR onM
 refine map_range_set (fun _=>by simp) fun e _ he=>?_
 rw [if_neg (by omega),beq_eq_false_iff_ne.2 (Ne.symm he),Bool.or_false]
theorem onM_set {tos:List (List Nat)} {n d k:Nat} {L:List Int} {v:Bool} (hv:v=keepB tos (L++[(d:Int)]) k):(onM tos n L d k).set k v=onM tos n L d (k+1):=by
 unfold onM
 refine map_range_set (fun _=>by rw [if_pos (by omega),hv]) fun e _ he=>?_
 by_cases h:e < k
 ·rw [if_pos h,if_pos (by omega)]
 ·rw [if_neg h,if_neg (by omega)]
theorem onM_all {tos:List (List Nat)} {n d:Nat} {L:List Int}:onM tos n L d n=onR tos n (L++[(d:Int)]):=by
 unfold onM onR
 refine List.map_congr_left fun e he=>?_
 rw [if_pos (List.mem_range.1 he)]
theorem reach_row {tos:List (List Nat)} {d:Nat} (hd:d < tos.length):∃ row,((reachR tos).map boolsIV)[((d:Nat):Int).toNat]? = some (boolsIV row)/\row.length=tos.length/\∀ k,k < tos.length->row[k]? = some (reachB tos d k):=by
 have hl:=reachR_len tos
 obtain ⟨row,hr⟩:=at_lt (l:=reachR tos) (i:=d) (by omega)
 have h1:=reachR_row row (List.mem_of_getElem? hr)
 refine ⟨row,at_map boolsIV hr,by omega,fun k hk=>?_⟩
 have h2:=at2_reach hd hk
 unfold at2 at h2
 rw [List.getD_eq_getElem?_getD (l:=reachR tos),hr,Option.getD_some] at h2
 obtain ⟨v,hv⟩:=at_lt (l:=row) (i:=k) (by omega)
 rw [List.getD_eq_getElem?_getD,hv,Option.getD_some] at h2
 rw [hv,h2]
instance fnis64:FnIs CC 17:=⟨rfl,fun _=>rfl⟩
theorem ret64 {p:Pgm} (hp:p.Fits) (hb:progR p=true) {ls:List Int} (hls:ls.length<=maxI) (hin:∀ d∈ls,insB p.defs.length d=true):Ret CC 17 [p.iv,intsIV ls] (keepP p ls).iv:=by
 have hls:ls.length<=9223372036854775807:=hls
 have hc:=progR_count hb
 have hg:=countR_good hc
 obtain ⟨hs1,hs2,hs3,hs4⟩:=hg.steps
 have h53:=ret53 p hp hg.defs (fun d hd=>by have:=hg.size d hd;omega) (tosR p) hs1 (fun t ht=>by have:=hs3 t ht;omega) hs4
 obtain ⟨_,hsrc4,hd6,hsm,_,_⟩:=progR_parts hb
 have hrow:∀ d,d < p.defs.length->_:=fun d hd=>reach_row (tos:=tosR p) (d:=d) (by omega)
 have h62:∀ d∈p.defs,d.exp.Sm:=hsm
 unfold keepP keepN
 generalize tosR p=tos at *
 generalize (reachR tos).map boolsIV=rr at *
 obtain ⟨srcs,defs⟩:=p
 simp only at *
 have hdm:(defs.map Dfn.iv).length=defs.length:=List.length_map ..
 have hlm:(ls.map intIV).length=ls.length:=List.length_map ..
 refine Ret.of (fn:=Go.Proofs.Try.f17) (by kernel_rfl) rfl rfl ?_
 refine BB ?_
 refine R.op1 (O.makeSlice (ke:=ty4) rfl inferInstance rfl rfl ⟨by rw [hdm];omega,Int.le_refl _,by rw [hdm];unfold most;omega⟩ (by decide) rfl (by decide)) rfl ?_
 refine BB ?_
 have hon:∀ L,((onR tos defs.length L).map fun b=>AV.imm (.bool b)).length=defs.length:=fun L=>by unfold onR;simp
 have hmn:∀ L d k,((onM tos defs.length L d k).map fun b=>AV.imm (.bool b)).length=defs.length:=fun L d k=>by unfold onM;simp
 have hrep:List.replicate ((defs.map Dfn.iv).length:Int).toNat ty4.zero=(onR tos defs.length []).map fun b=>AV.imm (.bool b):=by rw [hdm,Int.toNat_natCast,onR_nil,List.map_replicate];rfl
 rw [hrep]
 simp only [hdm,Int.toNat_natCast]
 refine W.loop (X:=Nat) (fun i=>[(1, .imm (intsIV ls)),(2, .ptr 0 0),(4, .ptr 1 0),(5, .imm (.lst rr)),(6, .row 8 defs.length),(7, .imm (.int .i64 i))])
  (fun i nx G=>11<=nx/\G 0 = .box [.imm (.lst (srcs.map sv)), .imm (.lst (defs.map Dfn.iv))] false/\G 1 = .box ty29.zero.cells false/\i<=ls.length/\G 8 = .row 4 1 ((onR tos defs.length (ls.take i)).map fun b=>AV.imm (.bool b)) false)
  (fun i=>ls.length-i) 0 .auto ⟨by omega,rfl,rfl,Nat.zero_le _,rfl⟩ ?_
 rintro i nx G ⟨hnx,g0,g1,hi,g8⟩
 refine BB ?_
 refine W.cond rfl (fun h1=>?_) (fun h1=>?_)
 ·have hlt:i < ls.length:=by have:=of_decide_eq_true h1;rw [hlm] at this;omega
  obtain ⟨d,hd⟩:=at_lt hlt
  have hdin:=hin d (List.mem_of_getElem? hd)
  have hdb:0<=d/\d < defs.length:=by
   unfold insB at hdin
   rw [Bool.and_eq_true] at hdin
   exact ⟨of_decide_eq_true hdin.1,of_decide_eq_true hdin.2⟩
  obtain ⟨d,rfl⟩:=Int.eq_ofNat_of_zero_le hdb.1
  have hdl:d < defs.length:=by omega
  have hdi:(ls.map intIV)[((i:Nat):Int).toNat]? = some (.int .i64 d):=at_map intIV hd
  have htk:ls.take (i+1)=ls.take i++[(d:Int)]:=by rw [List.take_add_one,hd];rfl
  have hmu:ls.length-(i+1) < ls.length-i:=by omega
  obtain ⟨row,r1,r2,r3⟩:=hrow d hdl
  have hx0:((onR tos defs.length (ls.take i)).map fun b=>AV.imm (.bool b))[((d:Nat):Int).toNat]? = some (.imm (.bool (keepB tos (ls.take i) d))):=by
   rw [Int.toNat_natCast,List.getElem?_map];unfold onR;rw [map_range_at hdl];rfl
  have hset0:((onR tos defs.length (ls.take i)).map fun b=>AV.imm (.bool b)).set ((d:Nat):Int).toNat (.imm (.bool true))=(onM tos defs.length (ls.take i) d 0).map fun b=>AV.imm (.bool b):=by
   rw [Int.toNat_natCast,<-onR_set,List.map_set]
  refine BB ?_
  refine R.op0 (O.addrR rfl rfl rfl g8 (hon _) ⟨by omega,by omega⟩ rfl) rfl ?_
  refine R.opN1 (O.storeR (v := .imm (.bool true)) rfl rfl rfl rfl g8 (hon _) hx0 rfl rfl) ?_
  rw [hset0]
  refine BB ?_
  refine W.loop (X:=Nat) (fun k=>[(1, .imm (intsIV ls)),(2, .ptr 0 0),(4, .ptr 1 0),(5, .imm (.lst rr)),(6, .row 8 defs.length),(7, .imm (.int .i64 i)),(8, .imm (.int .i64 k))])
   (fun k n2 G2=>nx+4<=n2/\G2 0 = .box [.imm (.lst (srcs.map sv)), .imm (.lst (defs.map Dfn.iv))] false/\G2 1 = .box ty29.zero.cells false/\k<=defs.length/\G2 8 = .row 4 1 ((onM tos defs.length (ls.take i) d k).map fun b=>AV.imm (.bool b)) false)
   (fun k=>defs.length-k) 0 .auto ⟨by omega,at_upd,at_upd,Nat.zero_le _,upd_same _ _ _⟩ ?_
  clear g0 g1 g8
  rintro k n2 G2 ⟨hn2,g0,g1,hk,g8⟩
  refine BB ?_
  refine W.cond rfl (fun h2=>?_) (fun h2=>?_)
  ·have hlt2:k < defs.length:=by have:=of_decide_eq_true h2;rw [hdm] at this;omega
   have hx:((onM tos defs.length (ls.take i) d k).map fun b=>AV.imm (.bool b))[((k:Nat):Int).toNat]? = some (.imm (.bool (keepB tos (ls.take i) k||d==k))):=by
    rw [Int.toNat_natCast,List.getElem?_map];unfold onM;rw [map_range_at hlt2,if_neg (by omega)];rfl
   have hrk:(row.map IV.bool)[((k:Nat):Int).toNat]? = some (.bool (reachB tos d k)):=at_map IV.bool (r3 k (by omega))
   have hset:∀ v,v=keepB tos (ls.take (i+1)) k->((onM tos defs.length (ls.take i) d k).map fun b=>AV.imm (.bool b)).set ((k:Nat):Int).toNat (.imm (.bool v))=(onM tos defs.length (ls.take i) d (k+1)).map fun b=>AV.imm (.bool b):=fun v hv=>by
    rw [htk] at hv
    rw [Int.toNat_natCast,<-onM_set hv,List.map_set]
   rw [htk,keepB_add] at hset
   have hmu2:defs.length-(k+1) < defs.length-k:=by omega
   unfold boolsIV at r1
   have hset2:=hset _ rfl
   rw [<-Bool.or_assoc] at hset2
   clear hset
   generalize (keepB tos (ls.take i) k||d==k)=c at *
   generalize reachB tos d k=rb at *
   refine BB ?_
   refine R.op0 (O.addrR rfl rfl rfl g8 (hmn _ _ _) ⟨by omega,by omega⟩ rfl) rfl ?_
   refine R.op0 (O.loadR rfl g8 (hmn _ _ _) hx rfl rfl rfl) rfl ?_
   cases c with
   |true=>
    refine BB ?_
    refine R.op0 (O.addrR rfl rfl rfl g8 (hmn _ _ _) ⟨by omega,by omega⟩ rfl) rfl ?_
    refine R.opN1 (O.storeR (v := .imm (.bool true)) rfl rfl rfl rfl g8 (hmn _ _ _) hx rfl rfl) ?_
    refine BB ?_
    exact W.skipLop (k+1) hmu2 .auto ⟨by omega,at_upd,at_upd,hlt2,by rw [upd_same];exact congrArg (Obj.row 4 1 · false) hset2⟩
   |false=>
    refine BB ?_
    refine R.op0 (O.addrR rfl rfl rfl g8 (hmn _ _ _) ⟨by omega,by omega⟩ rfl) rfl ?_
    refine R.opN1 (O.storeR (v := .imm (.bool rb)) rfl rfl rfl rfl g8 (hmn _ _ _) hx rfl rfl) ?_
    refine BB ?_
    exact W.skipLop (k+1) hmu2 .auto ⟨by omega,at_upd,at_upd,hlt2,by rw [upd_same];exact congrArg (Obj.row 4 1 · false) hset2⟩
  ·have hge2:k=defs.length:=by have:=of_decide_eq_false h2;rw [hdm] at this;omega
   subst hge2
   rw [onM_all,<-htk] at g8
   refine BB ?_
   exact W.skipLop (i+1) hmu .auto ⟨by omega,g0,g1,hlt,g8⟩
 ·have hge:i=ls.length:=by have:=of_decide_eq_false h1;rw [hlm] at this;omega
  subst hge
  rw [List.take_of_length_le (Nat.le_refl _)] at g8
  have hsl:(srcs.map sv).length=srcs.length:=List.length_map ..
  have hfs:((srcs.map sv).map AV.imm).all (AV.fits 1)=true:=fits_all (fun y hy=>by obtain ⟨z,_,rfl⟩:=List.mem_map.1 hy;rfl)
  have hsl2:((srcs.map sv).map AV.imm).length=srcs.length:=by rw [List.length_map,hsl]
  refine BB ?_
  refine R.op1 (O.appNil rfl rfl rfl rfl (ys:=(srcs.map sv).map AV.imm) rfl (by decide) (by decide) rfl hfs (by rw [hsl2];simp only [most];omega)) rfl ?_
  rw [hsl2]
  refine BB ?_
  refine W.loop (X:=Nat×AV) (fun x=>[(2, .ptr 0 0),(4, .ptr 1 0),(6, .row 8 defs.length),(9, .ptr (nx+4+4) 0),(10, .imm (.int .i64 x.1))])
   (fun x n2 G2=>nx+11<=n2/\G2 0 = .box [.imm (.lst (srcs.map sv)), .imm (.lst (defs.map Dfn.iv))] false/\G2 1 = .box ty29.zero.cells false/\G2 8 = .row 4 1 ((onR tos defs.length ls).map fun b=>AV.imm (.bool b)) false/\G2 (nx+4+2) = .row 9 1 ((srcs.map sv).map .imm) false/\G2 (nx+4+4) = .box [.row (nx+4+2) srcs.length,x.2] false/\x.1<=defs.length/\Own 42 7 (nx+11) n2 ((takeD defs ((List.range x.1).filter (keepB tos ls))).map Dfn.iv) G2 x.2)
   (fun x=>defs.length-x.1) (0, .nils) .auto ⟨by omega,Eq.trans at_upd g0,Eq.trans at_upd g1,Eq.trans at_upd g8,at_upd,at_upd,Nat.zero_le _, .nil ..⟩ ?_
  clear g0 g1 g8 G
  rintro ⟨j,v⟩ n2 G ⟨hn2,g0,g1,g8,g2,g4,hj,ho⟩
  dsimp only at g4 hj ho ⊢
  have hw1:=ho.cells1
  have hw2:=ho.one1
  rcases Bool.eq_false_or_eq_true (decide ((j:Int) < ((defs.map Dfn.iv).length:Int))) with hcc|hcc
  ·have hlt:j < defs.length:=by have:=of_decide_eq_true hcc;omega
   obtain ⟨y,hy⟩:=at_lt hlt
   have hyi:=at_map Dfn.iv hy
   have hdc:=y.cells_len
   have hr:=ret62 (h62 y (List.mem_of_getElem? hy))
   have hmu:defs.length-(j+1) < defs.length-j:=by omega
   have hx:((onR tos defs.length ls).map fun b=>AV.imm (.bool b))[((j:Nat):Int).toNat]? = some (.imm (.bool (keepB tos ls j))):=by
    rw [Int.toNat_natCast,List.getElem?_map];unfold onR;rw [map_range_at hlt];rfl
   have htk:(takeD defs ((List.range (j+1)).filter (keepB tos ls))).map Dfn.iv=(takeD defs ((List.range j).filter (keepB tos ls))).map Dfn.iv++(if keepB tos ls j then [y.iv] else []):=by
    unfold takeD
    rw [List.range_succ,List.filter_append,List.filterMap_append,List.map_append]
    congr 1
    rw [List.filter_cons,List.filter_nil]
    split
    ·rw [List.filterMap_cons,hy];rfl
    ·rfl
   have hlen:((takeD defs ((List.range j).filter (keepB tos ls))).map Dfn.iv).length<=6:=by
    rw [List.length_map]
    unfold takeD
    have h3:=List.length_filterMap_le (fun i=>defs[i]?) ((List.range j).filter (keepB tos ls))
    have h4:=List.length_filter_le (keepB tos ls) (List.range j)
    rw [List.length_range] at h4
    omega
   obtain ⟨ny,ey⟩:=y
   simp only at hr htk
   obtain ⟨o1,z1,n1,f1,c1,k1⟩:=ey
   refine BB ?_
   refine R.op0 (O.addrR rfl rfl rfl g8 (hon _) ⟨by omega,by omega⟩ rfl) rfl ?_
   refine R.op0 (O.loadR rfl g8 (hon _) hx rfl rfl rfl) rfl ?_
   cases hkj:keepB tos ls j with
   |true=>
    rw [hkj,if_pos rfl] at htk
    refine BB ?_
    refine D.app2 ho at_upd (by simp only [most];omega) fun v' G' o' ho' hG' hG2 hlo hlo2=>?_
    have hv1:=ho'.cells1
    have hv2:=ho'.one1
    have i0:=(hG' 0 (by omega)).trans (Eq.trans at_upd g0)
    have i1:=(hG' 1 (by omega)).trans (Eq.trans at_upd g1)
    have i8:=(hG' 8 (by omega)).trans (Eq.trans at_upd g8)
    have i2:=(hG' (nx+4+2) (by omega)).trans (Eq.trans at_upd g2)
    have i4:=(hG' (nx+4+4) (by omega)).trans (Eq.trans at_upd g4)
    refine BD ?_
    refine D.skipN' [0,nx+4+4,o',n2+5+4+16] (by simp;omega) [⟨0,[],[],[]⟩,⟨1,[2],[],[]⟩,⟨2,[],[],[]⟩,⟨3,[1],[],[]⟩,⟨4,[],[],[]⟩,⟨5,[],[],[]⟩,⟨6,[],[],[]⟩,⟨7,[],[],[]⟩,⟨8,[],[],[]⟩,
     ⟨9,[1],[],[]⟩,⟨10,[],[],[]⟩,⟨11,[],[],[]⟩,⟨12,[],[],[]⟩,⟨13,[],[],[]⟩,⟨14,[],[],[]⟩,⟨15,[],[],[]⟩,⟨16,[],[4],[]⟩,⟨17,[3,4],[3],[]⟩,⟨18,[],[],[]⟩,⟨19,[2],[2],[]⟩] rfl rfl (by kernel_rfl) ?_
    refine BB ?_
    refine W.skipLop (j+1,v') hmu .auto ⟨by omega,Eq.trans at_upd i0,Eq.trans at_upd i1,Eq.trans at_upd i8,Eq.trans at_upd i2,at_upd,hlt,?_⟩
    show Own 42 7 (nx+11) _ ((takeD defs ((List.range (j+1)).filter (keepB tos ls))).map Dfn.iv) _ v'
    rw [htk]
    exact ho'.fr
   |false=>
    rw [hkj,if_neg (by decide),List.append_nil] at htk
    refine BB ?_
    refine W.skipLop (j+1,v) hmu .auto ⟨by omega,g0,g1,g8,g2,g4,hlt,?_⟩
    show Own 42 7 (nx+11) _ ((takeD defs ((List.range (j+1)).filter (keepB tos ls))).map Dfn.iv) _ v
    rw [htk]
    exact ho.up (by omega)
  ·have hge:j=defs.length:=by have:=of_decide_eq_false hcc;omega
   subst hge
   have hmk:mkAgg [.row (nx+4+2) srcs.length,v] = .agg [.row (nx+4+2) srcs.length,v]:=mkAgg_not ⟨.row (nx+4+2) srcs.length,by simp,by intro x h;cases h⟩
   have hft:AV.fits 2 (.agg [.row (nx+4+2) srcs.length,v])=true:=by
    show ((2==2)&&(true&&(v.one&&true)))=true
    rw [hw2];rfl
   have hrw:Rdx 2 G (fun o=>2<=o) (.agg [.row (nx+4+2) srcs.length,v]) (Pgm.mk srcs (takeD defs ((List.range defs.length).filter (keepB tos ls)))).iv:=
    Rdx.agg (d:=1) (.cons (Rdx.row (d:=0) (e:=9) (sz:=1) (fr:=false) g2 (by rw [List.length_map,hsl]) (All2.imms 0 _ _ _) (by omega)) (.cons (ho.rdx.frame (fun _ _=>rfl) fun _ h=>by omega) .nil))
   refine BB ?_
   refine R.opN1 (O.storeP rfl (congrArg some hmk) hft g1 rfl rfl) ?_
   refine BB ?_
   refine W.retFinCA (cs:=[.row (nx+4+2) srcs.length,v]) rfl at_upd rfl rfl ?_
   rw [hmk]
   exact (hrw.frame (fun o h=>at_upd) fun _ h=>h).peek (by decide)
theorem ret26 {p:Pgm} (hp:p.Fits) {ls:List Int} (hls:ls.length<=maxI):Ret CC 6 [p.iv,intsIV ls] (keepIV p ls):=by
 have h36:=ret36 p hp
 have h64:=fun hb=>ret64 hp (ls:=ls) hb hls
 have hls:ls.length<=9223372036854775807:=hls
 have hlm:(ls.map intIV).length=ls.length:=List.length_map ..
 unfold keepIV keepR
 cases hb:progR p with
 |false=>
  rw [hb] at h36
  simp only [Bool.false_eq_true,if_false]
  obtain ⟨srcs,defs⟩:=p
  have bt:(!false)=true:=rfl
  refine Ret.of (fn:=Go.Proofs.Try.f6) (by kernel_rfl) rfl rfl ?_
  refine BB ?_
  exact W.retFinCT rfl rfl rfl rfl rfl ⟨[],rfl⟩
 |true=>
  rw [hb] at h36
  have h64:=h64 hb
  simp only [if_true]
  have bf:(!true)=false:=rfl
  obtain ⟨srcs,defs⟩:=p
  simp only at *
  have hdm:(defs.map Dfn.iv).length=defs.length:=List.length_map ..
  refine Ret.of (fn:=Go.Proofs.Try.f6) (by kernel_rfl) rfl rfl ?_
  refine BB ?_
  refine W.loop (X:=Nat) (fun i=>[(1, .imm (intsIV ls)),(2, .ptr 0 0),(4, .ptr 1 0),(6, .imm (.int .i64 i))])
   (fun i nx G=>2<=nx/\G 0 = .box [.imm (.lst (srcs.map sv)), .imm (.lst (defs.map Dfn.iv))] false/\G 1 = .box ty29.zero.cells false/\i<=ls.length/\∀ d∈ls.take i,insB defs.length d=true)
   (fun i=>ls.length-i) 0 .auto ⟨by omega,rfl,rfl,Nat.zero_le _,fun d hd=>by cases hd⟩ ?_
  rintro i nx G ⟨hnx,g0,g1,hi,hins⟩
  refine BN ?_
  refine W.cond rfl (fun h1=>?_) (fun h1=>?_)
  ·have hlt:i < ls.length:=by have:=of_decide_eq_true h1;rw [hlm] at this;omega
   obtain ⟨d,hd⟩:=at_lt hlt
   have hdi:(ls.map intIV)[((i:Nat):Int).toNat]? = some (.int .i64 d):=at_map intIV hd
   have hmu:ls.length-(i+1) < ls.length-i:=by omega
   cases hin:insB defs.length d with
   |false=>
    have hall:ls.all (insB defs.length)=false:=by
     rw [List.all_eq_false]
     exact ⟨d,List.mem_of_getElem? hd,by rw [hin];decide⟩
    rw [hall]
    rcases Bool.eq_false_or_eq_true (decide (d < 0)) with c1|c1
    ·refine BN ?_
     exact W.retFinCT (cs:=ty29.zero.cells) rfl at_upd rfl rfl rfl ⟨[],rfl⟩
    ·have c2:decide (d>=((defs.map Dfn.iv).length:Int))=true:=by
      unfold insB at hin
      rw [decide_eq_true (by have:=of_decide_eq_false c1;omega:(0:Int)<=d),Bool.true_and] at hin
      have:=of_decide_eq_false hin
      exact decide_eq_true (by rw [hdm];omega)
     refine BN ?_
     exact W.retFinCT (cs:=ty29.zero.cells) rfl at_upd rfl rfl rfl ⟨[],rfl⟩
   |true=>
    have hin2:∀ y∈ls.take (i+1),insB defs.length y=true:=fun y hy=>by
     rw [List.take_add_one,hd] at hy
     rcases List.mem_append.1 hy with hy|hy
     ·exact hins y hy
     ·simp at hy;subst hy;exact hin
    have hdb:0<=d/\d < defs.length:=by
     unfold insB at hin
     rw [Bool.and_eq_true] at hin
     exact ⟨of_decide_eq_true hin.1,of_decide_eq_true hin.2⟩
    have c1:decide (d < 0)=false:=decide_eq_false (by omega)
    have c2:decide (d>=((defs.map Dfn.iv).length:Int))=false:=decide_eq_false (by rw [hdm];omega)
    refine BN ?_
    exact W.skipLop (i+1) hmu .auto ⟨by omega,g0,g1,hlt,hin2⟩
  ·have hge:ls.length<=i:=by have:=of_decide_eq_false h1;rw [hlm] at this;omega
   rw [List.take_of_length_le hge] at hins
   have hall:ls.all (insB defs.length)=true:=List.all_eq_true.2 fun d hd=>hins d hd
   rw [hall]
   simp only [if_true]
   have h64:=h64 hins
   generalize keepP ⟨srcs,defs⟩ ls=kp at *
   obtain ⟨ks,kd⟩:=kp
   refine BN ?_
   exact W.retFinCT (cs:=[.imm (.lst (ks.map sv)), .imm (.lst (kd.map Dfn.iv))]) rfl at_upd rfl rfl rfl ⟨[],rfl⟩
end Go.Abs

/- TermKeeps. -/
open Go Go.Abs
namespace Go.Abs
set_option maxRecDepth 100000
set_option maxHeartbeats 4000000
theorem O.callOFz {id:Nat} {l:Env} {G:Nat->Obj} {nx:Nat} {df:List (AV×List AV)} {pk:Pk} {f:FuncId} {ars:List Operand} {ats:Array TypeId} {vs:List AV} {ivs:List IV} {x:IV} {ids:List Nat} (ho:CK.orc f ivs=some (.dat x)) (ha:looks l ars=some vs) (hi:peeks G vs=some (ivs,ids)) (hx:x.scalar=false) :
  OpV CK id l G nx df pk (.call { callee := .value (.func f),args:=⟨ars⟩,argTypes:=ats }) (.imm x) (frz ids):=by
 have hb:CK.byref f=false:=rfl
 refine ⟨fun t ht=>⟨0,?_⟩⟩
 simp only [opA,ev,aCall,fnOf,List.map_nil,List.append_nil,callA,hb,Bool.false_eq_true,if_false,ht.evs ha,hi,ho,hx,give]
theorem keepR_sm {p:Pgm} (h:p.Sm) (ls:List Int):(keepR p ls).1.srcs.length<=9223372036854775807/\(keepR p ls).1.defs.length<=9223372036854775807/\∀ d∈(keepR p ls).1.defs,d.exp.Sm:=by
 unfold keepR
 split
 ·split
  ·refine ⟨by have:=h.srcs;unfold keepP;simp only;omega,?_,fun d hd=>?_⟩
   ·unfold keepP takeD keepN
    simp only
    have h1:=List.length_filterMap_le (fun i=>p.defs[i]?) ((List.range p.defs.length).filter (keepB (tosR p) ls))
    have h2:=List.length_filter_le (keepB (tosR p) ls) (List.range p.defs.length)
    rw [List.length_range] at h2
    have:=h.defs
    omega
   ·unfold keepP takeD at hd
    obtain ⟨i,_,hi⟩:=List.mem_filterMap.1 hd
    exact h.exp d (List.mem_of_getElem? hi)
  ·exact ⟨by simp,by simp,fun d hd=>by cases hd⟩
 ·exact ⟨by simp,by simp,fun d hd=>by cases hd⟩
theorem ret6 {p:Pgm} (hp:p.Fits) (sp:p.Sm) {ls:List Int} (hl:ls.length<=1048576):Ret CK 3 [p.iv,intsIV ls] (.bool true):=by
 have hlm:ls.length<=maxI:=by unfold maxI;omega
 have h24:=orcK_ret (by kernel_rfl) (ret24 sp)
 have hk:=orcK_keep hp hlm
 have h26:=orcK_ret (by kernel_rfl) (ret26 hp hlm)
 obtain ⟨k1,k2,k3⟩:=keepR_sm sp ls
 have h23a:=orcK_ret (by kernel_rfl) (ret23 k1 k2 k3)
 have h23b:=orcK_ret (by kernel_rfl) (ret23 (p:=p) (by have:=sp.srcs;omega) (by have:=sp.defs;omega) sp.exp)
 have h19:=orcK_ret (by kernel_rfl) (ret19 (l:=ls) (by omega))
 have h14:=orcK_ret (by kernel_rfl) ret14
 unfold keepIV at hk h26
 generalize keepR p ls=kr at *
 obtain ⟨⟨ks,kd⟩,z⟩:=kr
 have hlm1:((ls.map intIV).map AV.imm).length=ls.length:=by simp
 have hfs:((ls.map intIV).map AV.imm).all (AV.fits 1)=true:=fits_all (fun y hy=>by obtain ⟨z,_,rfl⟩:=List.mem_map.1 hy;rfl)
 have bz:(z==z)=true:=by simp
 obtain ⟨srcs,defs⟩:=p
 simp only at *
 refine Ret.of (C:=CK) (fn:=Go.Proofs.Try.f3) (by kernel_rfl) rfl rfl ?_
 refine BB ?_
 refine R.op0 (O.callO h24 rfl rfl) rfl ?_
 refine BB ?_
 refine R.op1 (O.appNil rfl rfl rfl rfl (ys:=(ls.map intIV).map AV.imm) rfl (by decide) (by decide) rfl hfs (by rw [hlm1];simp only [most];omega)) rfl ?_
 rw [hlm1]
 refine BB ?_
 have hpe:∀ {G:Nat->Obj} {o:Nat} {fr:Bool},G o = .row 3 1 ((ls.map intIV).map AV.imm) fr->Go.Abs.peek G pkDepth (.row o ls.length)=some (intsIV ls,[o]):=fun h=>peek_row1 h (by rw [List.length_map])
 refine R.opU (O.callOFz hk rfl (peeks_im (peeks_one (hpe at_upd) peeks_nil)) rfl) rfl ?_
 refine R.gen' (fun G=>G 0 = .box [.imm (.lst (srcs.map sv)), .imm (.lst (defs.map Dfn.iv))] false/\G 5 = .row 3 1 ((ls.map intIV).map AV.imm) true/\G 6 = .box [.imm (.lst (srcs.map sv)), .imm (.lst (defs.map Dfn.iv))] false) ⟨?_,?_,?_⟩ ?_
 ·exact (frz_at (q:=5)).trans ((if_neg (by omega)).trans at_upd)
 ·exact (frz_at (q:=5)).trans ((if_pos rfl).trans rfl)
 ·exact (frz_at (q:=5)).trans ((if_neg (by omega)).trans at_upd)
 rintro G ⟨g0,g5,g6⟩
 refine BB ?_
 refine R.op0 (O.callO h26 rfl rfl) rfl ?_
 refine BB ?_
 refine R.op0 (O.callO h23a rfl rfl) rfl ?_
 refine BB ?_
 refine R.op0 (O.callO h23b rfl rfl) rfl ?_
 refine BB ?_
 refine R.op0 (O.callOG h19 rfl (peeks_one (hpe (Eq.trans at_upd g5)) (peeks_im peeks_nil)) rfl) rfl ?_
 refine BB ?_
 refine R.op0 (O.callO h14 rfl rfl) rfl ?_
 refine BB ?_
 exact W.retFin1 rfl ⟨[],rfl⟩
end Go.Abs

/- A list of numbers, as it is read. -/
open Go Go.Abs
namespace Go.Abs
set_option maxRecDepth 100000
def intlTypes:List TypeId:=[3,26]
theorem intl_closed:closedS Go.Proofs.Try.prog intlTypes=true:=by kernel_rfl
theorem read_intl {H:Type} {enc:TypeId×Value->H} {w:World} {held:Bool} {sp:Nat->Bool} {v:Value} {d:DataW H} {ps:List MemPlace} {b0:Nat} (hv:Value.okWide Go.Proofs.Try.prog w .any b0 26 v) (h:DataW.Trod enc Go.Proofs.Try.prog w 0 sp held 26 v d ps) :
  ∃ l:List Int,VI (heapM w) (.lst (l.map (.int .i64))) v/\l.length<=maxI/\l.length<=Go.Proofs.Ytbdoijpclmhbaaa.Rows.uptoBulk d:=by
 obtain ⟨n,hn⟩:=h
 obtain ⟨ivs,h1,h2,h3,h4⟩:=read_ok intl_closed n 26 _ _ _ (Nat.le_refl _) (by decide) hn
 obtain ⟨l,rfl,hl,_⟩:=shape_ints h4
 refine ⟨l,?_,hl.1,hl.2⟩
 have h5:=h3 0 _ rfl
 cases v with
 |agg cs=>
  exfalso
  simp [Value.okWide,Cell.okWide,Cell.ok,Go.Proofs.Try.underlying26] at hv
 |_=>exact h5
end Go.Abs
