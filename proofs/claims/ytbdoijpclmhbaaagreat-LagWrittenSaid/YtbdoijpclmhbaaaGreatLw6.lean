/- From what is reckoned to the machine; and to the given rows. -/
import Derived.Test.YtbdoijpclmhbaaaGreatLw5
import Derived.Test.YtbdoijpclmhbaaaGreatRows
import Derived.ProofKit
import Derived.OpenShut
import Derived.JoinedCond
import Derived.Carry
import Derived.ChangeArms
open Go Go.Abs Go.RowKit Go.ChangeShapes Go.WideShapes Go.ChangeAt
namespace Go.Abs
theorem cfgOK:CfgOK CC where
 mixed:=by kernel_rfl
 ng:=by
  intro f fn hf hb
  have hall : CC.P.funcs.all (fun fn => !(fn.body.isSome && fn.name == "runtime.NumGoroutine")) = true := by kernel_rfl
  rw [Array.all_eq_true_iff_forall_mem] at hall
  have:=hall fn (Array.mem_of_getElem? hf)
  rw [hb] at this
  simpa using this
 orc:=orcOK
theorem peek_bool {G:Nat->Obj} {k:Nat} {v:AV} {b:Bool} {ids:List Nat} (h:peek G k v=some (.bool b,ids)):v = .imm (.bool b):=by
 cases k with
 |zero=>cases v<;>simp [peek] at h;exact congrArg AV.imm h.1
 |succ k=>
  cases v with
  |imm x=>simp [peek] at h;exact congrArg AV.imm h.1
  |nils=>simp [peek] at h
  |undef=>simp [peek] at h
  |rptr=>simp [peek] at h
  |yld=>simp [peek] at h
  |_=>
   simp only [peek] at h
   (repeat' split at h)<;>simp at h
theorem calls_of_ret {f:FuncId} {ivs:List IV} {b:Bool} (h:Ret CC f ivs (.bool b)) {M:Mem} {w:World} {vs:Array Value} (hm:∀ b o,M b=some o->w.heap[b]? = some o) (hv:VL (VI M) ivs vs) :
  Calls Go.Proofs.Tryz.prog f vs w fun e w'=>e = .returned (.bool b)/\Below w.heap.size w w':=by
 obtain ⟨n,v,G',nx',pk',ids,h1,h2⟩:=h
 have hb:=peek_bool h2
 subst hb
 exact run_bool (C:=CC) (n:=n) (G:=G') (nx:=nx') cfgOK (by unfold run;rw [h1];rfl) hm hv
theorem below_all {H:Type} {enc:TypeId×Value->H} {P:Program} (hl:laidOutB P=true) {W W':World} (hb:Below W.heap.size W W'):∀ (ts:List TypeId) (vs:List Value) (ds:List (DataW H)) (ps:List MemPlace),
  (ts.all fun t=>P.readableRec t&&decide (t < P.types.size))=true->DataW.TrodAll enc P W 0 (fun _=>true) true ts vs ds ps->(∀ x∈ps,x.block < W.heap.size)->DataW.TrodAll enc P W' 0 (fun b=>decide (b < W.heap.size)) true ts vs ds ps
 |[],vs,ds,ps,_,h,_=>by
  obtain ⟨rfl,rfl,rfl⟩:=trodAll_nil h
  exact trodAll_mk0
 |t::ts,vs,ds,ps,hr,h,hlt=>by
  obtain ⟨v,vs',d,ds',p,q,rfl,rfl,rfl,h1,h2⟩:=trodAll_cons h
  rw [List.all_cons,Bool.and_eq_true,Bool.and_eq_true] at hr
  exact trodAll_cons_mk (Below.trod hl hr.1.1 (of_decide_eq_true hr.1.2) h1 hb fun x hx=>hlt x (by simp [hx])) (below_all hl hb ts vs' ds' q hr.2 h2 fun x hx=>hlt x (by simp [hx]))
theorem own:ownKnob Go.Proofs.Tryz.prog.godebug=none:=by kernel_rfl
theorem laidOut:laidOutB Go.Proofs.Tryz.prog=true:=by kernel_rfl
theorem law_post {H:Type} {enc:TypeId×Value->H} {f:Func} {s:ChangeSpec} {W W':World} {args:Array Value} {ds gs:List (DataW H)} {before:List MemPlace} (hW:DataW.Whole enc Go.Proofs.Tryz.prog f.params.toList s.vars false W args.toList ds gs before)
  (hres:f.resultTypes = #[4]) (hsv:s.vars=[]) (hr:(s.fn H (ds++gs)).results=[.lit (.bool true)]) (ha:(s.fn H (ds++gs)).args=ds) (hvs:(s.fn H (ds++gs)).vars=[])
  (hread:(f.params.toList.all fun t=>Go.Proofs.Tryz.prog.readableRec t&&decide (t < Go.Proofs.Tryz.prog.types.size))=true) (hb:Below W.heap.size W W') :
  s.post enc Go.Proofs.Tryz.prog f false true false false W args (.bool true) W':=by
 have hW':=hW
 obtain ⟨p,q,hA,hV,rfl,hfz,hnd⟩:=hW
 rw [hsv] at hV
 obtain ⟨rfl,rfl⟩:=trodVars_none hV
 have hlt:∀ x∈p,x.block < W.heap.size:=fun x hx=>by simpa using hW'.lt x (by simp [hx])
 refine ⟨ds,[],p++[],[],p,[],hW',?_,?_,?_,hb.frame _,fun h=>by cases h⟩
 ·rw [hr,hres]
  exact trodAll_cons_mk (shut_bool Go.Proofs.Tryz.underlying4 _) trodAll_mk0
 ·rw [ha]
  exact below_all laidOut hb _ _ _ _ hread hA hlt
 ·rw [hvs,hsv]
  exact rfl
end Go.Abs

/- What is read as data, is data: truth values, numbers, strings, slices, structs. -/
open Go Go.Abs Go.RowKit Go.ChangeShapes Go.WideShapes
namespace Go.Abs
def fieldsAt (P:Program) (S:List TypeId):Nat->List Field->Option Nat
 |n,[]=>some n
 |n,f::r=>if f.offset=n/\S.contains f.type=true then fieldsAt P S (n+P.cellsOf f.type) r else none
def plainT (P:Program) (S:List TypeId) (t:TypeId):Bool:=
 match P.underlying t with
 |some .bool|some .string|some (.int _)=>P.cellsOf t==1
 |some (.slice e)=>P.cellsOf t==1&&S.contains e&&decide (0 < P.cellsOf e)
 |some (.struct fs)=>fieldsAt P S 0 fs.toList==some (P.cellsOf t)
 |_=>false
def closedS (P:Program) (S:List TypeId):Bool:=S.all (plainT P S)
def isSt (P:Program) (t:TypeId):Bool:=match P.underlying t with
 |some (.struct _)=>true
 |_=>false
inductive Shape (P:Program) (N:Nat):TypeId->List IV->Prop where
 |bool (t b) (h:P.underlying t=some .bool):Shape P N t [.bool b]
 |int (t k n) (h:P.underlying t=some (.int k)) (hw:(Lit.int k n).wf=true):Shape P N t [.int k n]
 |str (t s) (h:P.underlying t=some .string) (hl:s.length<=maxLen):Shape P N t [sv s]
 |sl (t e xs) (h:P.underlying t=some (.slice e)) (hl:xs.length<=maxLen) (hN:xs.length<=N) (hx:∀ x∈xs,Shape P N e x.cells) (ha:∀ x∈xs,isSt P e=true->∃ cs,x = .agg cs) (hn:∀ x∈xs,isSt P e=false->x.cells=[x]):Shape P N t [.lst xs]
 |st (t) (fs:Array Field) (css:List (List IV)) (h:P.underlying t=some (.struct fs)) (hl:css.length=fs.size) (hc:∀ (i:Nat) f cs,fs[i]? = some f->css[i]? = some cs->Shape P N f.type cs):Shape P N t css.flatten
theorem fields_len {P:Program} {S:List TypeId}:∀ (l:List Field) (n m:Nat),fieldsAt P S n l=some m->n<=m/\∀ f∈l,S.contains f.type=true/\f.offset+P.cellsOf f.type<=m
 |[],n,m,h=>by cases h;exact ⟨Nat.le_refl _,fun f hf=>by cases hf⟩
 |g::r,n,m,h=>by
  unfold fieldsAt at h
  split at h
  ·rename_i hg
   obtain ⟨h1,h2⟩:=fields_len r _ _ h
   refine ⟨by omega,fun f hf=>?_⟩
   rcases List.mem_cons.1 hf with rfl|hf
   ·exact ⟨hg.2,by omega⟩
   ·exact h2 f hf
  ·cases h
theorem choose_list {α:Type} {n:Nat} {p:Nat->α->Prop} (h:∀ i,i < n->∃ x,p i x):∃ l:List α,l.length=n/\∀ (i:Nat) x,l[i]? = some x->p i x:=by
 induction n with
 |zero=>exact ⟨[],rfl,fun i x h=>by simp at h⟩
 |succ n ih=>
  obtain ⟨l,h1,h2⟩:=ih fun i hi=>h i (by omega)
  obtain ⟨x,hx⟩:=h n (by omega)
  refine ⟨l++[x],by simp [h1],fun i y hy=>?_⟩
  rcases Nat.lt_or_ge i n with hi|hi
  ·exact h2 i y (by rwa [List.getElem?_append_left (by omega)] at hy)
  ·rw [List.getElem?_append_right (by omega),h1] at hy
   have:i-n=0:=by
    rcases Nat.eq_zero_or_pos (i-n) with h|h
    ·exact h
    ·rw [List.getElem?_eq_none (by simp;omega)] at hy;cases hy
   rw [this] at hy
   simp at hy
   subst hy
   have:i=n:=by omega
   subst this
   exact hx
abbrev heapM (w:World):Mem:=fun b=>w.heap[b]?
theorem cell_blk {w:World} {a:Addr} {v:Value} (h:w.cell? a=some v):a.spot=none/\∃ cs e fr,w.heap[a.block]? = some (.cells cs e fr)/\cs[a.off]? = some v:=by
 unfold World.cell? at h
 split at h
 ·rename_i c e fr hb
  split at h
  ·cases h
  ·rename_i hs
   exact ⟨by simpa using hs,c,e,fr,hb,h⟩
 ·cases h
theorem cells_get {w:World} {base:Nat} {a:Addr} {n:Nat} {cs:List Value} (h:w.cells? base a n=some cs):cs.length=n/\∀ j,j < n->∃ v,cs[j]? = some v/\w.cell? (a.add j)=some v:=by
 unfold World.cells? at h
 split at h
 ·have key:∀ (l:List Nat) (cs:List Value),(l.mapM fun i=>w.cell? (a.add i))=some cs->cs.length=l.length/\∀ (j:Nat) i,l[j]? = some i->∃ v,cs[j]? = some v/\w.cell? (a.add i)=some v:=by
   intro l
   induction l with
   |nil=>intro cs h;simp at h;subst h;exact ⟨rfl,fun j i h=>by simp at h⟩
   |cons x r ih=>
    intro cs h
    rw [List.mapM_cons] at h
    simp only [Option.bind_eq_bind,Option.bind_eq_some_iff,Option.pure_def,Option.some.injEq] at h
    obtain ⟨v,hv,vs,hvs,rfl⟩:=h
    obtain ⟨h1,h2⟩:=ih vs hvs
    refine ⟨by simp [h1],fun j i hj=>?_⟩
    cases j with
    |zero=>simp at hj;subst hj;exact ⟨v,rfl,hv⟩
    |succ j=>exact h2 j i (by simpa using hj)
  obtain ⟨h1,h2⟩:=key _ cs h
  refine ⟨by simpa using h1,fun j hj=>?_⟩
  exact h2 j j (by simp [hj])
 ·cases h
theorem bulk_one {H:Type} (d:DataW H):1<=Go.Proofs.YtbdoijpclmhbaaaGreat.Rows.uptoBulk d:=by
 cases d with
 |lit l=>cases l<;>simp [Go.Proofs.YtbdoijpclmhbaaaGreat.Rows.uptoBulk]
 |_=>simp [Go.Proofs.YtbdoijpclmhbaaaGreat.Rows.uptoBulk]
theorem bulk_len {H:Type}:∀ l:List (DataW H),l.length<=Go.Proofs.YtbdoijpclmhbaaaGreat.Rows.uptoBulkAll l
 |[]=>by simp [Go.Proofs.YtbdoijpclmhbaaaGreat.Rows.uptoBulkAll]
 |x::r=>by
  have h1:=bulk_one x
  have h2:=bulk_len r
  simp only [Go.Proofs.YtbdoijpclmhbaaaGreat.Rows.uptoBulkAll,List.length_cons]
  omega
theorem bulk_mem {H:Type} {d:DataW H}:∀ {l:List (DataW H)},d∈l->Go.Proofs.YtbdoijpclmhbaaaGreat.Rows.uptoBulk d<=Go.Proofs.YtbdoijpclmhbaaaGreat.Rows.uptoBulkAll l
 |x::r,h=>by
  simp only [Go.Proofs.YtbdoijpclmhbaaaGreat.Rows.uptoBulkAll]
  rcases List.mem_cons.1 h with rfl|h
  ·omega
  ·have:=bulk_mem h
   omega
theorem read_ok {P:Program} {S:List TypeId} (hS:closedS P S=true) {H:Type} {enc:TypeId×Value->H} {w:World} {held:Bool} {sp:Nat->Bool}:∀ (n:Nat) (t:TypeId) (cs:List Value) (d:DataW H×List MemPlace) (N:Nat),Go.Proofs.YtbdoijpclmhbaaaGreat.Rows.uptoBulk d.1<=N->S.contains t=true ->
  DataW.trod enc P w 0 sp held n t cs=some d->∃ ivs:List IV,ivs.length=cs.length/\cs.length=P.cellsOf t/\(∀ (i:Nat) x,ivs[i]? = some x->VI (heapM w) x (cs.getD i Go.undef))/\Shape P N t ivs:=by
 intro n
 induction n with
 |zero=>intro t cs d N _ _ h;simp [DataW.trod] at h
 |succ n ih=>
  intro t cs d N hN ht h
  have hp:plainT P S t=true:=by
   unfold closedS at hS
   rw [List.all_eq_true] at hS
   exact hS t (by simpa using ht)
  unfold plainT at hp
  have one:∀ (x:IV) (v:Value),VI (heapM w) x v->∀ (i:Nat) y,[x][i]? = some y->VI (heapM w) y ([v].getD i Go.undef):=by
   intro x v hx i y hy
   match i,hy with
   |0,hy=>simp at hy;subst hy;exact hx
   |i+1,hy=>simp at hy
  split at hp
  ·rename_i hu
   obtain ⟨b,rfl,_⟩:=DataW.trod_bool hu h
   exact ⟨[.bool b],rfl,(beq_iff_eq.1 hp).symm,one _ _ (.bool b), .bool t b hu⟩
  ·rename_i hu
   obtain ⟨s,rfl,_,hl⟩:=DataW.trod_string hu h
   exact ⟨[sv s.data.toList],rfl,(beq_iff_eq.1 hp).symm,one _ _ (by rw [<-sv_eta];exact .str s), .str t _ hu (by rw [Array.length_toList];exact hl)⟩
  ·rename_i k hu
   obtain ⟨m,rfl,_,hw⟩:=DataW.trod_int hu h
   exact ⟨[.int k m],rfl,(beq_iff_eq.1 hp).symm,one _ _ (.int k m), .int t k m hu hw⟩
  ·rename_i e hu
   simp only [Bool.and_eq_true,beq_iff_eq,decide_eq_true_eq] at hp
   obtain ⟨⟨hp1,hpe⟩,hpos⟩:=hp
   rcases DataW.trod_slice hu h with ⟨rfl,_⟩|⟨a,len,cap,elems,rest,n',hn,rfl,hd,_,hl,hm,hlen,hel,_,_⟩
   ·exact ⟨[.lst []],rfl,hp1.symm,one _ _ .nil, .sl t e [] hu (Nat.zero_le _) (Nat.zero_le _) (fun x h=>by cases h) (fun x h=>by cases h) (fun x h=>by cases h)⟩
   ·obtain rfl:n=n':=by omega
    subst hd
    simp only [Go.Proofs.YtbdoijpclmhbaaaGreat.Rows.uptoBulk] at hN
    have hb1:=bulk_len (elems.map (·.1))
    rw [List.length_map] at hb1
    have each:∀ i,i < len->∃ x:IV,x.cells.length=P.cellsOf e/\(∀ (j:Nat) y,x.cells[j]? = some y->∃ v,w.cell? ((a.add (i*P.cellsOf e)).add j)=some v/\VI (heapM w) y v)/\Shape P N e x.cells/\(isSt P e=true->∃ cs,x = .agg cs)/\(isSt P e=false->x.cells=[x]):=by
     intro i hi
     have hb:=hel i hi
     have hs:elems[i]? = some elems[i]:=by simp [hlen,hi]
     rw [hs,Option.bind_eq_some_iff] at hb
     obtain ⟨vs,hvs,hd⟩:=hb
     have hbe:=bulk_mem (List.mem_map.2 ⟨elems[i],List.getElem_mem (by omega),rfl⟩:elems[i].1∈elems.map (·.1))
     obtain ⟨ivs,h1,h2,h3,h4⟩:=ih e vs _ N (by omega) hpe hd
     obtain ⟨h5,h6⟩:=cells_get hvs
     have cellv:∀ (j:Nat) y,ivs[j]? = some y->∃ v,w.cell? ((a.add (i*P.cellsOf e)).add j)=some v/\VI (heapM w) y v:=by
      intro j y hy
      have hj:=(List.getElem?_eq_some_iff.1 hy).1
      obtain ⟨v,hv1,hv2⟩:=h6 j (by omega)
      refine ⟨v,hv2,?_⟩
      have:=h3 j y hy
      rwa [List.getD_eq_getElem?_getD,hv1] at this
     cases hst:isSt P e with
     |true=>exact ⟨.agg ivs,by simp [IV.cells];omega,cellv,h4,fun _=>⟨ivs,rfl⟩,fun h=>by cases h⟩
     |false=>
      have h4':=h4
      cases h4 with
      |bool _ b hu'=>exact ⟨.bool b,by simp [IV.cells] at h1 ⊢;omega,cellv,h4',(fun h=>by cases h),fun _=>rfl⟩
      |int _ k m hu' hw=>exact ⟨.int k m,by simp [IV.cells] at h1 ⊢;omega,cellv,h4',(fun h=>by cases h),fun _=>rfl⟩
      |str _ s hu' hl'=>exact ⟨sv s,by simp [IV.cells,sv] at h1 ⊢;omega,cellv,h4',(fun h=>by cases h),fun _=>rfl⟩
      |sl _ e' xs hu' _ _ _ _=>exact ⟨.lst xs,by simp [IV.cells] at h1 ⊢;omega,cellv,h4',(fun h=>by cases h),fun _=>rfl⟩
      |st _ fs css hu' _ _=>simp [isSt,hu'] at hst
    obtain ⟨xs,hx1,hx2⟩:=choose_list each
    have memx:∀ x∈xs,Shape P N e x.cells/\(isSt P e=true->∃ cs,x = .agg cs)/\(isSt P e=false->x.cells=[x]):=by
     intro x hx
     obtain ⟨i,hi⟩:=List.getElem?_of_mem hx
     exact (hx2 i x hi).2.2
    refine ⟨[.lst xs],rfl,hp1.symm,one _ _ ?_, .sl t e xs hu (by omega) (by omega) (fun x h=>(memx x h).1) (fun x h=>(memx x h).2.1) (fun x h=>(memx x h).2.2)⟩
    subst hx1
    rcases Nat.eq_zero_or_pos xs.length with h0|h0
    ·obtain rfl:xs=[]:=List.eq_nil_of_length_eq_zero h0
     exact .empty a cap
    ·-- the block that holds them
     have hcell:∀ (i:Nat) x (j:Nat) y,xs[i]? = some x->x.cells[j]? = some y->∃ v,w.cell? ((a.add (i*P.cellsOf e)).add j)=some v/\VI (heapM w) y v:=fun i x j y hx hy=>(hx2 i x hx).2.1 j y hy
     have h00:xs[0]? = some xs[0]:=by simp [h0]
     have hc0:(xs[0]).cells.length=P.cellsOf e:=(hx2 0 _ h00).1
     have hc00:(xs[0]).cells[0]? = some (xs[0]).cells[0]:=by simp [hc0,hpos]
     obtain ⟨v0,hv0,_⟩:=hcell 0 _ 0 _ h00 hc00
     obtain ⟨hsp0,ca,ea,fra,hblk,_⟩:=cell_blk hv0
     have hsp:a.spot=none:=by
      obtain ⟨b,o,s⟩:=a
      simpa [Addr.add] using hsp0
     obtain ⟨b,off,s⟩:=a
     simp only at hsp
     subst hsp
     simp only [add_none] at hcell hblk
     have inb:∀ (i:Nat) x (j:Nat) y,xs[i]? = some x->x.cells[j]? = some y->off+i*P.cellsOf e+j < ca.size/\VI (heapM w) y (at_ ca (off+i*P.cellsOf e+j)):=by
      intro i x j y hx hy
      obtain ⟨v,hv,hvi⟩:=hcell i x j y hx hy
      obtain ⟨_,ca',ea',fra',hb',hc'⟩:=cell_blk hv
      simp only at hb' hc'
      rw [hblk] at hb'
      simp only [Option.some.injEq,Go.Obj.cells.injEq] at hb'
      obtain ⟨rfl,rfl,rfl⟩:=hb'
      have hlt:=(Array.getElem?_eq_some_iff.1 hc').1
      refine ⟨hlt,?_⟩
      simp only [at_,Array.getD_eq_getD_getElem?,hc',Option.getD_some]
      exact hvi
     refine .lst xs b off cap ca ea fra (P.cellsOf e) (fun e=>by rw [e] at h0;simp at h0) hl hblk hpos (fun i x hx=>(hx2 i x hx).1) ?_ (fun i x j y hx hy=>(inb i x j y hx hy).2)
     have hlast:xs[xs.length-1]? = some xs[xs.length-1]:=by simp [h0]
     have hcl:=(hx2 _ _ hlast).1
     have hcll:(xs[xs.length-1]).cells[P.cellsOf e-1]? = some (xs[xs.length-1]).cells[P.cellsOf e-1]:=by simp [hcl,hpos]
     have:=(inb _ _ _ _ hlast hcll).1
     have e1:xs.length*P.cellsOf e=(xs.length-1)*P.cellsOf e+P.cellsOf e:=by
      have:xs.length=(xs.length-1)+1:=by omega
      conv=>lhs;rw [this,Nat.succ_mul]
     omega
  ·rename_i fs hu
   simp only [beq_iff_eq] at hp
   obtain ⟨xs,n',hn,hd,hcl,hxl,hf⟩:=DataW.trod_struct hu h
   obtain rfl:n=n':=by omega
   subst hd
   simp only [Go.Proofs.YtbdoijpclmhbaaaGreat.Rows.uptoBulk] at hN
   have each:∀ i,i < fs.size->∃ ivs:List IV,∀ f,fs[i]? = some f->ivs.length=P.cellsOf f.type/\(∀ (j:Nat) x,ivs[j]? = some x->VI (heapM w) x (((cs.drop f.offset).take (P.cellsOf f.type)).getD j Go.undef))/\Shape P N f.type ivs:=by
    intro i hi
    have hs:fs[i]? = some fs[i]:=by simp [hi]
    have hfi:=hf i _ hs
    have hxs:xs[i]? = some xs[i]:=by simp [hxl,hi]
    rw [hxs] at hfi
    have hmem:=(fields_len fs.toList 0 _ hp).2 fs[i] (by simp)
    have hbe:=bulk_mem (List.mem_map.2 ⟨xs[i],List.getElem_mem (by omega),rfl⟩:xs[i].1∈xs.map (·.1))
    obtain ⟨ivs,h1,h2,h3,h4⟩:=ih _ _ _ N (by omega) hmem.1 hfi
    refine ⟨ivs,fun f hff=>?_⟩
    rw [hs] at hff
    cases hff
    exact ⟨by omega,h3,h4⟩
   obtain ⟨css,hc1,hc2⟩:=choose_list each
   -- cell by cell
   have key:∀ (l:List Field) (ks:List (List IV)) (k m:Nat),fieldsAt P S k l=some m->m=cs.length->ks.length=l.length->(∀ (i:Nat) f iv,l[i]? = some f->ks[i]? = some iv->iv.length=P.cellsOf f.type/\∀ (j:Nat) x,iv[j]? = some x->VI (heapM w) x (((cs.drop f.offset).take (P.cellsOf f.type)).getD j Go.undef)) ->
     ks.flatten.length+k=m/\∀ (i:Nat) x,ks.flatten[i]? = some x->VI (heapM w) x (cs.getD (k+i) Go.undef):=by
    intro l
    induction l with
    |nil=>
     intro ks k m hk hm hlen _
     obtain rfl:ks=[]:=List.eq_nil_of_length_eq_zero (by simpa using hlen)
     cases hk
     exact ⟨by simp,fun i x hx=>by simp at hx⟩
    |cons f r ihl=>
     intro ks k m hk hm hlen hall
     cases ks with
     |nil=>simp at hlen
     |cons iv ks=>
      unfold fieldsAt at hk
      split at hk
      ·rename_i hg
       obtain ⟨q1,q2⟩:=ihl ks _ m hk hm (by simpa using hlen) (fun i f' iv' h1 h2=>hall (i+1) f' iv' (by simpa using h1) (by simpa using h2))
       obtain ⟨g1,g2⟩:=hall 0 f iv rfl rfl
       refine ⟨by simp only [List.flatten_cons,List.length_append];omega,fun i x hx=>?_⟩
       rw [List.flatten_cons] at hx
       rcases Nat.lt_or_ge i iv.length with hi|hi
       ·rw [List.getElem?_append_left hi] at hx
        have:=g2 i x hx
        rw [List.getD_eq_getElem?_getD,List.getElem?_take_of_lt (by omega),List.getElem?_drop,hg.1] at this
        rwa [List.getD_eq_getElem?_getD]
       ·rw [List.getElem?_append_right hi] at hx
        have:=q2 _ x hx
        rw [<-g1] at this
        rwa [show k+iv.length+(i-iv.length)=k+i by omega] at this
      ·cases hk
   obtain ⟨k1,k2⟩:=key fs.toList css 0 _ hp hcl.symm (by simp [hc1]) (fun i f iv h1 h2=>by
    have:=hc2 i iv h2 f (by simpa using h1)
    exact ⟨this.1,this.2.1⟩)
   refine ⟨css.flatten,by omega,hcl,fun i x hx=>by simpa using k2 i x hx, .st t fs css hu hc1 fun i f iv h1 h2=>(hc2 i iv h2 f h1).2.2⟩
  ·cases hp
end Go.Abs

/- Programs as trees: terms, expressions, definitions. -/
open Go Go.Abs
namespace Go.Abs
set_option maxRecDepth 100000
inductive Trm where
 |mk (op n:Int) (kids:List Trm)
inductive Exp where
 |mk (op:Int) (name:Str) (n fold:Int) (calcs:List Trm) (kids:List Exp)
structure Dfn where
 name:Str
 exp:Exp
structure Pgm where
 srcs:List Str
 defs:List Dfn
def Trm.op:Trm->Int
 | .mk o _ _=>o
def Exp.op:Exp->Int
 | .mk o .. => o
def Exp.name:Exp->Str
 | .mk _ s .. => s
def Exp.n:Exp->Int
 | .mk _ _ n .. => n
def Exp.fold:Exp->Int
 | .mk _ _ _ f .. => f
def Exp.calcs:Exp->List Trm
 | .mk _ _ _ _ c _=>c
def Exp.kids:Exp->List Exp
 | .mk _ _ _ _ _ k=>k
mutual
def Trm.iv:Trm->IV
 | .mk op n kids => .agg [.int .i64 op, .int .i64 n, .lst (Trm.ivs kids)]
def Trm.ivs:List Trm->List IV
 |[]=>[]
 |c::r=>c.iv::Trm.ivs r
end
mutual
def Exp.iv:Exp->IV
 | .mk op name n fold calcs kids => .agg [.int .i64 op,sv name, .int .i64 n, .int .i64 fold, .lst (Trm.ivs calcs), .lst (Exp.ivs kids)]
def Exp.ivs:List Exp->List IV
 |[]=>[]
 |c::r=>c.iv::Exp.ivs r
end
def Dfn.iv (d:Dfn):IV := .agg (sv d.name::d.exp.iv.cells)
def Pgm.iv (p:Pgm):IV := .agg [.lst (p.srcs.map sv), .lst (p.defs.map Dfn.iv)]
theorem Trm.ivs_map:∀ l,Trm.ivs l=l.map Trm.iv
 |[]=>rfl
 |c::r=>by rw [Trm.ivs,Trm.ivs_map r];rfl
theorem Exp.ivs_map:∀ l,Exp.ivs l=l.map Exp.iv
 |[]=>rfl
 |c::r=>by rw [Exp.ivs,Exp.ivs_map r];rfl
def maxI:Nat:=9223372036854775807
inductive Trm.Fits:Trm->Prop where
 |mk (op n kids) (h:kids.length<=maxI) (hk:∀ k∈kids,Trm.Fits k):Trm.Fits (.mk op n kids)
inductive Exp.Fits:Exp->Prop where
 |mk (op name n fold calcs kids) (hn:name.length<=maxI) (hw:(Lit.int .i64 n).wf=true) (hc:calcs.length<=maxI) (hk:kids.length<=maxI) (hcs:∀ c∈calcs,Trm.Fits c) (hks:∀ k∈kids,Exp.Fits k):Exp.Fits (.mk op name n fold calcs kids)
structure Pgm.Fits (p:Pgm):Prop where
 srcs:p.srcs.length<=maxI
 src:∀ s∈p.srcs,s.length<=maxI
 defs:p.defs.length<=maxI
 name:∀ d∈p.defs,d.name.length<=maxI
 exp:∀ d∈p.defs,d.exp.Fits
inductive Trm.Sm:Trm->Prop where
 |mk (op n kids) (h:kids.length<=1048576) (hk:∀ k∈kids,Trm.Sm k):Trm.Sm (.mk op n kids)
inductive Exp.Sm:Exp->Prop where
 |mk (op name n fold calcs kids) (hc:calcs.length<=1048576) (hk:kids.length<=1048576) (hcs:∀ c∈calcs,Trm.Sm c) (hks:∀ k∈kids,Exp.Sm k):Exp.Sm (.mk op name n fold calcs kids)
structure Pgm.Sm (p:Pgm):Prop where
 srcs:p.srcs.length<=1048576
 defs:p.defs.length<=1048576
 exp:∀ d∈p.defs,d.exp.Sm
theorem len3 {α:Type} {l:List α} (h:l.length=3):∃ a b c,l=[a,b,c]:=by
 match l,h with
 |[a,b,c],_=>exact ⟨a,b,c,rfl⟩
theorem len2 {α:Type} {l:List α} (h:l.length=2):∃ a b,l=[a,b]:=by
 match l,h with
 |[a,b],_=>exact ⟨a,b,rfl⟩
theorem len6 {α:Type} {l:List α} (h:l.length=6):∃ a b c d e f,l=[a,b,c,d,e,f]:=by
 match l,h with
 |[a,b,c,d,e,f],_=>exact ⟨a,b,c,d,e,f,rfl⟩
theorem list_of {α:Type} {f:α->IV} {p:α->Prop}:∀ {xs:List IV},(∀ x∈xs,∃ a,x=f a/\p a)->∃ l:List α,xs=l.map f/\∀ a∈l,p a
 |[],_=>⟨[],rfl,fun a h=>by cases h⟩
 |x::r,h=>by
  obtain ⟨a,rfl,ha⟩:=h x (by simp)
  obtain ⟨l,rfl,hl⟩:=list_of (xs:=r) fun y hy=>h y (by simp [hy])
  exact ⟨a::l,rfl,fun b hb=>by
                    rcases List.mem_cons.1 hb with rfl|hb
                    · exact ha
                    · exact hl b hb⟩
open Go.Proofs in
theorem shape_int {N:Nat} {t:TypeId} {k:IntKind} {ivs:List IV} (hu:Tryz.prog.underlying t=some (.int k)) (h:Shape Tryz.prog N t ivs):∃ n,ivs=[.int k n]/\(Lit.int k n).wf=true:=by
 cases h with
 |int _ k' n h hw=>rw [hu] at h;cases h;exact ⟨n,rfl,hw⟩
 |bool _ _ h=>rw [hu] at h;cases h
 |str _ _ h=>rw [hu] at h;cases h
 |sl _ _ _ h=>rw [hu] at h;cases h
 |st _ _ _ h=>rw [hu] at h;cases h
open Go.Proofs in
theorem shape_str {N:Nat} {t:TypeId} {ivs:List IV} (hu:Tryz.prog.underlying t=some .string) (h:Shape Tryz.prog N t ivs):∃ s:Str,ivs=[sv s]/\s.length<=maxI:=by
 cases h with
 |int _ k' n h hw=>rw [hu] at h;cases h
 |bool _ _ h=>rw [hu] at h;cases h
 |str _ s h hl=>exact ⟨s,rfl,hl⟩
 |sl _ _ _ h=>rw [hu] at h;cases h
 |st _ _ _ h=>rw [hu] at h;cases h
open Go.Proofs in
theorem shape_sl {N:Nat} {t e:TypeId} {ivs:List IV} (hu:Tryz.prog.underlying t=some (.slice e)) (h:Shape Tryz.prog N t ivs):∃ xs,ivs=[.lst xs]/\xs.length<=maxI/\xs.length<=N/\(∀ x∈xs,Shape Tryz.prog N e x.cells)/\(∀ x∈xs,isSt Tryz.prog e=true->∃ cs,x = .agg cs)/\(∀ x∈xs,isSt Tryz.prog e=false->x.cells=[x]):=by
 cases h with
 |int _ k' n h hw=>rw [hu] at h;cases h
 |bool _ _ h=>rw [hu] at h;cases h
 |str _ s h hl=>rw [hu] at h;cases h
 |sl _ e' xs h hl hN hx ha hn=>rw [hu] at h;cases h;exact ⟨xs,rfl,hl,hN,hx,ha,hn⟩
 |st _ _ _ h=>rw [hu] at h;cases h
open Go.Proofs in
theorem shape_st {N:Nat} {t:TypeId} {fs:Array Field} {ivs:List IV} (hu:Tryz.prog.underlying t=some (.struct fs)) (h:Shape Tryz.prog N t ivs):∃ css:List (List IV),ivs=css.flatten/\css.length=fs.size/\∀ (i:Nat) f cs,fs[i]? = some f->css[i]? = some cs->Shape Tryz.prog N f.type cs:=by
 cases h with
 |int _ k' n h hw=>rw [hu] at h;cases h
 |bool _ _ h=>rw [hu] at h;cases h
 |str _ s h hl=>rw [hu] at h;cases h
 |sl _ e' xs h hl hN hx ha hn=>rw [hu] at h;cases h
 |st _ fs' css h hl hc=>rw [hu] at h;cases h;exact ⟨css,rfl,hl,hc⟩
open Go.Proofs in
/-- A term, as it is read. -/
theorem shape_trm {N:Nat} {t:TypeId} {ivs:List IV} (h:Shape Tryz.prog N t ivs):(t=172->∃ c:Trm, .agg ivs=c.iv/\c.Fits/\(N<=1048576->c.Sm))/\(t=90->∃ l:List Trm,ivs=[.lst (Trm.ivs l)]/\(l.length<=maxI/\l.length<=N)/\∀ c∈l,c.Fits/\(N<=1048576->c.Sm)):=by
 induction h with
 |bool t b hu=>exact ⟨(fun e=>by subst e;rw [Tryz.underlying172] at hu;cases hu),(fun e=>by subst e;rw [Tryz.underlying90] at hu;cases hu)⟩
 |int t k n hu=>exact ⟨(fun e=>by subst e;rw [Tryz.underlying172] at hu;cases hu),(fun e=>by subst e;rw [Tryz.underlying90] at hu;cases hu)⟩
 |str t s hu=>exact ⟨(fun e=>by subst e;rw [Tryz.underlying172] at hu;cases hu),(fun e=>by subst e;rw [Tryz.underlying90] at hu;cases hu)⟩
 |sl t e xs hu hl hN hx ha hn ih=>
  refine ⟨(fun e=>by subst e;rw [Tryz.underlying172] at hu;cases hu),fun e=>?_⟩
  subst e
  rw [Tryz.underlying90] at hu
  cases hu
  obtain ⟨l,rfl,hl2⟩:=list_of (f:=Trm.iv) (p:=fun c:Trm=>c.Fits/\(N<=1048576->c.Sm)) (xs:=xs) fun x hxm=>by
   obtain ⟨c,hc,hf⟩:=(ih x hxm).1 rfl
   obtain ⟨cs,rfl⟩:=ha x hxm (by kernel_rfl)
   exact ⟨c,hc,hf⟩
  exact ⟨l,by rw [Trm.ivs_map],⟨(show l.length<=maxLen by simpa using hl),by simpa using hN⟩,hl2⟩
 |st t fs css hu hl hc ih=>
  refine ⟨fun e=>?_,(fun e=>by subst e;rw [Tryz.underlying90] at hu;cases hu)⟩
  subst e
  rw [Tryz.underlying172] at hu
  cases hu
  obtain ⟨a,b,c,rfl⟩:=len3 hl
  obtain ⟨op,rfl,_⟩:=shape_int Tryz.underlying170 (hc 0 _ _ rfl rfl)
  obtain ⟨n,rfl,_⟩:=shape_int Tryz.underlying3 (hc 1 _ _ rfl rfl)
  obtain ⟨l,rfl,h1,h2⟩:=(ih 2 _ _ rfl rfl).2 rfl
  exact ⟨.mk op n l,rfl, .mk op n l h1.1 fun c hc=>(h2 c hc).1,fun hN => .mk op n l (Nat.le_trans h1.2 hN) fun c hc=>(h2 c hc).2 hN⟩
open Go.Proofs in
theorem shape_exp {N:Nat} {t:TypeId} {ivs:List IV} (h:Shape Tryz.prog N t ivs):(t=93->∃ c:Exp, .agg ivs=c.iv/\c.Fits/\(N<=1048576->c.Sm))/\(t=91->∃ l:List Exp,ivs=[.lst (Exp.ivs l)]/\(l.length<=maxI/\l.length<=N)/\∀ c∈l,c.Fits/\(N<=1048576->c.Sm)):=by
 induction h with
 |bool t b hu=>exact ⟨(fun e=>by subst e;rw [Tryz.underlying93] at hu;cases hu),(fun e=>by subst e;rw [Tryz.underlying91] at hu;cases hu)⟩
 |int t k n hu=>exact ⟨(fun e=>by subst e;rw [Tryz.underlying93] at hu;cases hu),(fun e=>by subst e;rw [Tryz.underlying91] at hu;cases hu)⟩
 |str t s hu=>exact ⟨(fun e=>by subst e;rw [Tryz.underlying93] at hu;cases hu),(fun e=>by subst e;rw [Tryz.underlying91] at hu;cases hu)⟩
 |sl t e xs hu hl hN hx ha hn ih=>
  refine ⟨(fun e=>by subst e;rw [Tryz.underlying93] at hu;cases hu),fun e=>?_⟩
  subst e
  rw [Tryz.underlying91] at hu
  cases hu
  obtain ⟨l,rfl,hl2⟩:=list_of (f:=Exp.iv) (p:=fun c:Exp=>c.Fits/\(N<=1048576->c.Sm)) (xs:=xs) fun x hxm=>by
   obtain ⟨c,hc,hf⟩:=(ih x hxm).1 rfl
   obtain ⟨cs,rfl⟩:=ha x hxm (by kernel_rfl)
   exact ⟨c,hc,hf⟩
  exact ⟨l,by rw [Exp.ivs_map],⟨(show l.length<=maxLen by simpa using hl),by simpa using hN⟩,hl2⟩
 |st t fs css hu hl hc ih=>
  refine ⟨fun e=>?_,(fun e=>by subst e;rw [Tryz.underlying91] at hu;cases hu)⟩
  subst e
  rw [Tryz.underlying93] at hu
  cases hu
  obtain ⟨a,b,c,d,e,f,rfl⟩:=len6 hl
  obtain ⟨op,rfl,_⟩:=shape_int Tryz.underlying88 (hc 0 _ _ rfl rfl)
  obtain ⟨s,rfl,hs⟩:=shape_str Tryz.underlying9 (hc 1 _ _ rfl rfl)
  obtain ⟨n,rfl,hn⟩:=shape_int Tryz.underlying3 (hc 2 _ _ rfl rfl)
  obtain ⟨fo,rfl,_⟩:=shape_int Tryz.underlying89 (hc 3 _ _ rfl rfl)
  obtain ⟨cl,rfl,g1,g2⟩:=(shape_trm (hc 4 _ _ rfl rfl)).2 rfl
  obtain ⟨l,rfl,h1,h2⟩:=(ih 5 _ _ rfl rfl).2 rfl
  exact ⟨.mk op s n fo cl l,rfl, .mk op s n fo cl l hs hn g1.1 h1.1 (fun c hc=>(g2 c hc).1) fun c hc=>(h2 c hc).1,fun hN => .mk op s n fo cl l (Nat.le_trans g1.2 hN) (Nat.le_trans h1.2 hN) (fun c hc=>(g2 c hc).2 hN) fun c hc=>(h2 c hc).2 hN⟩
open Go.Proofs in
theorem shape_strs {N:Nat} {ivs:List IV} (h:Shape Tryz.prog N 22 ivs):∃ l:List Str,ivs=[.lst (l.map sv)]/\(l.length<=maxI/\l.length<=N)/\∀ s∈l,s.length<=maxI:=by
 obtain ⟨xs,rfl,hl,hN,hx,ha,hn⟩:=shape_sl Tryz.underlying22 h
 obtain ⟨l,rfl,hl2⟩:=list_of (f:=sv) (p:=fun s:Str=>s.length<=maxI) (xs:=xs) fun x hxm=>by
  obtain ⟨s,h1,h2⟩:=shape_str Tryz.underlying9 (hx x hxm)
  have:=hn x hxm (by kernel_rfl)
  rw [this] at h1
  exact ⟨s,by simpa using h1,h2⟩
 exact ⟨l,rfl,⟨by simpa using hl,by simpa using hN⟩,hl2⟩
open Go.Proofs in
theorem shape_dfn {N:Nat} {ivs:List IV} (h:Shape Tryz.prog N 95 ivs):∃ d:Dfn, .agg ivs=d.iv/\d.name.length<=maxI/\d.exp.Fits/\(N<=1048576->d.exp.Sm):=by
 obtain ⟨css,rfl,hl,hc⟩:=shape_st Tryz.underlying95 h
 obtain ⟨a,b,rfl⟩:=len2 hl
 obtain ⟨s,rfl,hs⟩:=shape_str Tryz.underlying9 (hc 0 _ _ rfl rfl)
 obtain ⟨e,he,hf⟩:=(shape_exp (hc 1 _ _ rfl rfl)).1 rfl
 refine ⟨⟨s,e⟩,?_,hs,hf⟩
 unfold Dfn.iv
 rw [<-he]
 simp [IV.cells]
open Go.Proofs in
theorem shape_pgm {N:Nat} {ivs:List IV} (h:Shape Tryz.prog N 25 ivs):∃ p:Pgm, .agg ivs=p.iv/\p.Fits/\(N<=1048576->p.Sm):=by
 obtain ⟨css,rfl,hl,hc⟩:=shape_st Tryz.underlying25 h
 obtain ⟨a,b,rfl⟩:=len2 hl
 obtain ⟨ss,rfl,h1,h2⟩:=shape_strs (hc 0 _ _ rfl rfl)
 obtain ⟨xs,rfl,hl2,hN,hx,ha,hn⟩:=shape_sl Tryz.underlying23 (hc 1 _ _ rfl rfl)
 obtain ⟨ds,rfl,hd⟩:=list_of (f:=Dfn.iv) (p:=fun d:Dfn=>d.name.length<=maxI/\d.exp.Fits/\(N<=1048576->d.exp.Sm)) (xs:=xs) fun x hxm=>by
  obtain ⟨d,q1,q2⟩:=shape_dfn (hx x hxm)
  obtain ⟨cs,rfl⟩:=ha x hxm (by kernel_rfl)
  exact ⟨d,q1,q2⟩
 exact ⟨⟨ss,ds⟩,rfl,⟨h1.1,h2,by simpa using hl2,fun d h=>(hd d h).1,fun d h=>(hd d h).2.1⟩,fun h=>⟨Nat.le_trans h1.2 h,Nat.le_trans (by simpa using hN) h,fun d hm=>(hd d hm).2.2 h⟩⟩
def pgmTypes:List TypeId:=[3,4,5,9,22,23,25,44,91,88,89,90,93,95,170,172]
theorem pgm_closed:closedS Go.Proofs.Tryz.prog pgmTypes=true:=by kernel_rfl
theorem read_pgm {H:Type} {enc:TypeId×Value->H} {w:World} {held:Bool} {sp:Nat->Bool} {v:Value} {d:DataW H} {ps:List MemPlace} {b0:Nat} (hv:Value.okWide Go.Proofs.Tryz.prog w .any b0 25 v) (h:DataW.Trod enc Go.Proofs.Tryz.prog w 0 sp held 25 v d ps) :
  ∃ p:Pgm,VI (heapM w) p.iv v/\p.Fits/\(Go.Proofs.YtbdoijpclmhbaaaGreat.Rows.uptoBulk d<=1048576->p.Sm):=by
 obtain ⟨n,hn⟩:=h
 obtain ⟨ivs,h1,h2,h3,h4⟩:=read_ok pgm_closed n 25 _ _ _ (Nat.le_refl _) (by decide) hn
 obtain ⟨p,hp,hf⟩:=shape_pgm h4
 have hst:∃ cs,v = .agg cs:=by
  simp only [Value.okWide,Go.Proofs.Tryz.underlying25] at hv
  obtain ⟨cs,h,_⟩:=hv
  exact ⟨cs,h⟩
 obtain ⟨cs,rfl⟩:=hst
 refine ⟨p,?_,hf⟩
 rw [<-hp]
 refine .agg ivs cs (by simpa [Value.cells] using h1) fun i x hx=>?_
 have:=h3 i x hx
 simpa [Value.cells,at_] using this
end Go.Abs

/- The abstract interpreter: a logic of what code comes to: joins; structs in boxes and in slices; builds. -/
namespace Go.Abs
variable {C:Cfg} {fid nt:Nat} {l:Env} {G:Nat->Obj} {nx:Nat} {df:List (AV×List AV)} {pk:Pk} {Φ Φ':Out->Prop} {a b:Code} {ol r:List Oper} {base i d:Nat} {ty:TypeId} {pos:String} {af:Array Edge} {v:AV} {id:Nat}
def cutP {X:Type} (le:X->Env) (Ge:X->Nat->(Nat->Obj)->Prop) (df:List (AV×List AV)) (pk:Pk) (Φ:Out->Prop):Out->Prop
 | .norm s=>∃ x,Agree s.tmps (le x)/\Ge x s.nx s.G/\s.defers=df/\s.pk=pk
 |o=>Φ o
theorem W.cut {X:Type} (le:X->Env) (Ge:X->Nat->(Nat->Obj)->Prop) (h1:W C fid nt a l G nx df pk (cutP le Ge df pk Φ)) (h2:∀ x nx G,Ge x nx G->W C fid nt b (le x) G nx df pk Φ):W C fid nt (.seq a b) l G nx df pk Φ:=by
 refine W.seq (h1.mono fun o ho=>?_)
 cases o with
 |norm s=>
  obtain ⟨x,ha,hg,hd,hp⟩:=ho
  have:=(h2 x s.nx s.G hg).st s.tmps ha
  have e:s=⟨s.tmps,s.G,s.nx,df,pk⟩:=by cases s;simp_all
  rw [e];exact this
 |_=>exact ho
theorem W.skipCut {X:Type} {le:X->Env} {Ge:X->Nat->(Nat->Obj)->Prop} (x:X) (hl:Sub (le x) l) (hG:Ge x nx G):W C fid nt .skip l G nx df pk (cutP le Ge df pk Φ) := .skip fun _ ht=>⟨x,ht.sub hl,hG,rfl,rfl⟩
theorem W.retCut {X:Type} {le:X->Env} {Ge:X->Nat->(Nat->Obj)->Prop} {df':List (AV×List AV)} {pk':Pk} (h:W C fid nt .ret l G nx df pk Φ):W C fid nt .ret l G nx df pk (cutP le Ge df' pk' Φ) := .ret h.retI
theorem W.exitCut {X:Type} {le:X->Env} {Ge:X->Nat->(Nat->Obj)->Prop} {df':List (AV×List AV)} {pk':Pk} {id:Nat} (h:W C fid nt (.exit id) l G nx df pk Φ):W C fid nt (.exit id) l G nx df pk (cutP le Ge df' pk' Φ) := .exit h.exitI
/-! ### structs -/
theorem O.boxS {x:Operand} {t:TypeId} {k:TyI} {cs:List AV} [hk:TyIs C t k] (hx:lookO l x=some v) (hc:v.cells=cs) (hf:v.fits k.sz=true):OpV C id l G nx df pk (.box t x) (.ptr id 0) [(id, .set (.box cs false))]:=
 O.of fun t L hA=>by simp only [opA,hA.ev hx,aBox,hk.is,if_pos hf,hc]
theorem O.fieldP {x:Operand} {t:TypeId} {f:Nat} {k:TyI} {fs:List (Nat×Nat)} {o off0 off sz:Nat} [hk:TyIs C t k] (hd:k.d = .st fs) (hf:fs[f]? = some (off,sz)) (hs:Nat.beq sz 0=false) (hx:lookO l x=some (.ptr o off0)) :
  OpV C id l G nx df pk (.fieldAddr t x f) (.ptr o (off0+off)) []:=
 O.of fun t L hA=>by
  have:¬ sz=0:=fun e=>by subst e;cases hs
  simp only [opA,hA.ev hx,aFieldAddr,hk.is,hd,hf,if_neg this,moveAt]
theorem O.fieldE {x:Operand} {t:TypeId} {f:Nat} {k:TyI} {fs:List (Nat×Nat)} {xs:List IV} {n off0 off sz:Nat} [hk:TyIs C t k] (hd:k.d = .st fs) (hf:fs[f]? = some (off,sz)) (hs:Nat.beq sz 0=false) (hx:lookO l x=some (.imm (.eptr xs n off0))) :
  OpV C id l G nx df pk (.fieldAddr t x f) (.imm (.eptr xs n (off0+off))) []:=
 O.of fun t L hA=>by
  have:¬ sz=0:=fun e=>by subst e;cases hs
  simp only [opA,hA.ev hx,aFieldAddr,hk.is,hd,hf,if_neg this,moveAt]
theorem O.fieldR {x:Operand} {t:TypeId} {f:Nat} {k:TyI} {fs:List (Nat×Nat)} {o m n off0 off sz:Nat} [hk:TyIs C t k] (hd:k.d = .st fs) (hf:fs[f]? = some (off,sz)) (hs:Nat.beq sz 0=false) (hx:lookO l x=some (.rptr o m n off0)) :
  OpV C id l G nx df pk (.fieldAddr t x f) (.rptr o m n (off0+off)) []:=
 O.of fun t L hA=>by
  have:¬ sz=0:=fun e=>by subst e;cases hs
  simp only [opA,hA.ev hx,aFieldAddr,hk.is,hd,hf,if_neg this,moveAt]
theorem sub_one {α:Type} {cs:List α} {off:Nat} {u:α} (hu:cs[off]? = some u):sub cs off 1=some [u]:=by
 have hlt:=(List.getElem?_eq_some_iff.1 hu).1
 unfold sub
 rw [if_pos (by omega),List.drop_eq_getElem_cons hlt]
 have:cs[off]=u:=(List.getElem?_eq_some_iff.1 hu).2
 simp [this]
theorem O.loadP {x:Operand} {t:TypeId} {k:TyI} {o off:Nat} {cs:List AV} {fr:Bool} {u:AV} [hk:TyIs C t k] (hg:k.d.isAgg=false) (hs:k.sz=1) (hx:lookO l x=some (.ptr o off)) (hG:G o = .box cs fr) (hu:cs[off]? = some u) :
  OpV C id l G nx df pk (.load t x) u []:=
 O.of fun t L hA=>by simp only [opA,hA.ev hx,aLoad,hk.is,hs,readAt,hG,sub_one hu,hg,Bool.false_eq_true,if_false]
theorem O.loadPA {x:Operand} {t:TypeId} {k:TyI} {o off:Nat} {cs us:List AV} {fr:Bool} [hk:TyIs C t k] (hg:k.d.isAgg=true) (hx:lookO l x=some (.ptr o off)) (hG:G o = .box cs fr) (hu:sub cs off k.sz=some us) (hv:mkAgg us=v) :
  OpV C id l G nx df pk (.load t x) v []:=
 O.of fun t L hA=>by simp only [opA,hA.ev hx,aLoad,hk.is,readAt,hG,hu,hg,if_true,hv]
theorem O.loadE {x:Operand} {t:TypeId} {k:TyI} {xs:List IV} {n off:Nat} {e u:IV} [hk:TyIs C t k] (hg:k.d.isAgg=false) (hs:k.sz=1) (hx:lookO l x=some (.imm (.eptr xs n off))) (he:xs[n]? = some e) (hu:e.cells[off]? = some u) :
  OpV C id l G nx df pk (.load t x) (.imm u) []:=
 O.of fun t L hA=>by simp only [opA,hA.ev hx,aLoad,hk.is,hs,readAt,he,sub_one hu,Option.map_some,List.map_cons,List.map_nil,hg,Bool.false_eq_true,if_false]
theorem mkAgg_imm (cs:List IV):mkAgg (cs.map .imm) = .imm (.agg cs):=by
 have:allImm (cs.map AV.imm)=some cs:=by
  induction cs with
  |nil=>rfl
  |cons x r ih=>simp only [List.map_cons,allImm,ih,Option.map_some]
 unfold mkAgg
 rw [this]
theorem O.loadEA {x:Operand} {t:TypeId} {k:TyI} {xs cs:List IV} {n off:Nat} {e:IV} [hk:TyIs C t k] (hg:k.d.isAgg=true) (hx:lookO l x=some (.imm (.eptr xs n off))) (he:xs[n]? = some e) (hu:sub e.cells off k.sz=some cs) :
  OpV C id l G nx df pk (.load t x) (.imm (.agg cs)) []:=
 O.of fun t L hA=>by simp only [opA,hA.ev hx,aLoad,hk.is,readAt,he,hu,Option.map_some,hg,if_true,mkAgg_imm]
theorem O.storeP {a x:Operand} {t:TypeId} {k:TyI} {o off:Nat} {cs cs':List AV} [hk:TyIs C t k] (ha:lookO l a=some (.ptr o off)) (hx:lookO l x=some v) (hf:v.fits k.sz=true) (hG:G o = .box cs false) (hn:Nat.ble (off+k.sz) cs.length=true) (hc:splice cs off v.cells=cs') :
  OpV C id l G nx df pk (.store t a x) .undef [(o, .set (.box cs' false))]:=
 O.of fun t L hA=>by
  have:=Nat.le_of_ble_eq_true hn
  simp only [opA,hA.ev ha,hA.ev hx,aStore,hk.is,if_pos hf,hG,if_pos this,hc]
def partsE (l:Env):List (Nat×Operand)->Option (List (Nat×AV))
 |[]=>some []
 |(i,x)::r=>match lookO l x with
  |some v=>match partsE l r with
   |some vs=>some ((i,v)::vs)
   |none=>none
  |none=>none
theorem partsE_ok {t:Nat->AV} (h:Agree t l):∀ {ps:List (Nat×Operand)} {vs:List (Nat×AV)},partsE l ps=some vs->(ps.map fun p=>(p.1,Go.Abs.ev t p.2))=vs
 |[],vs,hp=>by cases hp;rfl
 |(i,x)::r,vs,hp=>by
  unfold partsE at hp
  split at hp
  ·rename_i v hv
   split at hp
   ·rename_i ws hw
    cases hp
    simp only [List.map_cons,h.ev hv,partsE_ok h hw]
   ·cases hp
  ·cases hp
theorem O.build {t:TypeId} {ps:List (Nat×Operand)} {k:TyI} {fs:List (Nat×Nat)} {vs:List (Nat×AV)} {cs:List AV} [hk:TyIs C t k] (hd:k.d = .st fs) (hp:partsE l ps=some vs) (hf:fillA fs k.zero.cells vs=some cs) (hv:mkAgg cs=v) :
  OpV C id l G nx df pk (.build t ⟨ps⟩) v []:=
 O.of fun t L hA=>by simp only [opA,aBuild,hk.is,hd,partsE_ok hA hp,hf,hv]
theorem O.extr {x:Operand} {ix:Nat} {vs:List IV} {u:IV} (hx:lookO l x=some (.imm (.tup vs))) (hu:vs[ix]? = some u):OpV C id l G nx df pk (.extract x ix) (.imm u) []:=
 O.of fun t L hA=>by simp only [opA,hA.ev hx,aExtract,hu]
theorem W.retFin2 {t u:Nat} {v w:AV} {Ψ:AV->(Nat->Obj)->Nat->Prop} (hv:look l t=some v) (hw:look l u=some w) (h:Ψ (mkTup [v,w]) G nx):W C fid nt .ret l G nx [] .no (fin C [.tmp t, .tmp u] Ψ):=
 .ret fun t ht=>⟨rfl,rfl,mkTup [v,w],by simp only [resultsA,resultsL,resultA,ht _ v hv,ht _ w hw],h⟩
theorem sub_all {α:Type} (cs:List α):sub cs 0 cs.length=some cs:=by
 unfold sub
 rw [if_pos (by omega)]
 simp
theorem W.retFinCT {a u:Nat} {t:TypeId} {o:Nat} {k:TyI} {cs:List AV} {fr:Bool} {w:AV} {Ψ:AV->(Nat->Obj)->Nat->Prop} [hk:TyIs C t k] (ha:look l a=some (.ptr o 0)) (hG:G o = .box cs fr) (hs:Nat.beq cs.length k.sz=true) (hg:k.d.isAgg=true) (hw:look l u=some w) (h:Ψ (mkTup [mkAgg cs,w]) G nx) :
  W C fid nt .ret l G nx [] .no (fin C [.cell a t, .tmp u] Ψ):=
 .ret fun t' ht=>⟨rfl,rfl,mkTup [mkAgg cs,w],by
  have e:cs.length=k.sz:=Nat.eq_of_beq_eq_true hs
  have e2:Go.Abs.sub cs 0 k.sz=some cs:=by rw [<-e];exact sub_all cs
  simp only [resultsA,resultsL,resultA,ht _ _ ha,ht _ _ hw,aLoad,hk.is,readAt,hG,e2,hg,if_true],h⟩
theorem W.retFinCA {a:Nat} {t:TypeId} {o:Nat} {k:TyI} {cs:List AV} {fr:Bool} {Ψ:AV->(Nat->Obj)->Nat->Prop} [hk:TyIs C t k] (ha:look l a=some (.ptr o 0)) (hG:G o = .box cs fr) (hs:Nat.beq cs.length k.sz=true) (hg:k.d.isAgg=true) (h:Ψ (mkAgg cs) G nx) :
  W C fid nt .ret l G nx [] .no (fin C [.cell a t] Ψ):=
 .ret fun t' ht=>⟨rfl,rfl,mkAgg cs,by
  have e:cs.length=k.sz:=Nat.eq_of_beq_eq_true hs
  have e2:Go.Abs.sub cs 0 k.sz=some cs:=by rw [<-e];exact sub_all cs
  simp only [resultsA,resultsL,resultA,ht _ _ ha,aLoad,hk.is,readAt,hG,e2,hg,if_true],h⟩
def boundE (l:Env) (n d:Nat):Option Operand->Option Nat
 |none=>some d
 |some x=>match lookO l x with
  |some (.imm (.int _ i))=>if 0<=i/\i<=n then some i.toNat else none
  |_=>none
theorem boundE_ok {t:Nat->AV} (h:Agree t l) {n d m:Nat} {o:Option Operand} (hb:boundE l n d o=some m):bound n d (o.map (Go.Abs.ev t))=some m:=by
 cases o with
 |none=>exact hb
 |some x=>
  simp only [boundE] at hb
  split at hb
  ·rename_i k i hx
   simp only [Option.map_some,h.ev hx,bound]
   exact hb
  ·cases hb
theorem O.sliceL {x:Operand} {t e:TypeId} {lo hi:Option Operand} {k ke:TyI} {xs:List IV} {a b:Nat} [hk:TyIs C t k] (ht:k.d = .sl e) [he:TyIs C e ke] (hx:lookO l x=some (.imm (.lst xs))) (hh:boundE l xs.length xs.length hi=some b) (hl:boundE l b 0 lo=some a) (hs:xs.all (fun y=>y.cells.length==ke.sz)=true) :
  OpV C id l G nx df pk (.slice t x lo hi none) (.imm (.lst ((xs.take b).drop a))) []:=
 O.of fun t' L hA=>by
  have hp:peek G pkDepth (.imm (.lst xs))=some (.lst xs,[]):=by unfold pkDepth peek;rfl
  simp only [opA,hA.ev hx,aSlice,hk.is,ht,hp,he.is,boundE_ok hA hh,boundE_ok hA hl,if_pos hs,give_nil]
theorem O.callG {f:FuncId} {ar:List Operand} {ats:Array TypeId} {vs:List AV} {ivs:List IV} {ids:List Nat} {x:IV} [hf:FnIs C f] (ha:looks l ar=some vs) (hi:peeks G vs=some (ivs,ids)) (hr:Ret C f ivs x) (hx:x.scalar=true) :
  OpV C id l G nx df pk (.call { callee := .value (.func f),args:=⟨ar⟩,argTypes:=ats }) (.imm x) []:=by
 obtain ⟨n,v,G',nx',pk',ids,h1,h2⟩:=hr
 refine ⟨fun t ht=>⟨n,?_⟩⟩
 simp only [opA,ev,aCall,fnOf,List.map_nil,List.append_nil,callA,hf.byref,Bool.false_eq_true,if_false,ht.evs ha,hi,hf.orc,h1,h2,hx,give,if_true]
end Go.Abs

/- The abstract interpreter: a logic of what code comes to: slices of the call's own that grow. -/
namespace Go.Abs
variable {C:Cfg} {fid nt:Nat} {l:Env} {G:Nat->Obj} {nx:Nat} {df:List (AV×List AV)} {pk:Pk} {Φ Φ':Out->Prop} {a b:Code} {ol r:List Oper} {base i d:Nat} {ty:TypeId} {pos:String} {af:Array Edge} {v:AV} {id:Nat}
def Own (e sz lo hi:Nat) (xs:List IV) (G:Nat->Obj) (v:AV):Prop:=
 (xs=[]/\v = .nils)\/∃ o,lo<=o/\o < hi/\v = .row o xs.length/\G o = .row e sz (xs.map .imm) false
theorem Own.nil (e sz lo hi:Nat) (G:Nat->Obj):Own e sz lo hi [] G .nils := .inl ⟨rfl,rfl⟩
theorem Own.frame {e sz lo hi hi':Nat} {xs:List IV} {G G':Nat->Obj} {v:AV} (h:Own e sz lo hi xs G v) (hh:hi<=hi') (hG:∀ o,lo<=o->o < hi->G' o=G o):Own e sz lo hi' xs G' v:=by
 rcases h with h|⟨o,h1,h2,h3,h4⟩
 ·exact .inl h
 ·exact .inr ⟨o,h1,by omega,h3,by rw [hG o h1 h2];exact h4⟩
theorem Own.up {e sz lo hi hi':Nat} {xs:List IV} {G:Nat->Obj} {v:AV} (h:Own e sz lo hi xs G v) (hh:hi<=hi'):Own e sz lo hi' xs G v:=h.frame hh fun _ _ _=>rfl
theorem Own.upd {e sz lo hi hi' q:Nat} {xs:List IV} {G:Nat->Obj} {v:AV} {x:Obj} (h:Own e sz lo hi xs G v) (hh:hi<=hi') (hq:hi<=q):Own e sz lo hi' xs (Go.Abs.upd G q x) v:=
 h.frame hh fun o _ h2=>upd_ne _ _ _ _ (by omega)
theorem peekL_imm {f:AV->Option (IV×List Nat)} (hf:∀ x,f (.imm x)=some (x,[])):∀ xs:List IV,peekL f (xs.map .imm)=some (xs,[])
 |[]=>rfl
 |x::r=>by simp only [List.map_cons,peekL,hf,peekL_imm hf r];rfl
theorem Own.peek {e sz lo hi k:Nat} {xs:List IV} {G:Nat->Obj} {v:AV} (h:Own e sz lo hi xs G v):∃ ids,Go.Abs.peek G (k+1) v=some (.lst xs,ids):=by
 rcases h with ⟨rfl,rfl⟩|⟨o,_,_,rfl,hG⟩
 ·exact ⟨[],rfl⟩
 ·refine ⟨[o],?_⟩
  have hp:∀ x,Go.Abs.peek G k (.imm x)=some (x,[]):=fun x=>by cases k<;>rfl
  simp only [Go.Abs.peek,hG,List.length_map,if_true,peekL_imm hp]
theorem Own.elems {e sz lo hi:Nat} {xs:List IV} {G:Nat->Obj} {v:AV} (h:Own e sz lo hi xs G v):Go.Abs.elems G v=some (xs.map .imm):=by
 rcases h with ⟨rfl,rfl⟩|⟨o,_,_,rfl,hG⟩
 ·rfl
 ·simp [Go.Abs.elems,hG]
theorem O.lenO {x:Operand} {t:TypeId} {k:TyI} {e e' sz lo hi:Nat} {xs:List IV} [hk:TyIs C t k] (hx:lookO l x=some v) (hl:k.d = .sl e') (ho:Own e sz lo hi xs G v):OpV C id l G nx df pk (.call { callee := .builtin .len,args := #[x],argTypes := #[t] }) (.imm (.int .i64 xs.length)) []:=
 O.len (m:=xs.length) hx (by rw [hl];simp [lenA,ho.elems])
theorem fits_all {sz:Nat} {ys:List IV} (h:∀ y∈ys,(AV.imm y).fits sz=true):(ys.map AV.imm).all (AV.fits sz)=true:=by
 rw [List.all_eq_true]
 intro x hx
 obtain ⟨y,hy,rfl⟩:=List.mem_map.1 hx
 exact h y hy
theorem R.appOwn {x y:Operand} {t u e lo:Nat} {k ke:TyI} {xs ys:List IV} {w:AV} [hk:TyIs C t k] (ht:k.d = .sl e) [he:TyIs C e ke] (hu:Nat.beq t u=true) (hx:lookO l x=some v) (ho:Own e ke.sz lo nx xs G v) (hy:lookO l y=some w) (hw:elems G w=some (ys.map .imm))
  (hs:0 < ke.sz) (hb:ke.bytes<=4096) (hz:ke.zero.fits ke.sz=true) (hys:∀ y∈ys,(AV.imm y).fits ke.sz=true) (hm:xs.length+ys.length<=most) (hid:lo<=base+i/\base+i < nx) (hd:Nat.ble (d+1) nt=true)
  (next:∀ v' G',Own e ke.sz lo nx (xs++ys) G' v'->(∀ o,o < lo->G' o=G o)->R C nt ol base (i+1) r ((d,v')::l) G' nx df pk Φ) :
  R C nt ol base i (⟨some d, .call { callee := .builtin .append,args := #[x,y],argTypes := #[t,u] },ty,pos,af,none⟩::r) l G nx df pk Φ:=by
 rcases ho with ⟨rfl,rfl⟩|⟨o,h1,h2,rfl,hG⟩
 ·refine R.op1 (O.appNil ht hu hx hy hw hs hb hz (fits_all hys) (by simpa using hm)) hd (next _ _ (.inr ⟨base+i,hid.1,hid.2,by simp,by rw [upd_same];simp⟩) fun o ho=>upd_ne _ _ _ _ (by omega))
 ·refine R.op1 (O.appRow ht hu hx hG (by simp) hy hw hs hb hz (fits_all hys) (by simpa using hm)) hd (next _ _ (.inr ⟨o,h1,h2,by simp,by rw [upd_same];simp⟩) fun o' ho'=>upd_ne _ _ _ _ (by omega))
end Go.Abs

/- One step of the logic after the other, as far as it goes. -/
open Go Go.Abs
namespace Go.Abs
set_option maxRecDepth 100000
structure Hold (Q:Prop):Prop where
 out:Q
variable {C:Cfg} {id:Nat} {l:Env} {G:Nat->Obj} {nx:Nat} {df:List (AV×List AV)} {pk:Pk}
theorem O.addrX {x y:Operand} {t e:TypeId} {k ke:TyI} {xs:List IV} {kk:IntKind} {n:Int} {u:IV} [hk:TyIs C t k] (ht:k.d = .sl e) (he:TyIs C e ke) (hx:lookO l x=some (.imm (.lst xs))) (hy:lookO l y=some (.imm (.int kk n)))
  (h0:0<=n) (hu:xs[n.toNat]? = some u) (hs:u.cells.length=ke.sz):OpV C id l G nx df pk (.indexAddr t x y) (.imm (.eptr xs n.toNat 0)) []:=O.addrL ht hx hy h0 hu hs
variable {fid nt:Nat} {Φ:Out->Prop} {b:Code}
theorem W.unseq {a:Code} (h:W C fid nt (.seq a b) l G nx df pk Φ):W C fid nt a l G nx df pk (aft C fid nt b Φ):=by
 refine .mk fun t ht=>?_
 obtain ⟨n,o,h1,h2⟩:=h.st t ht
 unfold code at h1
 cases hc:code C (low C n) n fid nt a ⟨t,G,nx,df,pk⟩ with
 |none=>rw [hc] at h1;cases h1
 |some o'=>
  rw [hc] at h1
  cases o' with
  |norm s=>exact ⟨n,_,hc,n,o,h1,h2⟩
  |_=>cases h1;exact ⟨n,_,hc,h2⟩
theorem W.seqR {k:Nat} {ol:Array Oper} {dr:Bool} (h:W C fid nt (.region k ol dr) l G nx df pk (aft C fid nt b Φ)):W C fid nt (.seq (.region k ol dr) b) l G nx df pk Φ:=W.seq h
theorem W.seqC {c:Operand} {a a':Code} (h:W C fid nt (.cond c a a') l G nx df pk (aft C fid nt b Φ)):W C fid nt (.seq (.cond c a a') b) l G nx df pk Φ:=W.seq h
theorem O.addrRX {x y:Operand} {t e et:TypeId} {k ke:TyI} {o m sz:Nat} {xs:List AV} {fr:Bool} {kk:IntKind} {n:Int} [hk:TyIs C t k] (ht:k.d = .sl e) (he:TyIs C e ke) (hx:lookO l x=some (.row o m)) (hy:lookO l y=some (.imm (.int kk n)))
  (hG:G o = .row et sz xs fr) (hm:xs.length=m) (h0:0<=n/\n < m) (hs:sz=ke.sz):OpV C id l G nx df pk (.indexAddr t x y) (.rptr o m n.toNat 0) []:=O.addrR ht hx hy hG hm h0 hs
theorem O.loadRX {x:Operand} {t et:TypeId} {k:TyI} {o m n sz:Nat} {xs:List AV} {fr:Bool} {u:AV} [hk:TyIs C t k] (hx:lookO l x=some (.rptr o m n 0)) (hG:G o = .row et sz xs fr) (hm:xs.length=m) (hu:xs[n]? = some u) (hc:u.cells=[u]) (hg:k.d.isAgg=false) (hs:k.sz=1) :
  OpV C id l G nx df pk (.load t x) u []:=O.loadR hx hG hm hu hc hg hs
theorem O.boolNe {t:TypeId} {x y:Operand} {t2:TypeId} {m n:Bool} {k:TyI} [hk:TyIs C t k] (hb:k.d = .bool) (hx:lookO l x=some (.imm (.bool m))) (hy:lookO l y=some (.imm (.bool n))):OpV C id l G nx df pk (.binOp .neq t x y t2) (.imm (.bool (!(m==n)))) []:=
 O.of fun t L ht=>by simp only [opA,ht.ev hx,ht.ev hy,binA,eqAV,hk.is,hb,eqOp,Option.map_some]
theorem SB {P Q:Prop} (k:Q) (h:Hold Q->P:=by
 intro k
 (repeat (first|(apply R.op0;(first|exact O.move rfl|exact O.assign rfl|exact O.fieldP rfl rfl rfl rfl|exact O.loadP rfl rfl rfl (by first|rfl|assumption) rfl|exact O.cmp rfl rfl rfl|exact O.int rfl rfl (add64 (by omega))|exact O.int rfl rfl (sub64 (by omega))|exact O.int rfl rfl (add8 (by omega))|exact O.pickT rfl (by first|with_reducible rfl|with_reducible assumption|decide) rfl|exact O.pickF rfl (by first|with_reducible rfl|with_reducible assumption|decide) rfl|exact O.lenL rfl rfl|exact O.lenSv rfl rfl|exact O.lenS rfl rfl|exact O.not rfl|exact O.svEq rfl rfl|exact O.svNe rfl rfl|exact O.str rfl rfl rfl|exact O.boolEq rfl rfl rfl|exact O.boolNe rfl rfl rfl|exact O.fieldE rfl rfl rfl rfl|exact O.fieldR rfl rfl rfl rfl|exact O.loadPA rfl rfl (by first|rfl|assumption) rfl rfl|exact O.extr rfl rfl|(apply O.addrX;exact rfl;infer_instance;exact rfl;exact rfl;omega;(first|with_reducible assumption|assumption);(first|exact rfl|assumption))|(apply O.load1;exact rfl;(first|with_reducible assumption|assumption);exact rfl;exact rfl;exact rfl)|(apply O.loadE;exact rfl;exact rfl;exact rfl;(first|with_reducible assumption|assumption);exact rfl)|(apply O.loadEA;exact rfl;exact rfl;(first|with_reducible assumption|assumption);exact rfl)|(apply O.call;exact rfl;exact rfl;(first|with_reducible assumption|assumption))|(apply O.addrRX;exact rfl;infer_instance;exact rfl;exact rfl;(first|with_reducible assumption|assumption);(first|exact rfl|assumption);omega;exact rfl)|(apply O.loadRX;exact rfl;(first|with_reducible assumption|assumption);(first|exact rfl|assumption);(first|with_reducible assumption|assumption);exact rfl;exact rfl;exact rfl)|(apply O.lenO;exact rfl;exact rfl;(first|with_reducible assumption|assumption))|(apply O.build;exact rfl;exact rfl;exact rfl;exact rfl));exact rfl)|(apply R.guardT1;exact rfl;exact rfl;(first|with_reducible rfl|with_reducible assumption|decide))|(apply R.guardT0;exact rfl;exact rfl;(first|with_reducible rfl|with_reducible assumption|decide))|(apply R.guardF1;exact rfl;exact rfl;(first|with_reducible rfl|with_reducible assumption|decide);exact rfl)|(apply R.guardF0;exact rfl;exact rfl;(first|with_reducible rfl|with_reducible assumption|decide);exact rfl)|(apply R.guardN;exact rfl;exact rfl;exact rfl)|apply R.done|(first|apply W.seqR|apply W.seqC)|apply W.region|apply W.draw|(apply W.condT;exact rfl;(first|with_reducible rfl|with_reducible assumption|decide))|(apply W.condF;exact rfl;(first|with_reducible rfl|with_reducible assumption|decide))|apply W.retAft|apply W.retBlk|apply W.retLop|apply W.exitAft|apply W.exitLop|apply W.exitBlk|(apply W.exitBlkNe;exact rfl)|apply W.skipAft|apply W.skipBlk|apply W.retCut|apply W.exitCut|apply R.skip|(apply D.op0;(first|exact O.move rfl|exact O.assign rfl|exact O.fieldP rfl rfl rfl rfl|exact O.loadP rfl rfl rfl (by first|rfl|assumption) rfl|exact O.cmp rfl rfl rfl|exact O.int rfl rfl (add64 (by omega))|exact O.int rfl rfl (sub64 (by omega))|exact O.int rfl rfl (add8 (by omega))|exact O.pickT rfl (by first|with_reducible rfl|with_reducible assumption|decide) rfl|exact O.pickF rfl (by first|with_reducible rfl|with_reducible assumption|decide) rfl|exact O.lenL rfl rfl|exact O.lenSv rfl rfl|exact O.lenS rfl rfl|exact O.not rfl|exact O.svEq rfl rfl|exact O.svNe rfl rfl|exact O.str rfl rfl rfl|exact O.boolEq rfl rfl rfl|exact O.boolNe rfl rfl rfl|exact O.fieldE rfl rfl rfl rfl|exact O.fieldR rfl rfl rfl rfl|exact O.loadPA rfl rfl (by first|rfl|assumption) rfl rfl|exact O.extr rfl rfl|(apply O.addrX;exact rfl;infer_instance;exact rfl;exact rfl;omega;(first|with_reducible assumption|assumption);(first|exact rfl|assumption))|(apply O.load1;exact rfl;(first|with_reducible assumption|assumption);exact rfl;exact rfl;exact rfl)|(apply O.loadE;exact rfl;exact rfl;exact rfl;(first|with_reducible assumption|assumption);exact rfl)|(apply O.loadEA;exact rfl;exact rfl;(first|with_reducible assumption|assumption);exact rfl)|(apply O.call;exact rfl;exact rfl;(first|with_reducible assumption|assumption))|(apply O.addrRX;exact rfl;infer_instance;exact rfl;exact rfl;(first|with_reducible assumption|assumption);(first|exact rfl|assumption);omega;exact rfl)|(apply O.loadRX;exact rfl;(first|with_reducible assumption|assumption);(first|exact rfl|assumption);(first|with_reducible assumption|assumption);exact rfl;exact rfl;exact rfl)|(apply O.lenO;exact rfl;exact rfl;(first|with_reducible assumption|assumption))|(apply O.build;exact rfl;exact rfl;exact rfl;exact rfl));exact rfl;exact rfl)|(apply D.guardT1;exact rfl;exact rfl;(first|with_reducible rfl|with_reducible assumption|decide))|(apply D.guardT0;exact rfl;exact rfl;(first|with_reducible rfl|with_reducible assumption|decide))|(apply D.guardF1;exact rfl;exact rfl;(first|with_reducible rfl|with_reducible assumption|decide);exact rfl)|(apply D.guardF0;exact rfl;exact rfl;(first|with_reducible rfl|with_reducible assumption|decide);exact rfl)|(apply D.guardN;exact rfl;exact rfl;exact rfl)|(apply D.done;kernel_rfl)|(apply D.skip;kernel_rfl)))
 exact Hold.out k):P:=h ⟨k⟩
theorem SS {P Q:Prop} (k:Q) (h:Hold Q->P:=by
 intro k
 (repeat (first|(apply R.op0;(first|exact O.move rfl|exact O.assign rfl|exact O.fieldP rfl rfl rfl rfl|exact O.loadP rfl rfl rfl (by first|rfl|assumption) rfl|exact O.cmp rfl rfl rfl|exact O.int rfl rfl (add64 (by omega))|exact O.int rfl rfl (sub64 (by omega))|exact O.int rfl rfl (add8 (by omega))|exact O.pickT rfl (by first|with_reducible rfl|with_reducible assumption|decide) rfl|exact O.pickF rfl (by first|with_reducible rfl|with_reducible assumption|decide) rfl|exact O.lenL rfl rfl|exact O.lenSv rfl rfl|exact O.lenS rfl rfl|exact O.not rfl|exact O.svEq rfl rfl|exact O.svNe rfl rfl|exact O.str rfl rfl rfl|exact O.boolEq rfl rfl rfl|exact O.boolNe rfl rfl rfl|exact O.fieldE rfl rfl rfl rfl|exact O.fieldR rfl rfl rfl rfl|exact O.loadPA rfl rfl (by first|rfl|assumption) rfl rfl|exact O.extr rfl rfl|(apply O.addrX;exact rfl;infer_instance;exact rfl;exact rfl;omega;(first|with_reducible assumption|assumption);(first|exact rfl|assumption))|(apply O.load1;exact rfl;(first|with_reducible assumption|assumption);exact rfl;exact rfl;exact rfl)|(apply O.loadE;exact rfl;exact rfl;exact rfl;(first|with_reducible assumption|assumption);exact rfl)|(apply O.loadEA;exact rfl;exact rfl;(first|with_reducible assumption|assumption);exact rfl)|(apply O.call;exact rfl;exact rfl;(first|with_reducible assumption|assumption))|(apply O.addrRX;exact rfl;infer_instance;exact rfl;exact rfl;(first|with_reducible assumption|assumption);(first|exact rfl|assumption);omega;exact rfl)|(apply O.loadRX;exact rfl;(first|with_reducible assumption|assumption);(first|exact rfl|assumption);(first|with_reducible assumption|assumption);exact rfl;exact rfl;exact rfl)|(apply O.lenO;exact rfl;exact rfl;(first|with_reducible assumption|assumption))|(apply O.build;exact rfl;exact rfl;exact rfl;exact rfl));exact rfl)|(apply R.guardT1;exact rfl;exact rfl;(first|with_reducible rfl|with_reducible assumption|decide))|(apply R.guardT0;exact rfl;exact rfl;(first|with_reducible rfl|with_reducible assumption|decide))|(apply R.guardF1;exact rfl;exact rfl;(first|with_reducible rfl|with_reducible assumption|decide);exact rfl)|(apply R.guardF0;exact rfl;exact rfl;(first|with_reducible rfl|with_reducible assumption|decide);exact rfl)|(apply R.guardN;exact rfl;exact rfl;exact rfl)|apply R.done|apply W.seq|apply W.region|apply W.draw|apply W.block|(apply W.condT;exact rfl;(first|with_reducible rfl|with_reducible assumption|decide))|(apply W.condF;exact rfl;(first|with_reducible rfl|with_reducible assumption|decide))|apply W.retAft|apply W.retBlk|apply W.retLop|apply W.exitAft|apply W.exitLop|apply W.exitBlk|(apply W.exitBlkNe;exact rfl)|apply W.skipAft|apply W.skipBlk|apply W.retCut|apply W.exitCut|apply R.skip|(apply D.op0;(first|exact O.move rfl|exact O.assign rfl|exact O.fieldP rfl rfl rfl rfl|exact O.loadP rfl rfl rfl (by first|rfl|assumption) rfl|exact O.cmp rfl rfl rfl|exact O.int rfl rfl (add64 (by omega))|exact O.int rfl rfl (sub64 (by omega))|exact O.int rfl rfl (add8 (by omega))|exact O.pickT rfl (by first|with_reducible rfl|with_reducible assumption|decide) rfl|exact O.pickF rfl (by first|with_reducible rfl|with_reducible assumption|decide) rfl|exact O.lenL rfl rfl|exact O.lenSv rfl rfl|exact O.lenS rfl rfl|exact O.not rfl|exact O.svEq rfl rfl|exact O.svNe rfl rfl|exact O.str rfl rfl rfl|exact O.boolEq rfl rfl rfl|exact O.boolNe rfl rfl rfl|exact O.fieldE rfl rfl rfl rfl|exact O.fieldR rfl rfl rfl rfl|exact O.loadPA rfl rfl (by first|rfl|assumption) rfl rfl|exact O.extr rfl rfl|(apply O.addrX;exact rfl;infer_instance;exact rfl;exact rfl;omega;(first|with_reducible assumption|assumption);(first|exact rfl|assumption))|(apply O.load1;exact rfl;(first|with_reducible assumption|assumption);exact rfl;exact rfl;exact rfl)|(apply O.loadE;exact rfl;exact rfl;exact rfl;(first|with_reducible assumption|assumption);exact rfl)|(apply O.loadEA;exact rfl;exact rfl;(first|with_reducible assumption|assumption);exact rfl)|(apply O.call;exact rfl;exact rfl;(first|with_reducible assumption|assumption))|(apply O.addrRX;exact rfl;infer_instance;exact rfl;exact rfl;(first|with_reducible assumption|assumption);(first|exact rfl|assumption);omega;exact rfl)|(apply O.loadRX;exact rfl;(first|with_reducible assumption|assumption);(first|exact rfl|assumption);(first|with_reducible assumption|assumption);exact rfl;exact rfl;exact rfl)|(apply O.lenO;exact rfl;exact rfl;(first|with_reducible assumption|assumption))|(apply O.build;exact rfl;exact rfl;exact rfl;exact rfl));exact rfl;exact rfl)|(apply D.guardT1;exact rfl;exact rfl;(first|with_reducible rfl|with_reducible assumption|decide))|(apply D.guardT0;exact rfl;exact rfl;(first|with_reducible rfl|with_reducible assumption|decide))|(apply D.guardF1;exact rfl;exact rfl;(first|with_reducible rfl|with_reducible assumption|decide);exact rfl)|(apply D.guardF0;exact rfl;exact rfl;(first|with_reducible rfl|with_reducible assumption|decide);exact rfl)|(apply D.guardN;exact rfl;exact rfl;exact rfl)|(apply D.done;kernel_rfl)|(apply D.skip;kernel_rfl)))
 exact Hold.out k):P:=h ⟨k⟩
theorem SD {P Q:Prop} (k:Q) (h:Hold Q->P:=by
 intro k
 (repeat (first|(apply D.op0;(first|exact O.move rfl|exact O.assign rfl|exact O.fieldP rfl rfl rfl rfl|exact O.loadP rfl rfl rfl (by first|rfl|assumption) rfl|exact O.cmp rfl rfl rfl|exact O.int rfl rfl (add64 (by omega))|exact O.int rfl rfl (sub64 (by omega))|exact O.int rfl rfl (add8 (by omega))|exact O.pickT rfl (by first|with_reducible rfl|with_reducible assumption|decide) rfl|exact O.pickF rfl (by first|with_reducible rfl|with_reducible assumption|decide) rfl|exact O.lenL rfl rfl|exact O.lenSv rfl rfl|exact O.lenS rfl rfl|exact O.not rfl|exact O.svEq rfl rfl|exact O.svNe rfl rfl|exact O.str rfl rfl rfl|exact O.boolEq rfl rfl rfl|exact O.boolNe rfl rfl rfl|exact O.fieldE rfl rfl rfl rfl|exact O.fieldR rfl rfl rfl rfl|exact O.loadPA rfl rfl (by first|rfl|assumption) rfl rfl|exact O.extr rfl rfl|(apply O.addrX;exact rfl;infer_instance;exact rfl;exact rfl;omega;(first|with_reducible assumption|assumption);(first|exact rfl|assumption))|(apply O.load1;exact rfl;(first|with_reducible assumption|assumption);exact rfl;exact rfl;exact rfl)|(apply O.loadE;exact rfl;exact rfl;exact rfl;(first|with_reducible assumption|assumption);exact rfl)|(apply O.loadEA;exact rfl;exact rfl;(first|with_reducible assumption|assumption);exact rfl)|(apply O.call;exact rfl;exact rfl;(first|with_reducible assumption|assumption))|(apply O.addrRX;exact rfl;infer_instance;exact rfl;exact rfl;(first|with_reducible assumption|assumption);(first|exact rfl|assumption);omega;exact rfl)|(apply O.loadRX;exact rfl;(first|with_reducible assumption|assumption);(first|exact rfl|assumption);(first|with_reducible assumption|assumption);exact rfl;exact rfl;exact rfl)|(apply O.lenO;exact rfl;exact rfl;(first|with_reducible assumption|assumption))|(apply O.build;exact rfl;exact rfl;exact rfl;exact rfl));exact rfl;exact rfl)|(apply D.guardT1;exact rfl;exact rfl;(first|with_reducible rfl|with_reducible assumption|decide))|(apply D.guardT0;exact rfl;exact rfl;(first|with_reducible rfl|with_reducible assumption|decide))|(apply D.guardF1;exact rfl;exact rfl;(first|with_reducible rfl|with_reducible assumption|decide);exact rfl)|(apply D.guardF0;exact rfl;exact rfl;(first|with_reducible rfl|with_reducible assumption|decide);exact rfl)|(apply D.guardN;exact rfl;exact rfl;exact rfl)))
 exact Hold.out k):P:=h ⟨k⟩
theorem Sub.auto {l' l:Env} (h:Sub l' l:=by
 (repeat (first|exact Sub.nil _|(apply Sub.cons;exact rfl)))):Sub l' l:=h
end Go.Abs

/- Steps without memory, as far as they go. -/
open Go Go.Abs
namespace Go.Abs
set_option maxRecDepth 100000
theorem SO {P Q:Prop} (k:Q) (h:Hold Q->P:=by
 intro k
 (repeat (first|(apply R.op0;(first|exact O.move rfl|exact O.assign rfl|exact O.fieldP rfl rfl rfl rfl|exact O.loadP rfl rfl rfl (by first|rfl|assumption) rfl|exact O.cmp rfl rfl rfl|exact O.int rfl rfl (add64 (by omega))|exact O.int rfl rfl (sub64 (by omega))|exact O.int rfl rfl (add8 (by omega))|exact O.pickT rfl (by first|with_reducible rfl|with_reducible assumption|decide) rfl|exact O.pickF rfl (by first|with_reducible rfl|with_reducible assumption|decide) rfl|exact O.lenL rfl rfl|exact O.lenSv rfl rfl|exact O.lenS rfl rfl|exact O.not rfl|exact O.svEq rfl rfl|exact O.svNe rfl rfl|exact O.str rfl rfl rfl|exact O.boolEq rfl rfl rfl|exact O.fieldE rfl rfl rfl rfl|exact O.fieldR rfl rfl rfl rfl|exact O.loadPA rfl rfl (by first|rfl|assumption) rfl rfl|exact O.extr rfl rfl);exact rfl)|(apply R.guardT1;exact rfl;exact rfl;(first|with_reducible rfl|with_reducible assumption|decide))|(apply R.guardT0;exact rfl;exact rfl;(first|with_reducible rfl|with_reducible assumption|decide))|(apply R.guardF1;exact rfl;exact rfl;(first|with_reducible rfl|with_reducible assumption|decide);exact rfl)|(apply R.guardF0;exact rfl;exact rfl;(first|with_reducible rfl|with_reducible assumption|decide);exact rfl)|(apply R.guardN;exact rfl;exact rfl;exact rfl)|apply R.done|apply W.seq|apply W.region|apply W.draw|apply W.block|(apply W.condT;exact rfl;(first|with_reducible rfl|with_reducible assumption|decide))|(apply W.condF;exact rfl;(first|with_reducible rfl|with_reducible assumption|decide))|apply W.retAft|apply W.retBlk|apply W.retLop|apply W.exitAft|apply W.exitLop|apply W.exitBlk|(apply W.exitBlkNe;exact rfl)|apply W.skipAft|apply W.skipBlk|apply W.retCut|apply W.exitCut|apply R.skip))
 exact Hold.out k):P:=h ⟨k⟩
theorem SOD {P Q:Prop} (k:Q) (h:Hold Q->P:=by
 intro k
 (repeat (first|(apply D.op0;(first|exact O.move rfl|exact O.assign rfl|exact O.fieldP rfl rfl rfl rfl|exact O.loadP rfl rfl rfl (by first|rfl|assumption) rfl|exact O.cmp rfl rfl rfl|exact O.int rfl rfl (add64 (by omega))|exact O.int rfl rfl (sub64 (by omega))|exact O.int rfl rfl (add8 (by omega))|exact O.pickT rfl (by first|with_reducible rfl|with_reducible assumption|decide) rfl|exact O.pickF rfl (by first|with_reducible rfl|with_reducible assumption|decide) rfl|exact O.lenL rfl rfl|exact O.lenSv rfl rfl|exact O.lenS rfl rfl|exact O.not rfl|exact O.svEq rfl rfl|exact O.svNe rfl rfl|exact O.str rfl rfl rfl|exact O.boolEq rfl rfl rfl|exact O.fieldE rfl rfl rfl rfl|exact O.fieldR rfl rfl rfl rfl|exact O.loadPA rfl rfl (by first|rfl|assumption) rfl rfl|exact O.extr rfl rfl);exact rfl;exact rfl)|(apply D.guardT1;exact rfl;exact rfl;(first|with_reducible rfl|with_reducible assumption|decide))|(apply D.guardT0;exact rfl;exact rfl;(first|with_reducible rfl|with_reducible assumption|decide))|(apply D.guardF1;exact rfl;exact rfl;(first|with_reducible rfl|with_reducible assumption|decide);exact rfl)|(apply D.guardF0;exact rfl;exact rfl;(first|with_reducible rfl|with_reducible assumption|decide);exact rfl)|(apply D.guardN;exact rfl;exact rfl;exact rfl)))
 exact Hold.out k):P:=h ⟨k⟩
theorem SOR {P Q:Prop} (k:Q) (h:Hold Q->P:=by
 intro k
 (repeat (first|(apply R.op0;(first|exact O.move rfl|exact O.assign rfl|exact O.fieldP rfl rfl rfl rfl|exact O.loadP rfl rfl rfl (by first|rfl|assumption) rfl|exact O.cmp rfl rfl rfl|exact O.int rfl rfl (add64 (by omega))|exact O.int rfl rfl (sub64 (by omega))|exact O.int rfl rfl (add8 (by omega))|exact O.pickT rfl (by first|with_reducible rfl|with_reducible assumption|decide) rfl|exact O.pickF rfl (by first|with_reducible rfl|with_reducible assumption|decide) rfl|exact O.lenL rfl rfl|exact O.lenSv rfl rfl|exact O.lenS rfl rfl|exact O.not rfl|exact O.svEq rfl rfl|exact O.svNe rfl rfl|exact O.str rfl rfl rfl|exact O.boolEq rfl rfl rfl|exact O.fieldE rfl rfl rfl rfl|exact O.fieldR rfl rfl rfl rfl|exact O.loadPA rfl rfl (by first|rfl|assumption) rfl rfl|exact O.extr rfl rfl);exact rfl)|(apply R.guardT1;exact rfl;exact rfl;(first|with_reducible rfl|with_reducible assumption|decide))|(apply R.guardT0;exact rfl;exact rfl;(first|with_reducible rfl|with_reducible assumption|decide))|(apply R.guardF1;exact rfl;exact rfl;(first|with_reducible rfl|with_reducible assumption|decide);exact rfl)|(apply R.guardF0;exact rfl;exact rfl;(first|with_reducible rfl|with_reducible assumption|decide);exact rfl)|(apply R.guardN;exact rfl;exact rfl;exact rfl)|apply R.done))
 exact Hold.out k):P:=h ⟨k⟩
end Go.Abs

/- Names: which strings are names. -/
open Go Go.Abs
namespace Go.Abs
instance fnis69:FnIs CC 154:=⟨rfl,fun _=>rfl⟩
instance fnis70:FnIs CC 165:=⟨rfl,fun _=>rfl⟩
instance fnis39:FnIs CC 168:=⟨rfl,fun _=>rfl⟩
instance fnis42:FnIs CC 109:=⟨rfl,fun _=>rfl⟩
instance fnis38:FnIs CC 164:=⟨rfl,fun _=>rfl⟩
instance fnis40:FnIs CC 191:=⟨rfl,fun _=>rfl⟩
instance fnis10:FnIs CC 108:=⟨rfl,fun _=>rfl⟩
instance fnis11:FnIs CC 167:=⟨rfl,fun _=>rfl⟩
set_option maxRecDepth 100000
set_option maxHeartbeats 1000000
def idxFrom (l:List Str) (s:Str) (i:Nat):Int:=
 match l with
 |[] => -1
 |x::r=>if (x==s)=true then i else idxFrom r s (i+1)
theorem idxFrom_drop {l:List Str} {s x:Str} {i k:Nat} (h:l[i]? = some x):idxFrom (l.drop i) s k=if (x==s)=true then (k:Int) else idxFrom (l.drop (i+1)) s (k+1):=by
 have:l.drop i=x::l.drop (i+1):=by
  rw [List.getElem?_eq_some_iff] at h
  obtain ⟨hi,rfl⟩:=h
  exact List.drop_eq_getElem_cons hi
 rw [this,idxFrom]
theorem idxFrom_nonneg (s:Str):∀ (l:List Str) (k:Nat),decide (idxFrom l s k>=0)=l.contains s
 |[],k=>rfl
 |x::r,k=>by
  unfold idxFrom
  rw [List.contains_cons]
  by_cases h:(x==s)=true
  ·rw [if_pos h]
   have:(s==x)=true:=by rw [beq_iff_eq] at h ⊢;exact h.symm
   rw [this]
   simp
  ·rw [if_neg h,idxFrom_nonneg s r (k+1)]
   have:(s==x)=false:=by
    rw [<-Bool.not_eq_true,beq_iff_eq]
    rw [beq_iff_eq] at h
    exact fun e=>h e.symm
   rw [this,Bool.false_or]
theorem ret69 (l:List Str) (s:Str) (hl:l.length<=9223372036854775807):Ret CC 154 [.lst (l.map sv),sv s] (.int .i64 (idxFrom l s 0)):=by
 refine Ret.of (fn:=Go.Proofs.Tryz.f154) (by kernel_rfl) rfl rfl ?_
 refine SO ?_
 refine W.loop (X:=Nat) (fun i=>[(0, .imm (.lst (l.map sv))),(1, .imm (sv s)),(5, .imm (.int .i64 i))]) (fun i _ _=>i<=l.length/\idxFrom l s 0=idxFrom (l.drop i) s i) (fun i=>l.length-i) 0 (.cons rfl (.cons rfl (.cons rfl (.nil _)))) ⟨Nat.zero_le _,rfl⟩ ?_
 intro i nx G ⟨hi,he⟩
 refine SO ?_
 refine W.cond rfl (fun hc=>?_) (fun hc=>?_)
 ·have hlt:i < l.length:=by have:=of_decide_eq_true hc;rw [List.length_map] at this;omega
  obtain ⟨x,hx⟩:∃ x,l[i]? = some x:=⟨l[i],by simp [hlt]⟩
  rw [idxFrom_drop hx] at he
  refine SO ?_
  refine R.op0 (O.addrL (u:=sv x) rfl rfl rfl (by omega) (by simp [hx]) rfl) rfl ?_
  refine R.op0 (O.load1 (u:=sv x) rfl (by simp [hx]) rfl rfl rfl) rfl ?_
  refine SO ?_
  refine W.cond rfl (fun hc=>?_) (fun hc=>?_)
  ·rw [if_pos hc] at he
   refine SO ?_
   exact W.retFin1 rfl ⟨_,by rw [he];rfl⟩
  ·rw [if_neg (by simp [hc])] at he
   refine SO ?_
   refine W.skipLop (i+1) ?_ ?_ ⟨hlt,he⟩
   ·show l.length-(i+1) < l.length-i;omega
   ·exact .cons rfl (.cons rfl (.cons rfl (.nil _)))
 ·have hge:¬ i < l.length:=by have:=of_decide_eq_false hc;rw [List.length_map] at this;omega
  have:l.drop i=[]:=List.drop_eq_nil_of_le (by omega)
  refine SO ?_
  exact W.retFin1 rfl ⟨_,by rw [he,this];rfl⟩
theorem idxFrom_sym {x s:Str}:(x==s)=(s==x):=by
 rw [Bool.eq_iff_iff,beq_iff_eq,beq_iff_eq];exact ⟨Eq.symm,Eq.symm⟩
theorem ret70 (l:List Str) (s:Str) (hl:l.length<=9223372036854775807):Ret CC 165 [.lst (l.map sv),sv s] (.int .i64 (idxFrom l s 0)):=by
 refine Ret.of (fn:=Go.Proofs.Tryz.f165) (by kernel_rfl) rfl rfl ?_
 refine SO ?_
 refine W.loop (X:=Nat) (fun i=>[(0, .imm (.lst (l.map sv))),(1, .imm (sv s)),(7, .imm (.int .i64 ((l.map sv).length:Nat))),(8, .imm (.int .i64 i))]) (fun i _ _=>i<=l.length/\idxFrom l s 0=idxFrom (l.drop i) s i) (fun i=>l.length-i) 0 (.cons rfl (.cons rfl (.cons rfl (.cons rfl (.nil _))))) ⟨Nat.zero_le _,rfl⟩ ?_
 intro i nx G ⟨hi,he⟩
 refine SO ?_
 refine W.cond rfl (fun hc=>?_) (fun hc=>?_)
 ·have hlt:i < l.length:=by have:=of_decide_eq_true hc;rw [List.length_map] at this;omega
  obtain ⟨x,hx⟩:∃ x,l[i]? = some x:=⟨l[i],by simp [hlt]⟩
  rw [idxFrom_drop hx,idxFrom_sym] at he
  refine SO ?_
  refine R.op0 (O.addrL (u:=sv x) rfl rfl rfl (by omega) (by simp [hx]) rfl) rfl ?_
  refine R.op0 (O.load1 (u:=sv x) rfl (by simp [hx]) rfl rfl rfl) rfl ?_
  refine SO ?_
  refine W.cond rfl (fun hc=>?_) (fun hc=>?_)
  ·rw [if_pos hc] at he
   refine SO ?_
   exact W.retFin1 rfl ⟨_,by rw [he];rfl⟩
  ·rw [if_neg (by simp [hc])] at he
   refine SO ?_
   refine W.skipLop (i+1) ?_ ?_ ⟨hlt,he⟩
   ·show l.length-(i+1) < l.length-i;omega
   ·exact .cons rfl (.cons rfl (.cons rfl (.cons rfl (.nil _))))
 ·have hge:¬ i < l.length:=by have:=of_decide_eq_false hc;rw [List.length_map] at this;omega
  have:l.drop i=[]:=List.drop_eq_nil_of_le (by omega)
  refine SO ?_
  exact W.retFin1 rfl ⟨_,by rw [he,this];rfl⟩
theorem ret39 (l:List Str) (s:Str) (hl:l.length<=9223372036854775807):Ret CC 168 [.lst (l.map sv),sv s] (.bool (l.contains s)):=by
 refine Ret.of (fn:=Go.Proofs.Tryz.f168) (by kernel_rfl) rfl rfl ?_
 refine SO ?_
 refine R.op0 (O.call rfl rfl (ret69 l s hl)) rfl ?_
 refine SO ?_
 exact W.retFin1 rfl ⟨_,by rw [<-idxFrom_nonneg s l 0];rfl⟩
theorem ret42 (l:List Str) (s:Str) (hl:l.length<=9223372036854775807):Ret CC 109 [.lst (l.map sv),sv s] (.bool (l.contains s)):=by
 refine Ret.of (fn:=Go.Proofs.Tryz.f109) (by kernel_rfl) rfl rfl ?_
 refine SO ?_
 refine R.op0 (O.call rfl rfl (ret70 l s hl)) rfl ?_
 refine SO ?_
 exact W.retFin1 rfl ⟨_,by rw [<-idxFrom_nonneg s l 0];rfl⟩
end Go.Abs

/- Names: which strings are names. -/
open Go Go.Abs
namespace Go.Abs
instance fnis12:FnIs CC 53:=⟨rfl,fun _=>rfl⟩
set_option maxRecDepth 100000
set_option maxHeartbeats 1000000
def kws:List Str:=[[97,102,116,101,114],[97,110,100],[97,115],[97,116],[98,111,116,104],[98,121],[99,111,117,110,116],[101,97,99,104],[101,108,115,101],[103,114,101,97,116],[103,114,111,117,112],[105,110],[105,115],[107,101,121],[108,97,99,107],[108,101,97,115,116],[108,101,115,115],[108,101,116],[111,102],[111,110,99,101],[111,114],[111,116,104,101,114],[112,97,105,114],[112,114,101,118],[114,101,115,116],[115,97,109,101],[115,104,105,102,116],[115,108,105,100,101],[115,111,117,114,99,101],[115,117,109],[116,111,116,97,108],[118,97,108],[119,104,101,114,101],[119,105,116,104,105,110]]
theorem ret38:Ret CC 164 [] (.fmp (kws.map sv) (List.replicate 34 (.bool true))):=Ret.reckon (n:=60) (by kernel_rfl)
theorem ret40:Ret CC 191 [] (.lst (kws.map sv)):=Ret.reckon (n:=60) (by kernel_rfl)
def okc (c:UInt8):Bool := !(decide ((c.toNat:Int) < 97)||decide ((c.toNat:Int) > 122))
def lows (s:Str):Bool:=s.all okc
def nameOk (s:Str):Bool:=decide (0 < s.length)&&decide (s.length<=8) && !kws.contains s&&lows s
theorem low_drop {s:Str} {c:UInt8} {i:Nat} (h:s[i]? = some c):lows (s.drop i)=(okc c&&lows (s.drop (i+1))):=by
 have:s.drop i=c::s.drop (i+1):=by
  rw [List.getElem?_eq_some_iff] at h
  obtain ⟨hi,rfl⟩:=h
  exact List.drop_eq_getElem_cons hi
 rw [this,lows,List.all_cons];rfl
theorem keyFind_sv (s:Str):∀ l:List Str,keyFind (sv s) (l.map sv)=some (l.findIdx? fun x=>s==x)
 |[]=>rfl
 |x::r=>by
  have h:scalarEq (sv s) (sv x)=some (s==x):=by
   show some ((ByteArray.mk s.toArray)==(ByteArray.mk x.toArray))=_
   rw [sv_beq]
  rw [List.map_cons,keyFind,h,List.findIdx?_cons,keyFind_sv s r]
  cases s==x<;>rfl
theorem kw_at (s:Str):keyAt (sv s) (kws.map sv) (List.replicate 34 (.bool true)) (.bool false)=some (.bool (kws.contains s)):=by
 unfold keyAt
 rw [keyFind_sv]
 have hc:kws.contains s=(kws.findIdx? fun x=>s==x).isSome:=by
  rw [List.findIdx?_isSome,List.contains_eq_any_beq]
 cases hf:kws.findIdx? fun x=>s==x with
 |none=>rw [hc,hf];rfl
 |some j=>
  rw [hc,hf]
  have hj:j < kws.length:=by
   rw [List.findIdx?_eq_some_iff_getElem] at hf
   exact hf.1
  have hj':j < 34:=hj
  show (List.replicate 34 (IV.bool true))[j]? = some (IV.bool true)
  rw [List.getElem?_replicate,if_pos hj']
theorem ret10 (s:Str) (hs:s.length<=9223372036854775807):Ret CC 108 [sv s] (.bool (nameOk s)):=by
 refine Ret.of (fn:=Go.Proofs.Tryz.f108) (by kernel_rfl) rfl rfl ?_
 refine SO ?_
 refine W.loop (X:=Nat) (fun i=>[(0, .imm (sv s)),(5, .imm (.int .i64 s.length)),(6, .imm (.int .i64 i))]) (fun i _ _=>i<=s.length/\lows s=lows (s.drop i)) (fun i=>s.length-i) 0 (.cons rfl (.cons rfl (.cons rfl (.nil _)))) ⟨Nat.zero_le _,rfl⟩ ?_
 intro i nx G ⟨hi,he⟩
 refine SO ?_
 refine W.cond rfl (fun hc=>?_) (fun hc=>?_)
 ·have hlt:i < s.length:=by have:=of_decide_eq_true hc;omega
  obtain ⟨c,hx⟩:∃ c,s[i]? = some c:=⟨s[i],by simp [hlt]⟩
  rw [low_drop hx,okc] at he
  refine SO ?_
  refine R.op0 (O.indexSv rfl rfl rfl hx) rfl ?_
  refine SO ?_
  refine R.guardC0 rfl rfl rfl (fun h1=>?_) (fun h1=>?_)
  ·refine R.op0 (O.move rfl) rfl ?_
   refine SO ?_
   refine R.op0 (O.indexSv rfl rfl rfl hx) rfl ?_
   refine SO ?_
   refine W.cond rfl (fun h2=>?_) (fun h2=>?_)
   ·refine SO ?_
    refine W.retFin1 rfl ⟨[],?_⟩
    have:lows s=false:=by rw [he,h1,h2];rfl
    rw [nameOk,this];simp [peek]
   ·rw [h1,h2] at he
    refine SO ?_
    refine W.skipLop (i+1) ?_ ?_ ⟨hlt,he.trans (by simp)⟩
    ·show s.length-(i+1) < s.length-i;omega
    ·exact .cons rfl (.cons rfl (.cons rfl (.nil _)))
  ·refine SO ?_
   refine W.retFin1 rfl ⟨[],?_⟩
   have:lows s=false:=by rw [he,h1];rfl
   rw [nameOk,this];simp [peek]
 ·have hge:¬ i < s.length:=by have:=of_decide_eq_false hc;omega
  have hlow:lows s=true:=by rw [he,List.drop_eq_nil_of_le (by omega)];rfl
  refine SO ?_
  refine R.guardC1 rfl rfl rfl (fun h1=>?_) (fun h1=>?_)
  ·refine SO ?_
   refine R.guardC1 rfl rfl rfl (fun h2=>?_) (fun h2=>?_)
   ·refine R.op0 (O.call rfl rfl ret38) rfl ?_
    refine SO ?_
    refine R.op0 (O.lookF rfl rfl rfl rfl rfl (kw_at s)) rfl ?_
    refine SO ?_
    refine W.retFin1 rfl ⟨[],?_⟩
    have h1':=of_decide_eq_true h1
    have h2':=of_decide_eq_true h2
    simp [nameOk,hlow,peek]
    omega
   ·refine SO ?_
    refine W.retFin1 rfl ⟨[],?_⟩
    have h2':=of_decide_eq_false h2
    simp [nameOk,hlow,peek]
    omega
  ·refine SO ?_
   refine W.retFin1 rfl ⟨[],?_⟩
   have h1':=of_decide_eq_false h1
   simp [nameOk,hlow,peek]
   omega
end Go.Abs

/- Names: the reference's. -/
open Go Go.Abs
namespace Go.Abs
set_option maxRecDepth 100000
set_option maxHeartbeats 1000000
theorem ret11 (s:Str) (hs:s.length<=9223372036854775807):Ret CC 167 [sv s] (.bool (nameOk s)):=by
 refine Ret.of (fn:=Go.Proofs.Tryz.f167) (by kernel_rfl) rfl rfl ?_
 refine SO ?_
 refine R.guardC0 rfl rfl rfl (fun h1=>?_) (fun h1=>?_)
 ·have h1':=of_decide_eq_false h1
  refine SO ?_
  refine R.guardC0 rfl rfl rfl (fun h2=>?_) (fun h2=>?_)
  ·have h2':=of_decide_eq_false h2
   refine R.op0 (O.call rfl rfl ret40) rfl ?_
   refine SO ?_
   refine R.op0 (O.call rfl rfl (ret39 kws s (by decide))) rfl ?_
   refine SO ?_
   refine W.cond rfl (fun h3=>?_) (fun h3=>?_)
   ·refine SO ?_
    refine W.retFin1 rfl ⟨[],?_⟩
    have h3':s∈kws:=by simpa using h3
    simp [nameOk,h3',peek]
   ·have h3':¬ s∈kws:=by simpa using h3
    refine SO ?_
    refine W.loop (X:=Nat) (fun i=>[(0, .imm (sv s)),(3, .imm (.int .i64 i))]) (fun i _ _=>i<=s.length/\lows s=lows (s.drop i)) (fun i=>s.length-i) 0 (.cons rfl (.cons rfl (.nil _))) ⟨Nat.zero_le _,rfl⟩ ?_
    intro i nx G ⟨hi,he⟩
    refine SO ?_
    refine W.cond rfl (fun hc=>?_) (fun hc=>?_)
    ·have hlt:i < s.length:=by have:=of_decide_eq_true hc;omega
     obtain ⟨c,hx⟩:∃ c,s[i]? = some c:=⟨s[i],by simp [hlt]⟩
     rw [low_drop hx,okc] at he
     refine SO ?_
     refine R.op0 (O.indexSv rfl rfl rfl hx) rfl ?_
     refine SO ?_
     refine R.guardC0 rfl rfl rfl (fun h4=>?_) (fun h4=>?_)
     ·refine R.op0 (O.move rfl) rfl ?_
      refine SO ?_
      refine R.op0 (O.indexSv rfl rfl rfl hx) rfl ?_
      refine SO ?_
      refine W.cond rfl (fun h5=>?_) (fun h5=>?_)
      ·refine SO ?_
       refine W.retFin1 rfl ⟨[],?_⟩
       have:lows s=false:=by rw [he,h4,h5];rfl
       rw [nameOk,this];simp [peek]
      ·rw [h4,h5] at he
       refine SO ?_
       refine W.skipLop (i+1) ?_ ?_ ⟨hlt,he.trans (by simp)⟩
       ·show s.length-(i+1) < s.length-i;omega
       ·exact .cons rfl (.cons rfl (.nil _))
     ·refine SO ?_
      refine W.retFin1 rfl ⟨[],?_⟩
      have:lows s=false:=by rw [he,h4];rfl
      rw [nameOk,this];simp [peek]
    ·have hge:¬ i < s.length:=by have:=of_decide_eq_false hc;omega
     have hlow:lows s=true:=by rw [he,List.drop_eq_nil_of_le (by omega)];rfl
     refine SO ?_
     refine W.retFin1 rfl ⟨[],?_⟩
     simp [nameOk,hlow,h3',peek]
     omega
  ·have h2':=of_decide_eq_true h2
   refine SO ?_
   refine W.retFin1 rfl ⟨[],?_⟩
   simp [nameOk,peek]
   omega
 ·have h1':=of_decide_eq_true h1
  refine SO ?_
  refine W.retFin1 rfl ⟨[],?_⟩
  simp [nameOk,peek]
  omega
def wordN:Nat->Str
 |0=>[]
 |n+1=>wordN (n / 26)++[UInt8.ofNat (97+n % 26)]
 decreasing_by omega
theorem wordN_succ (n:Nat):wordN (n+1)=wordN (n / 26)++[UInt8.ofNat (97+n % 26)]:=by rw [wordN]
theorem wordN_len:∀ n,(wordN n).length<=n:=by
 intro n
 induction n using Nat.strongRecOn with
 |_ n ih=>
  cases n with
  |zero=>simp [wordN]
  |succ n=>
   rw [wordN_succ]
   have:=ih (n / 26) (by omega)
   simp
   omega
def good (l:List Str) (n:Nat):Bool:=nameOk (wordN n) && !l.contains (wordN n)
structure First (l:List Str) (n:Nat):Prop where
 pos:1<=n
 good:good l n=true
 least:∀ m,1<=m->m < n->Go.Abs.good l m=false
 small:n<=4294967296
end Go.Abs

/- The reference: terms. -/
open Go Go.Abs
namespace Go.Abs
set_option maxRecDepth 100000
set_option maxHeartbeats 4000000
instance fnis106:FnIs CC 170:=⟨rfl,fun _=>rfl⟩
instance fnis107:FnIs CC 171:=⟨rfl,fun _=>rfl⟩
def ty27:TyI:={ d:=TyD.sl 95,sz:=1,bytes:=24,zero:=AV.nils }
instance tyis27:TyIs CC 23 ty27:=⟨by kernel_rfl⟩
def ty29:TyI:={ d:=TyD.st [(0,1),(1,1)],sz:=2,bytes:=48,zero:=AV.agg [AV.nils,AV.nils] }
instance tyis29:TyIs CC 25 ty29:=⟨by kernel_rfl⟩
def ty30:TyI:={ d:=TyD.sl 3,sz:=1,bytes:=24,zero:=AV.nils }
instance tyis30:TyIs CC 44 ty30:=⟨by kernel_rfl⟩
def ty31:TyI:={ d:=TyD.int IntKind.i64,sz:=1,bytes:=8,zero:=AV.imm (IV.int IntKind.i64 (0)) }
instance tyis31:TyIs CC 27 ty31:=⟨by kernel_rfl⟩
def ty50:TyI:={ d:=TyD.sl 93,sz:=1,bytes:=24,zero:=AV.nils }
instance tyis50:TyIs CC 91 ty50:=⟨by kernel_rfl⟩
def ty55:TyI:={ d:=TyD.int IntKind.i64,sz:=1,bytes:=8,zero:=AV.imm (IV.int IntKind.i64 (0)) }
instance tyis55:TyIs CC 88 ty55:=⟨by kernel_rfl⟩
def ty56:TyI:={ d:=TyD.int IntKind.i64,sz:=1,bytes:=8,zero:=AV.imm (IV.int IntKind.i64 (0)) }
instance tyis56:TyIs CC 89 ty56:=⟨by kernel_rfl⟩
def ty57:TyI:={ d:=TyD.sl 172,sz:=1,bytes:=24,zero:=AV.nils }
instance tyis57:TyIs CC 90 ty57:=⟨by kernel_rfl⟩
def ty59:TyI:={ d:=TyD.st [(0,1),(1,1),(2,1),(3,1),(4,1),(5,1)],sz:=6,bytes:=88,zero:=AV.agg [AV.imm (IV.int IntKind.i64 (0)),AV.imm (IV.str { data:={ toList:=[] } }),AV.imm (IV.int IntKind.i64 (0)),AV.imm (IV.int IntKind.i64 (0)),AV.nils,AV.nils] }
instance tyis59:TyIs CC 93 ty59:=⟨by kernel_rfl⟩
def ty70:TyI:={ d:=TyD.st [(0,1),(1,6)],sz:=7,bytes:=104,zero:=AV.agg [AV.imm (IV.str { data:={ toList:=[] } }),AV.imm (IV.int IntKind.i64 (0)),AV.imm (IV.str { data:={ toList:=[] } }),AV.imm (IV.int IntKind.i64 (0)),AV.imm (IV.int IntKind.i64 (0)),AV.nils,AV.nils] }
instance tyis70:TyIs CC 95 ty70:=⟨by kernel_rfl⟩
def ty121:TyI:={ d:=TyD.int IntKind.i64,sz:=1,bytes:=8,zero:=AV.imm (IV.int IntKind.i64 (0)) }
instance tyis121:TyIs CC 170 ty121:=⟨by kernel_rfl⟩
def ty123:TyI:={ d:=TyD.st [(0,1),(1,1),(2,1)],sz:=3,bytes:=40,zero:=AV.agg [AV.imm (IV.int IntKind.i64 (0)),AV.imm (IV.int IntKind.i64 (0)),AV.nils] }
instance tyis123:TyIs CC 172 ty123:=⟨by kernel_rfl⟩
def inR (n low high:Int):Bool:=decide (n>=low)&&decide (n<=high)
theorem ret106 (n low high:Int):Ret CC 170 [.int .i64 n, .int .i64 low, .int .i64 high] (.bool (inR n low high)):=by
 refine Ret.of (fn:=Go.Proofs.Tryz.f170) (by kernel_rfl) rfl rfl ?_
 refine SO ?_
 refine R.guardC1 rfl rfl rfl (fun h1=>?_) (fun h1=>?_)
 ·refine SO ?_
  exact W.retFin1 rfl ⟨[],by unfold inR;rw [h1];rfl⟩
 ·refine SO ?_
  exact W.retFin1 rfl ⟨[],by unfold inR;rw [h1];rfl⟩
def kidsOf (op n:Int) (other:Bool):Option Nat:=
 if op=1 then (if inR n (-1000000000) 1000000000 then some 0 else none)
 else if op=2\/op=3\/op=4 then some 0
 else if op=5 then (if other then some 0 else none)
 else if op=6\/op=7\/op=8\/op=9\/op=10 then some 2
 else none
mutual
def calcR:Trm->Bool->Int->Int->Int
 | .mk op n kids,other,depth,left=>
  if depth > 10\/left < 1 then -1 else
  match kidsOf op n other with
  |none => -1
  |some k=>if kids.length≠k\/(op≠1/\n≠0) then -1 else calcRs kids other depth left 1
def calcRs:List Trm->Bool->Int->Int->Int->Int
 |[],_,_,_,n=>n
 |k::r,other,depth,left,n=>if calcR k other (depth+1) (left-n) < 0 then -1 else calcRs r other depth left (n+calcR k other (depth+1) (left-n))
end
theorem calcR_mk {op n:Int} {kids:List Trm} {other:Bool} {depth left:Int} (h:¬ (depth > 10\/left < 1)):calcR (.mk op n kids) other depth left=match kidsOf op n other with
  |none => -1
  |some k=>if kids.length≠k\/(op≠1/\n≠0) then -1 else calcRs kids other depth left 1:=by
 rw [calcR,if_neg h]
mutual
theorem calcR_le:∀ (c:Trm) (other:Bool) (depth left:Int),0<=calcR c other depth left->1<=calcR c other depth left/\calcR c other depth left<=left
 | .mk op n kids,other,depth,left,h=>by
  rw [calcR] at h ⊢
  split at h
  ·omega
  ·rename_i h0
   rw [if_neg h0]
   split at h
   ·omega
   ·split at h
    ·omega
    ·rename_i h1
     simp only [if_neg h1]
     have:=calcRs_le kids other depth left 1 (by omega) h
     omega
theorem calcRs_le:∀ (l:List Trm) (other:Bool) (depth left n:Int),1<=n/\n<=left->0<=calcRs l other depth left n->n<=calcRs l other depth left n/\calcRs l other depth left n<=left
 |[],_,_,_,n,hn,_=>by rw [calcRs];omega
 |k::r,other,depth,left,n,hn,h=>by
  rw [calcRs] at h ⊢
  split at h
  ·omega
  ·rename_i h0
   rw [if_neg h0]
   have h1:=calcR_le k other (depth+1) (left-n) (by omega)
   have:=calcRs_le r other depth left (n+calcR k other (depth+1) (left-n)) (by omega) h
   omega
end
theorem calcRs_drop {kids:List Trm} {k:Trm} {i:Nat} (h:kids[i]? = some k) (other:Bool) (depth left n:Int) :
  calcRs (kids.drop i) other depth left n=if calcR k other (depth+1) (left-n) < 0 then -1 else calcRs (kids.drop (i+1)) other depth left (n+calcR k other (depth+1) (left-n)):=by
 have:kids.drop i=k::kids.drop (i+1):=by
  rw [List.getElem?_eq_some_iff] at h
  obtain ⟨hi,rfl⟩:=h
  exact List.drop_eq_getElem_cons hi
 rw [this,calcRs]
theorem ret107 {c:Trm} (hf:c.Fits):∀ (other:Bool) (depth left:Int),(-1000<=depth/\depth<=1000)->(-1000<=left/\left<=1000)->Ret CC 171 [c.iv, .bool other, .int .i64 depth, .int .i64 left] (.int .i64 (calcR c other depth left)):=by
 induction hf with
 |mk op n kids hlen hkf ih=>
 intro other depth left hd hl
 have hlen':kids.length<=9223372036854775807:=hlen
 refine Ret.of (fn:=Go.Proofs.Tryz.f171) (by kernel_rfl) rfl rfl ?_
 refine W.seq (W.region ?_)
 refine R.op1 (O.boxS (cs:=[.imm (.int .i64 op), .imm (.int .i64 n), .imm (.lst (Trm.ivs kids))]) rfl rfl rfl) rfl ?_
 refine SO ?_
 have early:(depth > 10\/left < 1)->calcR (.mk op n kids) other depth left = -1:=fun h=>by rw [calcR,if_pos h]
 refine R.guardC0 rfl rfl rfl (fun h1=>?_) (fun h1=>?_)
 rotate_left
 ·refine SO ?_
  exact W.retFin1 rfl ⟨[],by rw [early (.inl (of_decide_eq_true h1))];rfl⟩
 refine SO ?_
 refine W.cond rfl (fun h2=>?_) (fun h2=>?_)
 ·refine SO ?_
  exact W.retFin1 rfl ⟨[],by rw [early (.inr (of_decide_eq_true h2))];rfl⟩
 have h1':=of_decide_eq_false h1
 have h2':=of_decide_eq_false h2
 have hmk:=calcR_mk (op:=op) (n:=n) (kids:=kids) (other:=other) (depth:=depth) (left:=left) (by omega)
 have hnone:kidsOf op n other=none->calcR (.mk op n kids) other depth left = -1:=fun h=>by rw [hmk,h]
 clear early
 refine W.skipAft ?_
 refine W.seq (W.region ?_)
 refine SOR ?_
 refine W.cut (X:=Nat) (fun k=>[(4, .ptr (0+0) 0),(1, .imm (.bool other)),(2, .imm (.int .i64 depth)),(3, .imm (.int .i64 left)),(9, .imm (.int .i64 1)),(10, .imm (.int .i64 k))])
  (fun k _ G'=>G'=upd (fun _ => .gone) (0+0) (.box [.imm (.int .i64 op), .imm (.int .i64 n), .imm (.lst (Trm.ivs kids))] false)/\kidsOf op n other=some k) ?_ ?_
 ·have hops:op=1\/op=2\/op=3\/op=4\/op=5\/op=6\/op=7\/op=8\/op=9\/op=10\/(op≠1/\op≠2/\op≠3/\op≠4/\op≠5/\op≠6/\op≠7/\op≠8/\op≠9/\op≠10):=by omega
  rcases hops with rfl|rfl|rfl|rfl|rfl|rfl|rfl|rfl|rfl|rfl|⟨n1,n2,n3,n4,n5,n6,n7,n8,n9,n10⟩
  ·refine SO ?_
   refine R.op0 (O.call rfl rfl (ret106 n _ _)) rfl ?_
   refine SO ?_
   refine W.cond rfl (fun h=>?_) (fun h=>?_)
   ·have ho:inR n (-1000000000) 1000000000=false:=by simpa using h
    refine SO ?_
    exact W.retFin1 rfl ⟨[],by rw [hnone (by unfold kidsOf;simp [ho])];rfl⟩
   ·have ho:inR n (-1000000000) 1000000000=true:=by simpa using h
    refine SO ?_
    refine W.skipCut 0 ?_ ⟨rfl,by unfold kidsOf;simp [ho]⟩
    exact .cons rfl (.cons rfl (.cons rfl (.cons rfl (.cons rfl (.cons rfl (.nil _))))))
  ·refine SO ?_
   refine W.skipCut 0 ?_ ⟨rfl,rfl⟩
   exact .cons rfl (.cons rfl (.cons rfl (.cons rfl (.cons rfl (.cons rfl (.nil _))))))
  ·refine SO ?_
   refine W.skipCut 0 ?_ ⟨rfl,rfl⟩
   exact .cons rfl (.cons rfl (.cons rfl (.cons rfl (.cons rfl (.cons rfl (.nil _))))))
  ·refine SO ?_
   refine W.skipCut 0 ?_ ⟨rfl,rfl⟩
   exact .cons rfl (.cons rfl (.cons rfl (.cons rfl (.cons rfl (.cons rfl (.nil _))))))
  ·refine SO ?_
   refine W.cond rfl (fun h=>?_) (fun h=>?_)
   ·have ho:other=false:=by simpa using h
    subst ho
    refine SO ?_
    exact W.retFin1 rfl ⟨[],by rw [hnone rfl];rfl⟩
   ·have ho:other=true:=by simpa using h
    subst ho
    refine SO ?_
    refine W.skipCut 0 ?_ ⟨rfl,rfl⟩
    exact .cons rfl (.cons rfl (.cons rfl (.cons rfl (.cons rfl (.cons rfl (.nil _))))))
  ·refine SO ?_
   refine W.skipCut 2 ?_ ⟨rfl,rfl⟩
   exact .cons rfl (.cons rfl (.cons rfl (.cons rfl (.cons rfl (.cons rfl (.nil _))))))
  ·refine SO ?_
   refine W.skipCut 2 ?_ ⟨rfl,rfl⟩
   exact .cons rfl (.cons rfl (.cons rfl (.cons rfl (.cons rfl (.cons rfl (.nil _))))))
  ·refine SO ?_
   refine W.skipCut 2 ?_ ⟨rfl,rfl⟩
   exact .cons rfl (.cons rfl (.cons rfl (.cons rfl (.cons rfl (.cons rfl (.nil _))))))
  ·refine SO ?_
   refine W.skipCut 2 ?_ ⟨rfl,rfl⟩
   exact .cons rfl (.cons rfl (.cons rfl (.cons rfl (.cons rfl (.cons rfl (.nil _))))))
  ·refine SO ?_
   refine W.skipCut 2 ?_ ⟨rfl,rfl⟩
   exact .cons rfl (.cons rfl (.cons rfl (.cons rfl (.cons rfl (.cons rfl (.nil _))))))
  ·have e1:(op==1)=false:=by simpa using n1
   have e2:(op==2)=false:=by simpa using n2
   have e3:(op==3)=false:=by simpa using n3
   have e4:(op==4)=false:=by simpa using n4
   have e5:(op==5)=false:=by simpa using n5
   have e6:(op==6)=false:=by simpa using n6
   have e7:(op==7)=false:=by simpa using n7
   have e8:(op==8)=false:=by simpa using n8
   have e9:(op==9)=false:=by simpa using n9
   have e10:(op==10)=false:=by simpa using n10
   refine SO ?_
   exact W.retFin1 rfl ⟨[],by rw [hnone (by unfold kidsOf;simp [n1,n2,n3,n4,n5,n6,n7,n8,n9,n10])];rfl⟩
 ·rintro k nx G ⟨rfl,hk⟩
  rw [hk] at hmk
  simp only at hmk
  have hlv:(Trm.ivs kids).length=kids.length:=by rw [Trm.ivs_map,List.length_map]
  refine W.cut (X:=Unit) (fun _=>[(4, .ptr (0+0) 0),(1, .imm (.bool other)),(2, .imm (.int .i64 depth)),(3, .imm (.int .i64 left)),(9, .imm (.int .i64 1)),(10, .imm (.int .i64 k))])
   (fun _ _ G'=>G'=upd (fun _ => .gone) (0+0) (.box [.imm (.int .i64 op), .imm (.int .i64 n), .imm (.lst (Trm.ivs kids))] false)/\kids.length=k/\(op=1\/n=0)) ?_ ?_
  ·have bad:(kids.length≠k\/(op≠1/\n≠0))->calcR (.mk op n kids) other depth left = -1:=fun h=>by rw [hmk,if_pos h]
   rcases Bool.eq_false_or_eq_true (((Trm.ivs kids).length:Int) != (k:Int)) with hA|hA
   ·refine SO ?_
    exact W.retFin1 rfl ⟨[],by rw [bad (.inl (by rw [hlv] at hA;simp at hA;omega))];rfl⟩
   ·have hA':kids.length=k:=by
     rw [hlv] at hA
     simp at hA
     omega
    rcases Bool.eq_false_or_eq_true (op != 1) with hB|hB
    ·rcases Bool.eq_false_or_eq_true (n != 0) with hN|hN
     ·refine SO ?_
      exact W.retFin1 rfl ⟨[],by rw [bad (.inr ⟨by simpa using hB,by simpa using hN⟩)];rfl⟩
     ·refine SO ?_
      refine W.skipCut () ?_ ⟨rfl,hA', .inr (by simpa using hN)⟩
      exact .cons rfl (.cons rfl (.cons rfl (.cons rfl (.cons rfl (.cons rfl (.nil _))))))
    ·refine SO ?_
     refine W.skipCut () ?_ ⟨rfl,hA', .inl (by simpa using hB)⟩
     exact .cons rfl (.cons rfl (.cons rfl (.cons rfl (.cons rfl (.cons rfl (.nil _))))))
  ·rintro _ nx G ⟨rfl,hA,hB⟩
   rw [if_neg (by omega)] at hmk
   refine SO ?_
   refine W.loop (X:=Nat×Int) (fun x=>[(4, .ptr (0+0) 0),(1, .imm (.bool other)),(2, .imm (.int .i64 depth)),(3, .imm (.int .i64 left)),(10, .imm (.int .i64 k)),(11, .imm (.int .i64 x.1)),(9, .imm (.int .i64 x.2))])
    (fun x _ G'=>G'=upd (fun _ => .gone) (0+0) (.box [.imm (.int .i64 op), .imm (.int .i64 n), .imm (.lst (Trm.ivs kids))] false)/\x.1<=kids.length/\1<=x.2/\x.2<=left/\calcR (.mk op n kids) other depth left=calcRs (kids.drop x.1) other depth left x.2) (fun x=>kids.length-x.1) (0,1)
    (.cons rfl (.cons rfl (.cons rfl (.cons rfl (.cons rfl (.cons rfl (.cons rfl (.nil _)))))))) ⟨rfl,Nat.zero_le _,by decide,by show (1:Int)<=left;omega,by rw [hmk];rfl⟩ ?_
   rintro ⟨i,m⟩ nx G ⟨rfl,hi,hm1,hm2,he⟩
   dsimp only at hi hm1 hm2 he ⊢
   refine SO ?_
   refine W.cond rfl (fun hc=>?_) (fun hc=>?_)
   ·have hlt:i < kids.length:=by have:=of_decide_eq_true hc;omega
    obtain ⟨kid,hx⟩:∃ c,kids[i]? = some c:=⟨kids[i],by simp [hlt]⟩
    have hr:=ih kid (List.mem_of_getElem? hx) other (depth+1) (left-m) (by omega) (by omega)
    have hle:=calcR_le kid other (depth+1) (left-m)
    rw [calcRs_drop hx] at he
    have hxi:(Trm.ivs kids)[i]? = some kid.iv:=by rw [Trm.ivs_map,List.getElem?_map,hx];rfl
    obtain ⟨o',n',ks'⟩:=kid
    refine SO ?_
    refine R.op0 (O.addrL (u:=(Trm.mk o' n' ks').iv) rfl rfl rfl (by omega) (by rw [Int.toNat_natCast];exact hxi) rfl) rfl ?_
    refine R.op0 (O.loadEA (e:=(Trm.mk o' n' ks').iv) rfl rfl (by rw [Int.toNat_natCast];exact hxi) rfl) rfl ?_
    refine SO ?_
    refine R.op0 (O.call rfl rfl hr) rfl ?_
    refine SO ?_
    refine W.cond rfl (fun h5=>?_) (fun h5=>?_)
    ·rw [if_pos (of_decide_eq_true h5)] at he
     refine SO ?_
     exact W.retFin1 rfl ⟨[],by rw [he];rfl⟩
    ·have h5':=of_decide_eq_false h5
     rw [if_neg h5'] at he
     have hle':=hle (by omega)
     refine SO ?_
     refine W.skipLop (i+1,m+calcR (.mk o' n' ks') other (depth+1) (left-m)) ?_ ?_ ⟨rfl,hlt,?_,?_,he⟩
     ·show kids.length-(i+1) < kids.length-i;omega
     ·exact .cons rfl (.cons rfl (.cons rfl (.cons rfl (.cons rfl (.cons rfl (.cons rfl (.nil _)))))))
     ·show 1<=m+_;omega
     ·show m+_<=left;omega
   ·have hge:¬ i < kids.length:=by have:=of_decide_eq_false hc;omega
    have:kids.drop i=[]:=List.drop_eq_nil_of_le (by omega)
    refine SO ?_
    exact W.retFin1 rfl ⟨[],by rw [he,this,calcRs];rfl⟩
end Go.Abs

/- The reference: names of definitions; the nodes of an expression; whether it looks ahead. -/
open Go Go.Abs
namespace Go.Abs
set_option maxRecDepth 100000
set_option maxHeartbeats 4000000
instance fnis96:FnIs CC 114:=⟨rfl,fun _=>rfl⟩
instance fnis58:FnIs CC 84:=⟨rfl,fun _=>rfl⟩
instance fnis68:FnIs CC 67:=⟨rfl,fun _=>rfl⟩
def defNames (p:Pgm):List Str:=(p.defs.take 7).map Dfn.name
theorem at_map {α:Type} (f:α->IV) {l:List α} {i:Nat} {x:α} (h:l[i]? = some x):(l.map f)[(i:Int).toNat]? = some (f x):=by
 rw [Int.toNat_natCast,List.getElem?_map,h];rfl
theorem at_lt {α:Type} {l:List α} {i:Nat} (h:i < l.length):∃ x,l[i]? = some x:=⟨l[i],by simp [h]⟩
theorem Exp.cells_len (e:Exp):e.iv.cells.length=6:=by cases e;rfl
theorem Dfn.cells_len (d:Dfn):d.iv.cells.length=7:=by
 obtain ⟨n,⟨op,name,m,fold,calcs,kids⟩⟩:=d;rfl
theorem ret96 (p:Pgm) (hp:p.defs.length<=9223372036854775807):Ret CC 114 [p.iv] (.lst ((defNames p).map sv)):=by
 obtain ⟨srcs,defs⟩:=p
 simp only at hp
 refine Ret.of (fn:=Go.Proofs.Tryz.f114) (by kernel_rfl) rfl rfl ?_
 refine W.seq (W.region ?_)
 refine R.op1 (O.boxS (cs:=[.imm (.lst (srcs.map sv)), .imm (.lst (defs.map Dfn.iv))]) rfl rfl rfl) rfl ?_
 refine SS ?_
 refine W.loop (X:=Nat×AV) (fun x=>[(1, .ptr (0+0) 0),(4, .imm (.int .i64 x.1)),(3,x.2)])
  (fun x nx G=>G (0+0) = .box [.imm (.lst (srcs.map sv)), .imm (.lst (defs.map Dfn.iv))] false/\x.1<=defs.length/\x.1<=7/\1<=nx/\Own 9 1 1 nx (((defs.take x.1).map Dfn.name).map sv) G x.2) (fun x=>7-x.1) (0, .nils)
  .auto ⟨rfl,Nat.zero_le _,by simp,by simp, .inl ⟨rfl,rfl⟩⟩ ?_
 rintro ⟨i,v⟩ nx G ⟨hB,hi,hi7,hnx,ho⟩
 dsimp only at hi hi7 ho ⊢
 refine SS ?_
 refine R.guardC1 rfl rfl rfl (fun h1=>?_) (fun h1=>?_)
 ·have h1':i < defs.length:=by have:=of_decide_eq_true h1;rw [List.length_map] at this;omega
  refine SS ?_
  refine W.cond rfl (fun h2=>?_) (fun h2=>?_)
  ·have h2':i < 7:=by have:=of_decide_eq_true h2;omega
   obtain ⟨d,hx⟩:=at_lt h1'
   have hxi:=at_map Dfn.iv hx
   have hdc:=d.cells_len
   have htake:(defs.take (i+1)).map Dfn.name=(defs.take i).map Dfn.name++[d.name]:=by
    rw [List.take_add_one,hx];simp
   refine SS ?_
   refine R.op1 (O.buildS (n:=1) (ke:=ty9) (xs:=[.imm (sv d.name)]) rfl rfl rfl (by decide) rfl rfl (by decide)) rfl ?_
   refine R.appOwn (lo:=1) (xs:=((defs.take i).map Dfn.name).map sv) (ys:=[sv d.name]) rfl rfl rfl (ho.upd (by omega) (by omega)) rfl (by simp [elems,upd]) (by decide) (by decide) rfl (by simp [sv];rfl) (by simp [most];omega) ⟨by omega,by simp only [List.length_cons,List.length_nil];omega⟩ rfl fun v' G' ho' hG'=>?_
   have hB':G' (0+0) = .box [.imm (.lst (srcs.map sv)), .imm (.lst (defs.map Dfn.iv))] false:=by rw [hG' (0+0) (by omega),upd_ne _ _ _ _ (by omega)];exact hB
   refine SS ?_
   refine W.skipLop (i+1,v') ?_ .auto ⟨hB',h1',h2',by omega,?_⟩
   ·show 7-(i+1) < 7-i;omega
   ·show Own 9 1 1 _ (((defs.take (i+1)).map Dfn.name).map sv) G' v'
    rw [htake,List.map_append]
    exact ho'.up (by omega)
  ·have h2':i=7:=by have:=of_decide_eq_false h2;omega
   refine SS ?_
   refine W.retFin1 rfl ?_
   have:=ho.peek (k:=99)
   subst h2'
   exact this
 ·have h1':defs.length<=i:=by have:=of_decide_eq_false h1;rw [List.length_map] at this;omega
  refine SS ?_
  refine W.retFin1 rfl ?_
  have:=ho.peek (k:=99)
  have e:defNames ⟨srcs,defs⟩=(defs.take i).map Dfn.name:=by
   unfold defNames
   rw [List.take_of_length_le (show defs.length<=7 by omega),List.take_of_length_le (show defs.length<=i by omega)]
  rw [e]
  exact this
end Go.Abs

/- The reference: the nodes of an expression; whether it looks ahead. -/
open Go Go.Abs
namespace Go.Abs
set_option maxRecDepth 100000
set_option maxHeartbeats 4000000
mutual
/-- The nodes of an expression, in order. -/
def allE:Exp->List Exp
 | .mk op name n fold calcs kids => .mk op name n fold calcs kids::allEs kids
def allEs:List Exp->List Exp
 |[]=>[]
 |k::r=>allE k++allEs r
end
theorem allEs_take {kids:List Exp} {k:Exp} {i:Nat} (h:kids[i]? = some k):allEs (kids.take (i+1))=allEs (kids.take i)++allE k:=by
 induction kids generalizing i with
 |nil=>simp at h
 |cons a r ih=>
  cases i with
  |zero=>simp at h;subst h;simp [allEs]
  |succ i=>simp only [List.getElem?_cons_succ] at h;simp only [List.take_succ_cons,allEs,ih h,List.append_assoc]
theorem allEs_len {kids:List Exp}:∀ i,(allEs (kids.take i)).length<=(allEs kids).length:=by
 induction kids with
 |nil=>intro i;simp [allEs]
 |cons a r ih=>
  intro i
  cases i with
  |zero=>simp [allEs]
  |succ i=>simp only [List.take_succ_cons,allEs,List.length_append];have:=ih i;omega
theorem ivs_at {kids:List Exp} {k:Exp} {i:Nat} (h:kids[i]? = some k):(Exp.ivs kids)[(i:Int).toNat]? = some k.iv:=by
 rw [Exp.ivs_map];exact at_map _ h
theorem ivs_len (kids:List Exp):(Exp.ivs kids).length=kids.length:=by rw [Exp.ivs_map,List.length_map]
theorem Exp.ivs_fits (l:List Exp):∀ y∈Exp.ivs l,(AV.imm y).fits 6=true:=by
 intro y hy
 rw [Exp.ivs_map] at hy
 obtain ⟨e,_,rfl⟩:=List.mem_map.1 hy
 cases e;rfl
theorem ret58 {e:Exp} (hf:e.Fits):(allE e).length<=4294967296->Ret CC 84 [e.iv] (.lst (Exp.ivs (allE e))):=by
 induction hf with
 |mk op name n fold calcs kids hn hw hc hk hcs hks ih=>
 intro hs
 have hk':kids.length<=9223372036854775807:=hk
 have hlv:=ivs_len kids
 rw [allE] at hs
 simp only [List.length_cons] at hs
 refine Ret.of (fn:=Go.Proofs.Tryz.f84) (by kernel_rfl) rfl rfl ?_
 refine W.seq (W.region ?_)
 refine R.op1 (O.boxS (cs:=[.imm (.int .i64 op), .imm (sv name), .imm (.int .i64 n), .imm (.int .i64 fold), .imm (.lst (Trm.ivs calcs)), .imm (.lst (Exp.ivs kids))]) rfl rfl rfl) rfl ?_
 refine SS ?_
 refine R.op1 (O.buildS (xs:=[.imm (Exp.mk op name n fold calcs kids).iv]) rfl rfl rfl (by decide) rfl rfl (by decide)) rfl ?_
 refine SS ?_
 refine W.loop (X:=Nat×AV) (fun x=>[(1, .ptr (0+0) 0),(4, .imm (.int .i64 x.1)),(3,x.2)])
  (fun x nx G=>G (0+0) = .box [.imm (.int .i64 op), .imm (sv name), .imm (.int .i64 n), .imm (.int .i64 fold), .imm (.lst (Trm.ivs calcs)), .imm (.lst (Exp.ivs kids))] false/\x.1<=kids.length/\1<=nx/\Own 93 6 1 nx (Exp.ivs (Exp.mk op name n fold calcs kids::allEs (kids.take x.1))) G x.2) (fun x=>kids.length-x.1) (0,_)
  .auto ⟨rfl,Nat.zero_le _,by simp, .inr ⟨_,?_,?_,rfl,rfl⟩⟩ ?_
 ·decide
 ·decide
 rintro ⟨i,v⟩ nx G ⟨hB,hi,hnx,ho⟩
 dsimp only at hi ho ⊢
 refine SS ?_
 refine W.cond rfl (fun h1=>?_) (fun h1=>?_)
 ·have h1':i < kids.length:=by have:=of_decide_eq_true h1;omega
  obtain ⟨k,hx⟩:=at_lt h1'
  have hxi:=ivs_at hx
  have hkl:=allEs_take hx
  have hle:=allEs_len (kids:=kids) (i+1)
  have hll:=congrArg List.length hkl
  rw [List.length_append] at hll
  have hr:=ih k (List.mem_of_getElem? hx) (by omega)
  obtain ⟨o',s',n',f',c',k'⟩:=k
  refine SS ?_
  refine R.appOwn (lo:=1) (ys:=Exp.ivs (allE (.mk o' s' n' f' c' k'))) rfl rfl rfl (ho.up (by omega)) rfl rfl (by decide) (by decide) rfl (Exp.ivs_fits _) ?_ ⟨by omega,by simp only [List.length_cons,List.length_nil];omega⟩ rfl fun v' G' ho' hG'=>?_
  ·rw [ivs_len,ivs_len,List.length_cons];show _<=4294967296;omega
  have hB':=hG' (0+0) (by omega)
  rw [hB] at hB'
  refine SS ?_
  refine W.skipLop (i+1,v') ?_ .auto ⟨hB',h1',by omega,?_⟩
  ·show kids.length-(i+1) < kids.length-i;omega
  ·show Own 93 6 1 _ (Exp.ivs (_::allEs (kids.take (i+1)))) G' v'
   rw [hkl,Exp.ivs_map]
   rw [Exp.ivs_map,Exp.ivs_map,<-List.map_append] at ho'
   exact ho'.up (by omega)
 ·have h1':kids.length<=i:=by have:=of_decide_eq_false h1;omega
  refine SS ?_
  refine W.retFin1 rfl ?_
  have:=ho.peek (k:=99)
  rw [List.take_of_length_le h1',<-allE] at this
  exact this
end Go.Abs

/- The reference: whether an expression looks ahead. -/
open Go Go.Abs
namespace Go.Abs
set_option maxRecDepth 100000
set_option maxHeartbeats 4000000
def Exp.fore (x:Exp):Bool:=(x.op==14)||((x.op==7)&&decide (x.n < 0))
def aheadE (e:Exp):Bool:=(allE e).any Exp.fore
theorem any_take {α:Type} {p:α->Bool} {l:List α} {i:Nat} {x:α} (h:l[i]? = some x) (hi:(l.take i).any p=false) (hx:p x=false):(l.take (i+1)).any p=false:=by
 rw [List.take_add_one,h,List.any_append,hi];simp [hx]
theorem any_of_take {α:Type} {p:α->Bool} {l:List α} {i:Nat} (h:l.length<=i) (hi:(l.take i).any p=false):l.any p=false:=by
 rw [List.take_of_length_le h] at hi;exact hi
theorem any_at {α:Type} {p:α->Bool} {l:List α} {i:Nat} {x:α} (h:l[i]? = some x) (hx:p x=true):l.any p=true:=
 List.any_eq_true.2 ⟨x,List.mem_of_getElem? h,hx⟩
theorem ret68 {e:Exp} (hf:e.Fits) (hs:(allE e).length<=4294967296):Ret CC 67 [e.iv] (.bool (aheadE e)):=by
 have hr58:=ret58 hf hs
 generalize hl:allE e=nodes at hr58 hs
 have hgoal:aheadE e=nodes.any Exp.fore:=by unfold aheadE;rw [hl]
 rw [hgoal]
 clear hgoal hl hf
 obtain ⟨op,name,n,fold,calcs,kids⟩:=e
 have hlv:=ivs_len nodes
 refine Ret.of (fn:=Go.Proofs.Tryz.f67) (by kernel_rfl) rfl rfl ?_
 refine W.seq (W.region ?_)
 refine R.op1 (O.boxS (cs:=[.imm (.int .i64 op), .imm (sv name), .imm (.int .i64 n), .imm (.int .i64 fold), .imm (.lst (Trm.ivs calcs)), .imm (.lst (Exp.ivs kids))]) rfl rfl rfl) rfl ?_
 refine SS ?_
 refine W.loop (X:=Nat) (fun i=>[(4, .imm (.int .i64 i)),(3, .imm (.lst (Exp.ivs nodes)))])
  (fun i nx G=>i<=nodes.length/\(nodes.take i).any Exp.fore=false) (fun i=>nodes.length-i) 0
  .auto ⟨Nat.zero_le _,rfl⟩ ?_
 rintro i nx G ⟨hi,ha⟩
 refine SS ?_
 refine W.cond rfl (fun h1=>?_) (fun h1=>?_)
 ·have h1':i < nodes.length:=by have:=of_decide_eq_true h1;omega
  obtain ⟨x,hx⟩:=at_lt h1'
  have hxi:=ivs_at hx
  have next:=fun h=>any_take hx ha h
  have found:=fun h=>any_at (p:=Exp.fore) hx h
  obtain ⟨o',s',n',f',c',k'⟩:=x
  rcases Bool.eq_false_or_eq_true (o'==14) with hA|hA
  ·refine SS ?_
   exact W.retFin1 rfl ⟨[],by rw [found (by show ((o'==14)||_)=true;rw [hA];rfl)];rfl⟩
  ·rcases Bool.eq_false_or_eq_true (o'==7) with hB|hB
   ·rcases Bool.eq_false_or_eq_true (decide (n' < 0)) with hC|hC
    ·refine SS ?_
     exact W.retFin1 rfl ⟨[],by rw [found (by show ((o'==14)||((o'==7)&&decide (n' < 0)))=true;rw [hA,hB,hC];rfl)];rfl⟩
    ·refine SS ?_
     refine W.skipLop (i+1) ?_ .auto ⟨h1',next (by show ((o'==14)||((o'==7)&&decide (n' < 0)))=false;rw [hA,hB,hC];rfl)⟩
     show nodes.length-(i+1) < nodes.length-i;omega
   ·refine SS ?_
    refine W.skipLop (i+1) ?_ .auto ⟨h1',next (by show ((o'==14)||((o'==7)&&decide (n' < 0)))=false;rw [hA,hB];rfl)⟩
    show nodes.length-(i+1) < nodes.length-i;omega
 ·have h1':nodes.length<=i:=by have:=of_decide_eq_false h1;omega
  refine SS ?_
  exact W.retFin1 rfl ⟨[],by rw [any_of_take h1' ha];rfl⟩
end Go.Abs

/- The reference: what expressions of a kind have; names of definitions; names that differ. -/
open Go Go.Abs
namespace Go.Abs
set_option maxRecDepth 100000
set_option maxHeartbeats 4000000
instance fnis105:FnIs CC 169:=⟨rfl,fun _=>rfl⟩
def ty142:TyI:={ d:=TyD.st [(0,1),(1,1),(2,1),(3,1),(4,1),(5,1)],sz:=6,bytes:=40,zero:=AV.imm (IV.agg [IV.int IntKind.i64 (0),IV.int IntKind.i64 (0),IV.bool false,IV.bool false,IV.int IntKind.i64 (0),IV.int IntKind.i64 (0)]) }
instance tyis142:TyIs CC 233 ty142:=⟨by kernel_rfl⟩
structure Shp where
 calcs:Nat
 kids:Nat
 name:Bool
 fold:Bool
 low:Int
 high:Int
def shpIV (s:Shp):IV := .agg [.int .i64 s.calcs, .int .i64 s.kids, .bool s.name, .bool s.fold, .int .i64 s.low, .int .i64 s.high]
def shapeR (op:Int):Option Shp:=
 if op=1\/op=2 then some ⟨0,0,true,false,0,0⟩
 else if op=3 then some ⟨0,0,true,false,1,50⟩
 else if op=4 then some ⟨0,2,false,false,0,0⟩
 else if op=5 then some ⟨1,1,false,false,0,0⟩
 else if op=6 then some ⟨2,1,false,false,0,0⟩
 else if op=7 then some ⟨0,1,false,false, -50,50⟩
 else if op=8\/op=11 then some ⟨0,1,false,true,1,50⟩
 else if op=9 then some ⟨0,1,false,true,0,50⟩
 else if op=10 then some ⟨0,1,false,true,0,0⟩
 else if op=12 then some ⟨1,2,false,false,0,50⟩
 else if op=13 then some ⟨1,2,false,false,0,0⟩
 else if op=14 then some ⟨0,2,false,false,0,50⟩
 else if op=15 then some ⟨0,1,false,false,0,0⟩
 else none
def shpRes:Option Shp->IV
 |some s => .tup [shpIV s, .bool true]
 |none => .tup [shpIV ⟨0,0,false,false,0,0⟩, .bool false]
theorem ops15 (op:Int):op=1\/op=2\/op=3\/op=4\/op=5\/op=6\/op=7\/op=8\/op=9\/op=10\/op=11\/op=12\/op=13\/op=14\/op=15 \/
  (op≠1/\op≠2/\op≠3/\op≠4/\op≠5/\op≠6/\op≠7/\op≠8/\op≠9/\op≠10/\op≠11/\op≠12/\op≠13/\op≠14/\op≠15):=by omega
theorem ret105 (op:Int):Ret CC 169 [.int .i64 op] (shpRes (shapeR op)):=by
 rcases ops15 op with rfl|rfl|rfl|rfl|rfl|rfl|rfl|rfl|rfl|rfl|rfl|rfl|rfl|rfl|rfl|⟨n1,n2,n3,n4,n5,n6,n7,n8,n9,n10,n11,n12,n13,n14,n15⟩
 iterate 15 exact Ret.reckon (n:=20) (by kernel_rfl)
 have hs:shapeR op=none:=by unfold shapeR;simp [n1,n2,n3,n4,n5,n6,n7,n8,n9,n10,n11,n12,n13,n14,n15]
 rw [hs]
 have e1:(op==1)=false:=by simpa using n1
 have e2:(op==2)=false:=by simpa using n2
 have e3:(op==3)=false:=by simpa using n3
 have e4:(op==4)=false:=by simpa using n4
 have e5:(op==5)=false:=by simpa using n5
 have e6:(op==6)=false:=by simpa using n6
 have e7:(op==7)=false:=by simpa using n7
 have e8:(op==8)=false:=by simpa using n8
 have e9:(op==9)=false:=by simpa using n9
 have e10:(op==10)=false:=by simpa using n10
 have e11:(op==11)=false:=by simpa using n11
 have e12:(op==12)=false:=by simpa using n12
 have e13:(op==13)=false:=by simpa using n13
 have e14:(op==14)=false:=by simpa using n14
 have e15:(op==15)=false:=by simpa using n15
 refine Ret.of (fn:=Go.Proofs.Tryz.f169) (by kernel_rfl) rfl rfl ?_
 refine W.seq (W.region ?_)
 refine R.op1 (O.alloc (cs:=[.imm (.int .i64 0), .imm (.int .i64 0), .imm (.bool false), .imm (.bool false), .imm (.int .i64 0), .imm (.int .i64 0)]) rfl rfl) rfl ?_
 refine SO ?_
 refine R.op0 (O.build rfl rfl rfl rfl) rfl ?_
 refine R.opN1 (O.storeP rfl rfl rfl rfl rfl rfl) ?_
 refine SO ?_
 exact W.retFinCT rfl rfl rfl rfl rfl ⟨[],rfl⟩
instance fnis97:FnIs CC 126:=⟨rfl,fun _=>rfl⟩
def diff (l:List Str):Bool:=(List.range l.length).all fun i=>nameOk (l.getD i []) && !(l.take i).contains (l.getD i [])
theorem ret97 (l:List Str) (hl:l.length<=9223372036854775807) (hs:∀ s∈l,s.length<=9223372036854775807):Ret CC 126 [.lst (l.map sv)] (.bool (diff l)):=by
 refine Ret.of (fn:=Go.Proofs.Tryz.f126) (by kernel_rfl) rfl rfl ?_
 refine SO ?_
 refine W.loop (X:=Nat) (fun i=>[(0, .imm (.lst (l.map sv))),(3, .imm (.int .i64 i))]) (fun i _ _=>i<=l.length/\∀ j,j < i->(nameOk (l.getD j []) && !(l.take j).contains (l.getD j []))=true) (fun i=>l.length-i) 0 (.cons rfl (.cons rfl (.nil _))) ⟨Nat.zero_le _,fun j hj=>by omega⟩ ?_
 intro i nx G ⟨hi,he⟩
 refine SO ?_
 refine W.cond rfl (fun hc=>?_) (fun hc=>?_)
 ·have hlt:i < l.length:=by have:=of_decide_eq_true hc;rw [List.length_map] at this;omega
  obtain ⟨x,hx⟩:∃ x,l[i]? = some x:=⟨l[i],by simp [hlt]⟩
  have hxd:l.getD i []=x:=by rw [List.getD_eq_getElem?_getD,hx];rfl
  have hxs:=hs x (List.mem_of_getElem? hx)
  have bad:(nameOk x && !(l.take i).contains x)=false->diff l=false:=fun h=>by
   unfold diff
   rw [List.all_eq_false]
   exact ⟨i,by simpa using hlt,by rw [hxd,h];simp⟩
  have e:((l.map sv).take i).drop 0=(l.take i).map sv:=by simp
  have hxm:(l.map sv)[(i:Int).toNat]? = some (sv x):=by simp [hx]
  have hr11:=ret11 x hxs
  have hr39:Ret CC 168 [.lst (((l.map sv).take i).drop 0),sv x] (.bool ((l.take i).contains x)):=by rw [e];exact ret39 _ _ (by simp;omega)
  have hall:(l.map sv).all (fun y=>y.cells.length==ty9.sz)=true:=by
   rw [List.all_eq_true]
   intro y hy
   obtain ⟨z,_,rfl⟩:=List.mem_map.1 hy
   rfl
  have hb:boundE [(18, .imm (.int .i64 (i:Int)))] (l.map sv).length (l.map sv).length (some (.tmp 18))=some i:=by
   show (if (0:Int)<=i/\(i:Int)<=((l.map sv).length:Nat) then some (i:Int).toNat else none)=some i
   rw [if_pos ⟨by omega,by rw [List.length_map];omega⟩,Int.toNat_natCast]
  cases hN:nameOk x with
  |false=>
   rw [hN] at hr11
   refine SO ?_
   refine SOD ?_
   refine D.op0 (O.addrL (u:=sv x) rfl rfl rfl (by omega) hxm rfl) rfl rfl ?_
   refine D.op0 (O.load1 (u:=sv x) rfl hxm rfl rfl rfl) rfl rfl ?_
   refine D.op0 (O.call rfl rfl hr11) rfl rfl ?_
   refine SOD ?_
   refine D.done (by kernel_rfl) ?_
   refine SO ?_
   exact W.retFin1 rfl ⟨[],by rw [bad (by rw [hN];rfl)];rfl⟩
  |true=>
   rw [hN] at hr11
   cases hC:(l.take i).contains x with
   |true=>
    rw [hC] at hr39
    refine SO ?_
    refine SOD ?_
    refine D.op0 (O.addrL (u:=sv x) rfl rfl rfl (by omega) hxm rfl) rfl rfl ?_
    refine D.op0 (O.load1 (u:=sv x) rfl hxm rfl rfl rfl) rfl rfl ?_
    refine D.op0 (O.call rfl rfl hr11) rfl rfl ?_
    refine SOD ?_
    refine D.op0 (O.sliceL (a:=0) rfl rfl hb rfl hall) rfl rfl ?_
    refine SOD ?_
    refine D.op0 (O.addrL (u:=sv x) rfl rfl rfl (by omega) hxm rfl) rfl rfl ?_
    refine SOD ?_
    refine D.op0 (O.load1 (u:=sv x) rfl hxm rfl rfl rfl) rfl rfl ?_
    refine SOD ?_
    refine D.op0 (O.call rfl rfl hr39) rfl rfl ?_
    refine SOD ?_
    refine D.done (by kernel_rfl) ?_
    refine SO ?_
    exact W.retFin1 rfl ⟨[],by rw [bad (by rw [hC];simp)];rfl⟩
   |false=>
    rw [hC] at hr39
    refine SO ?_
    refine SOD ?_
    refine D.op0 (O.addrL (u:=sv x) rfl rfl rfl (by omega) hxm rfl) rfl rfl ?_
    refine D.op0 (O.load1 (u:=sv x) rfl hxm rfl rfl rfl) rfl rfl ?_
    refine D.op0 (O.call rfl rfl hr11) rfl rfl ?_
    refine SOD ?_
    refine D.op0 (O.sliceL (a:=0) rfl rfl hb rfl hall) rfl rfl ?_
    refine SOD ?_
    refine D.op0 (O.addrL (u:=sv x) rfl rfl rfl (by omega) hxm rfl) rfl rfl ?_
    refine SOD ?_
    refine D.op0 (O.load1 (u:=sv x) rfl hxm rfl rfl rfl) rfl rfl ?_
    refine SOD ?_
    refine D.op0 (O.call rfl rfl hr39) rfl rfl ?_
    refine SOD ?_
    refine D.done (by kernel_rfl) ?_
    refine SO ?_
    refine W.skipLop (i+1) ?_ ?_ ⟨hlt,fun j hj=>?_⟩
    ·show l.length-(i+1) < l.length-i;omega
    ·exact .cons rfl (.cons rfl (.nil _))
    ·rcases Nat.lt_or_ge j i with h|h
     ·exact he j h
     ·obtain rfl:j=i:=by omega
      rw [hxd,hN,hC];rfl
 ·have hge:i=l.length:=by have:=of_decide_eq_false hc;rw [List.length_map] at this;omega
  refine SO ?_
  refine W.retFin1 rfl ⟨[],?_⟩
  have:diff l=true:=by
   unfold diff
   rw [List.all_eq_true]
   intro j hj
   exact he j (by simp at hj;omega)
  rw [this];rfl
end Go.Abs
