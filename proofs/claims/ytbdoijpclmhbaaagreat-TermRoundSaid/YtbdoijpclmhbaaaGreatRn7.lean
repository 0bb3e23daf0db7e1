/- Code whose walks over maps come in whatever order: what it comes to from all states of the machine. -/
import Derived.Test.YtbdoijpclmhbaaaGreatRn6
import Derived.Test.YtbdoijpclmhbaaaGreatRows
import Derived.ProofKit
import Derived.OpenShut
import Derived.JoinedCond
import Derived.Carry
import Derived.ChangeArms
open Go Go.Abs Go.RowKit
namespace Go.Abs
variable {M M' M'':Mem} {ρ ρ' ρ'':Ref} {G G' G'':Nat->Obj} {w w' w'':World} {nx nx':Nat} {Q Q' Q'' Q0:Nat->Prop} {P:Program} {C:Cfg}
variable {nt fid:Nat} {b:Frame} {cs:List Frame} {k:List Item} {s s':St} {a:Act} {l:Env} {df:List (AV×List AV)} {pk:Pk} {Φ Φ':Out->Prop} {x y:Code}
def MS (C:Cfg) (fid nt:Nat) (c:Code) (s:St) (Φ:Out->Prop):Prop:=
 ∀ (b:Frame) (cs:List Frame) (Q0 Q:Nat->Prop) (w:World) (M:Mem) (ρ:Ref) (a:Act) (k:List Item),b.fn=fid->SR nt Q0 Q w M ρ s a->PkOK M b cs s.pk ->
  ∃ out,Φ out/\CodeEnd C.P nt b cs k Q0 (s.nx <= ·) Q w M ρ s.G s.nx (lone (b.atR a (.code c::k)) (csM s.pk cs) w) out
structure MW (C:Cfg) (fid nt:Nat) (c:Code) (l:Env) (G:Nat->Obj) (nx:Nat) (df:List (AV×List AV)) (pk:Pk) (Φ:Out->Prop):Prop where
 st:∀ t,Agree t l->MS C fid nt c ⟨t,G,nx,df,pk⟩ Φ
theorem MS.of (hC:CfgOK C) {c:Code} (h:Wst C fid nt c s Φ):MS C fid nt c s Φ:=by
 obtain ⟨n,o,h1,h2⟩:=h
 intro b cs Q0 Q w M ρ a k hb hS hp
 exact ⟨o,h2,code_ok hC (low_ok hC n).1 (low_ok hC n).2 hb c s o h1 Q w M ρ a k hS hp⟩
theorem MW.of (hC:CfgOK C) {c:Code} (h:W C fid nt c l G nx df pk Φ):MW C fid nt c l G nx df pk Φ := .mk fun t ht => .of hC (h.st t ht)
theorem MS.mono {c:Code} (h:MS C fid nt c s Φ) (hi:∀ o,Φ o->Φ' o):MS C fid nt c s Φ':=fun b cs Q0 Q w M ρ a k hb hS hp=>by
 obtain ⟨o,h1,h2⟩:=h b cs Q0 Q w M ρ a k hb hS hp
 exact ⟨o,hi o h1,h2⟩
theorem MW.mono {c:Code} (h:MW C fid nt c l G nx df pk Φ) (hi:∀ o,Φ o->Φ' o):MW C fid nt c l G nx df pk Φ' := .mk fun t ht=>(h.st t ht).mono hi
def aftM (C:Cfg) (fid nt:Nat) (y:Code) (Φ:Out->Prop):Out->Prop
 | .norm s=>MS C fid nt y s Φ
 |o=>Φ o
theorem MS.seq (h:MS C fid nt x s (aftM C fid nt y Φ)):MS C fid nt (.seq x y) s Φ:=by
 intro b cs Q0 Q w M ρ a k hb hS hp
 obtain ⟨o,h1,h2⟩:=h b cs Q0 Q w M ρ a (.code y::k) hb hS hp
 cases o with
 |norm s1=>
  obtain ⟨a1,Q1,w1,M1,ρ1,g,st⟩:=h2
  obtain ⟨o2,h3,h4⟩:=h1 b cs Q0 Q1 w1 M1 ρ1 a1 k hb g.sr g.pk
  exact ⟨o2,h3, .head stepR_seq (CodeEnd.after g.tr g.nx st h4 (fun _ h=>h) (fun o h=>Nat.le_trans g.nx h))⟩
 |exit i s1=>exact ⟨_,h1, .head stepR_seq (h2.thru (fun s' e=>by cases e) (fun id _=>rfl))⟩
 |ret s1=>exact ⟨_,h1, .head stepR_seq (h2.thru (fun s' e=>by cases e) (fun id _=>rfl))⟩
 |pan v s1=>exact ⟨_,h1, .head stepR_seq (h2.thru (fun s' e=>by cases e) (fun id _=>rfl))⟩
theorem MW.seq (h:MW C fid nt x l G nx df pk (aftM C fid nt y Φ)):MW C fid nt (.seq x y) l G nx df pk Φ := .mk fun t ht=>(h.st t ht).seq
theorem MW.cond {c:Operand} {v:Bool} (hc:lookO l c=some (.imm (.bool v))) (h1:v=true->MW C fid nt x l G nx df pk Φ) (h0:v=false->MW C fid nt y l G nx df pk Φ):MW C fid nt (.cond c x y) l G nx df pk Φ:=by
 refine .mk fun t ht b cs Q0 Q w M ρ a k hb hS hp=>?_
 have hv:=hS.tmps.ev c
 rw [show Go.Abs.ev t c = .imm (.bool v) from ht.ev hc] at hv
 have hst:=stepR_cond (P:=C.P) (b:=b) (a:=a) (cs:=csM pk cs) (w:=w) (k:=k) (c:=c) (x:=x) (y:=y) (t:=v) (by rw [eval_evV];exact hv.bool_inv)
 cases v with
 |true=>
  obtain ⟨o,h2,h3⟩:=(h1 rfl).st t ht b cs Q0 Q w M ρ a k hb hS hp
  exact ⟨o,h2, .head hst h3⟩
 |false=>
  obtain ⟨o,h2,h3⟩:=(h0 rfl).st t ht b cs Q0 Q w M ρ a k hb hS hp
  exact ⟨o,h2, .head hst h3⟩
theorem MS.block {id:Nat} (h:MS C fid nt x s (blk' id Φ)):MS C fid nt (.block id x) s Φ:=by
 intro b cs Q0 Q w M ρ a k hb hS hp
 obtain ⟨o,h1,h2⟩:=h b cs Q0 Q w M ρ a (.inBlock id::k) hb hS hp
 cases o with
 |norm s1=>
  obtain ⟨a1,Q1,w1,M1,ρ1,g,st⟩:=h2
  exact ⟨.norm s1,h1, .head stepR_block ⟨a1,Q1,w1,M1,ρ1,g,st.trans (.one stepR_inBlock)⟩⟩
 |exit i s1=>
  obtain ⟨a1,Q1,w1,M1,ρ1,todo,g,he,st⟩:=h2
  have h1:if i=id then Φ (.norm s1) else Φ (.exit i s1):=h1
  by_cases hid:i=id
  ·have h4:Φ (.norm s1):=by rw [if_pos hid] at h1;exact h1
   subst hid
   exact ⟨.norm s1,h4, .head stepR_block ⟨a1,Q1,w1,M1,ρ1,g,st.trans (.one (stepR_exit (by rw [he];simp [exitTo])))⟩⟩
  ·have h4:Φ (.exit i s1):=by rw [if_neg hid] at h1;exact h1
   exact ⟨.exit i s1,h4, .head stepR_block ⟨a1,Q1,w1,M1,ρ1,todo,g,by rw [he];simp [exitTo,Ne.symm hid],st⟩⟩
 |ret s1=>exact ⟨_,h1, .head stepR_block (h2.thru (fun s' e=>by cases e) (fun id e=>by obtain ⟨_,e⟩:=e;cases e))⟩
 |pan v s1=>exact ⟨_,h1, .head stepR_block (h2.thru (fun s' e=>by cases e) (fun id e=>by obtain ⟨_,e⟩:=e;cases e))⟩
theorem MW.block {id:Nat} (h:MW C fid nt x l G nx df pk (blk' id Φ)):MW C fid nt (.block id x) l G nx df pk Φ := .mk fun t ht=>(h.st t ht).block
theorem MW.loop {X:Type} (le:X->Env) (Ge:X->Nat->(Nat->Obj)->Prop) (mu:X->Nat) (x0:X) (hl:Sub (le x0) l) (hG:Ge x0 nx G)
  (h:∀ z nx G,Ge z nx G->MW C fid nt x (le z) G nx df pk (lop le Ge mu df pk z Φ)):MW C fid nt (.loop x) l G nx df pk Φ:=by
 have key:∀ m z nx G t,mu z<=m->Ge z nx G->Agree t (le z)->∀ (b:Frame) (cs:List Frame) (Q0 Q:Nat->Prop) (w:World) (M:Mem) (ρ:Ref) (a:Act) (k:List Item),b.fn=fid->SR nt Q0 Q w M ρ ⟨t,G,nx,df,pk⟩ a->PkOK M b cs pk ->
   ∃ out,Φ out/\CodeEnd C.P nt b cs k Q0 (nx <= ·) Q w M ρ G nx (lone (b.atR a (.code x :: .inLoop x::k)) (csM pk cs) w) out:=by
  intro m
  induction m with
  |zero=>
   intro z nx G t hm hg ht b cs Q0 Q w M ρ a k hb hS hp
   obtain ⟨o,h1,h2⟩:=(h z nx G hg).st t ht b cs Q0 Q w M ρ a (.inLoop x::k) hb hS hp
   cases o with
   |norm s1=>obtain ⟨z',h3,_⟩:=h1;omega
   |exit i s1=>exact ⟨_,h1,h2.thru (fun s' e=>by cases e) (fun id _=>rfl)⟩
   |ret s1=>exact ⟨_,h1,h2.thru (fun s' e=>by cases e) (fun id _=>rfl)⟩
   |pan v s1=>exact ⟨_,h1,h2.thru (fun s' e=>by cases e) (fun id _=>rfl)⟩
  |succ m ih=>
   intro z nx G t hm hg ht b cs Q0 Q w M ρ a k hb hS hp
   obtain ⟨o,h1,h2⟩:=(h z nx G hg).st t ht b cs Q0 Q w M ρ a (.inLoop x::k) hb hS hp
   cases o with
   |norm s1=>
    obtain ⟨z',h3,h4,h5,h6,h7⟩:=h1
    obtain ⟨a1,Q1,w1,M1,ρ1,g,st⟩:=h2
    obtain ⟨t1,G1,n1,d1,p1⟩:=s1
    simp only at h4 h5 h6 h7
    subst h6;subst h7
    obtain ⟨o2,h8,h9⟩:=ih z' n1 G1 t1 (by omega) h5 h4 b cs Q0 Q1 w1 M1 ρ1 a1 k hb g.sr g.pk
    exact ⟨o2,h8,CodeEnd.after g.tr g.nx (st.trans (.one stepR_inLoop)) h9 (fun _ h=>h) (fun o h=>Nat.le_trans g.nx h)⟩
   |exit i s1=>exact ⟨_,h1,h2.thru (fun s' e=>by cases e) (fun id _=>rfl)⟩
   |ret s1=>exact ⟨_,h1,h2.thru (fun s' e=>by cases e) (fun id _=>rfl)⟩
   |pan v s1=>exact ⟨_,h1,h2.thru (fun s' e=>by cases e) (fun id _=>rfl)⟩
 refine .mk fun t ht b cs Q0 Q w M ρ a k hb hS hp=>?_
 obtain ⟨o,h1,h2⟩:=key _ x0 nx G t (Nat.le_refl _) hG (ht.sub hl) b cs Q0 Q w M ρ a k hb hS hp
 exact ⟨o,h1, .head stepR_loop h2⟩
/-! ### from code to calls -/
theorem MW.calls (hC:CfgOK C) {f:FuncId} {fn:Func} {body:Code} {ivs:List IV} {x:IV} (hf:C.fn f=some fn) (hb:fn.body=some body) (hn:Nat.ble ivs.length fn.ntmps=true)
  (h:MW C f fn.ntmps body (envOf 0 (ivs.map .imm)) (fun _ => .gone) 0 [] .no (fin C fn.results.toList fun v G _=>∃ ids,peek G pkDepth v=some (x,ids))) {vs:Array Value}
  (hm:∀ b o,M b=some o->w.heap[b]? = some o) (hv:VL (VI M) ivs vs):Calls C.P f vs w fun e w'=>∃ cv,e = .returned cv/\WS (QN w) w w'/\OrcEnd w M cv w' (.dat x):=by
 intro cs
 have hfn:C.P.funcs[f]? = some fn:=hf
 let b:Frame:={ (default:Frame) with fn:=f,kind := .normal,roundOf:=none }
 let a0:Act:={ tmps:=vs++Array.replicate (fn.ntmps-vs.size) undef,defers:=[] }
 have henter:Frame.enter C.P f vs .normal=b.atR a0 [.code body]:=by simp [Frame.enter,Frame.atR,hfn,hb,b,a0]
 have hvi:VL (VA M (fun _=>none) (fun _ => .gone)) (ivs.map .imm) vs:=VL_imms hv
 have hn':=Nat.le_of_ble_eq_true hn
 have hS:SR fn.ntmps (QN w) (QN w) w M (fun _=>none) ⟨initT (ivs.map .imm),fun _ => .gone,0,[], .no⟩ a0:=
  ⟨Inv.empty hm,TR_init hvi,by have:=hv.1;simp [a0];omega,fun _ h=>h, .nil⟩
 obtain ⟨out,h1,h2⟩:=h.st _ (agree_init _) b cs (QN w) (QN w) w M _ a0 [] rfl hS ⟨rfl,rfl⟩
 have h2:CodeEnd C.P fn.ntmps b cs [] (QN w) (0 <= ·) (QN w) w M (fun _=>none) (fun _ => .gone) 0 (lone (Frame.enter C.P f vs .normal) cs w) out:=by rw [henter];exact h2
 have fin':∀ (s1:St) (a1:Act) (Q1:Nat->Prop) (w1:World) (M1:Mem) (ρ1:Ref) (fr:Frame),(s1.defers=[]/\s1.pk = .no/\∃ v,resultsA C s1 fn.results.toList=some v/\∃ ids,peek s1.G pkDepth v=some (x,ids)) ->
   Goes fn.ntmps b cs (QN w) (0 <= ·) (QN w) w M (fun _=>none) (fun _ => .gone) 0 s1 a1 Q1 w1 M1 ρ1->Steps C.P (lone (Frame.enter C.P f vs .normal) cs w) (lone fr (csM s1.pk cs) w1)->fr.defers=a1.defers->fr.tmps=a1.tmps->fr.fn=f->fr.kind = .normal->fr.mode = .returning ->
   ∃ (e:Ending) (w':World) (fr':Frame),(∃ cv,e = .returned cv/\WS (QN w) w w'/\OrcEnd w M cv w' (.dat x))/\Comes C.P (lone (Frame.enter C.P f vs .normal) cs w) (lone fr' cs w') e/\fr'.fn=f/\fr'.leaving C.P w' e:=by
  intro s1 a1 Q1 w1 M1 ρ1 fr ⟨hd,hp,v,hv,ids,hpeek⟩ g st hfd hft hff hk hmode
  have hl:leaveA C (low C 0) fn.results.toList s1.defers none s1=some (.ret v s1.G s1.nx,s1.pk):=by rw [hd];simp [leaveA,hv]
  obtain ⟨_,hleft⟩:=leave_ok (Q0:=QN w) (N:=fun o=>0<=o) hC (low_ok hC 0).1 a1.defers s1.defers none s1 Q1 w1 M1 ρ1 fr (csM s1.pk cs) fn (.ret v s1.G s1.nx) s1.pk hl hfd g.sr.dfr g.sr.inv g.sr.sub (by rw [hft];exact g.sr.tmps) hmode (by rw [hff];exact hfn) (fun _=>rfl) (fun _ _ => .inl rfl) (fun o ho=>Nat.zero_le _)
  obtain ⟨Q',w',M',ρ',t,i',n,e⟩:=CallEnd.of_left (pk':=s1.pk) st hk hff ⟨fn,hfn⟩ hleft
  have t0:Tr (fun o=>0<=o) (QN w) w M (fun _=>none) (fun _ => .gone) (QN w) w1 M1 ρ1 s1.G:=⟨fun _ h=>h,g.tr.ev,g.tr.ws,g.tr.mq,g.tr.born⟩
  have t:=t0.trans0 t
  rw [hp] at e
  obtain ⟨fr',cv,fn',st',h3,h4,h5,h6,h7,h8,h9⟩:=e
  have hr:=peek_VI i' _ _ _ _ _ hpeek (fun o h=>h) h9
  have hdat:=peek_live _ _ _ _ hpeek
  have hmq:MQ (QN w) M (memOf w' M' ρ' ids):=t.mq.trans ((MQ.memOf i' hdat).sub t.sub)
  have st2:Steps C.P (lone (Frame.enter C.P f vs .normal) cs w) (lone fr' cs w'):=st'
  exact ⟨.returned cv,w',fr',⟨cv,rfl,t.ws,_,Mem.le_trans t.ev.mem (memOf_le _ _ _ _),hmq,(i'.frz hdat).mem,hr⟩,st2,h6,h3,h4,h5,fn',by rw [h6];exact h7,h8⟩
 cases out with
 |norm s1=>
  obtain ⟨a1,Q1,w1,M1,ρ1,g,st⟩:=h2
  exact fin' s1 a1 Q1 w1 M1 ρ1 _ h1 g (st.trans (.one (stepR_end rfl))) rfl rfl rfl rfl rfl
 |ret s1=>
  obtain ⟨a1,Q1,w1,M1,ρ1,todo,g,st⟩:=h2
  exact fin' s1 a1 Q1 w1 M1 ρ1 _ h1 g (st.trans (.one (stepR_ret rfl))) rfl rfl rfl rfl rfl
 |exit i s1=>exact h1.elim
 |pan v s1=>exact h1.elim
/-! ### walks over maps -/
structure Itr (o bi bm clk:Nat) (es:Array MapEntry) (seen:Array Nat) (Q:Nat->Prop) (w:World) (M:Mem) (ρ:Ref):Prop where
 ref:ρ o=some (.pointer (some ⟨bi,0,none⟩))
 it:w.heap[bi]? = some (.mapIter (some bm) clk seen clk)
 mp:M bm=some (.map es clk)
 out:¬ Q bi
 mn:M bi=none
theorem Itr.tr {N:Nat->Prop} {o bi bm clk:Nat} {es:Array MapEntry} {seen:Array Nat} (h:Itr o bi bm clk es seen Q w M ρ) (t:Tr N Q w M ρ G Q' w' M' ρ' G'):Itr o bi bm clk es seen Q' w' M' ρ' where
 ref:=by
  rcases t.ev.ref _ _ h.ref with h1|⟨⟨_,_,_,h1⟩,_⟩
  ·exact h1
  ·cases h1
 it:=by rw [t.ws.block _ h.out];exact h.it
 mp:=t.ev.mem _ _ h.mp
 out:=fun hq=>h.out (t.sub _ hq)
 mn:=by
  cases e:M' bi with
  |none=>rfl
  |some z=>
   rcases t.mq bi (by rw [e];simp) with h1|h1
   ·exact absurd h.mn h1
   ·exact absurd h1 h.out
theorem Tr.wide {N Q1:Nat->Prop} (t:Tr N Q w M ρ G Q' w' M' ρ' G') (hq:∀ b,Q b->Q1 b):Tr N Q1 w M ρ G Q' w' M' ρ' G':=
 ⟨fun b h=>hq b (t.sub b h),t.ev,t.ws.sub hq,t.mq.sub hq,t.born⟩
theorem Tr.next {N N1 N2:Nat->Prop} {bi:Nat} (h:Tr N1 (fun b=>Q b\/b=bi) w M ρ G Q' w' M' ρ' G') (k:Tr N2 (fun b=>Q' b\/b=bi) w' M' ρ' G' Q'' w'' M'' ρ'' G'') (h1:∀ o,N1 o->N o) (h2:∀ o,N2 o->N o):Tr N (fun b=>Q b\/b=bi) w M ρ G Q'' w'' M'' ρ'' G'':=by
 have hq:∀ b,Q' b\/b=bi->Q b\/b=bi:=fun b hb=>hb.elim (h.sub b) .inr
 exact ⟨fun b hb=>hq b (k.sub b hb),h.ev.trans k.ev,h.ws.trans (k.ws.sub hq),h.mq.trans (k.mq.sub hq),fun o ho hr=>k.born o (fun e=>ho (h2 o e)) (h.born o (fun e=>ho (h1 o e)) hr)⟩
theorem DR.move {Q1:Nat->Prop} {ds:List (AV×List AV)} {dcs:List Deferred} (h:DR Q0 Q w M ρ G ds dcs) (h0:∀ r,r < w.heap.size->Q0 r->Q1 r) (h1:∀ r,Q' r->Q r) (h2:∀ r,r < w.heap.size->Q0 r->w'.heap[r]? = w.heap[r]?) (hv:Ev M ρ G M ρ' G):DR Q1 Q' w' M ρ' G ds dcs:=by
 induction h with
 |nil=>exact .nil
 |cons f cap ht hg ha h ih=>exact .cons f cap ht (hg.mono hv) (ha.imp fun _ _=>VA.mono hv) ih
 |mark r ht q0 q hm hr hn h ih=>
  have hlt:r < w.heap.size:=(Array.getElem?_eq_some_iff.1 hr).1
  exact .mark r ht (h0 r hlt q0) (fun e=>q (h1 r e)) hm ((h2 r hlt q0).trans hr) hn ih
theorem rest_ok (hC:CfgOK C) {ol r:List Oper} {base i:Nat} {t:Nat->AV} (hr:ol.drop i=r) (h:R C nt ol base i r l G nx df pk Φ) (ht:Agree t l) (hfree:∀ j,base<=j->j < base+ol.length->ρ j=none) (hb:base+ol.length<=nx) (hS:SR nt Q0 Q w M ρ ⟨t,G,nx,df,pk⟩ a) (hp:PkOK M b cs pk) :
  ∃ out,Φ out/\LineEnd C.P nt b cs k Q0 (base <= ·) Q w M ρ G nx (lone (b.atR a (.inRegion ⟨ol⟩ (List.range' i r.length)::k)) (csM pk cs) w) out:=by
 obtain ⟨n,o,h1,h2⟩:=h.st t ht
 rw [<-runA_eq C (low C n) nt ⟨ol⟩ base r i _ hr] at h1
 refine ⟨o,h2,runA_ok hC (low_ok hC n).1 (low_ok hC n).2 _ h1 List.nodup_range' (fun j hj=>?_) (by simpa using hb) hS hp⟩
 have hl:=congrArg List.length hr
 rw [List.length_drop] at hl
 rw [List.mem_range'] at hj
 obtain ⟨m,hm,rfl⟩:=hj
 have hlt:i+1*m < ol.length:=by omega
 exact ⟨by simpa using hlt,hfree _ (by omega) (by omega)⟩
theorem first_ok (hC:CfgOK C) {op0:Oper} {r:List Oper} {d id:Nat} {t:Nat->AV} {l':Env} {v:AV} {c:Value} (hd:op0.dst=some d) (hg:op0.guard=none) (hnd:∀ c,op0.op ≠ .defer c) (hlt:d < nt)
  (hrun:(execOp (evV a.tmps) op0).run C.P w = .ok (.value c) w') (hS:SR nt Q0 Q w' M ρ ⟨t,G,nx,df,pk⟩ a) (hv:VA M ρ G v c) (ht:Agree t l) (hp:PkOK M b cs pk)
  (hR:R C nt (op0::r) nx 1 r ((d,v)::l) G (nx+(op0::r).length) df pk (fun o=>∃ t',o = .norm ⟨t',G,nx+(op0::r).length,df,pk⟩/\Agree t' l')) :
  ∃ t' a' Q' w'' M' ρ',Agree t' l'/\Goes nt b cs Q0 (nx <= ·) Q w' M ρ G nx ⟨t',G,nx+(op0::r).length,df,pk⟩ a' Q' w'' M' ρ'/\Steps C.P (lone (b.atR a (.code (.region id ⟨op0::r⟩ false)::k)) (csM pk cs) w) (lone (b.atR a' k) (csM pk cs) w''):=by
 have hput:Go.Abs.put nt ⟨t,G,nx+(op0::r).length,df,pk⟩ op0.dst v=some ⟨upd t d v,G,nx+(op0::r).length,df,pk⟩:=by rw [hd];simp only [Go.Abs.put,if_pos hlt]
 have hS1:SR nt Q0 Q w' M ρ ⟨t,G,nx+(op0::r).length,df,pk⟩ a:=⟨hS.inv.later (by simp),hS.tmps,hS.size,hS.sub,hS.dfr⟩
 obtain ⟨hS2,_⟩:=hS1.put hput hv
 obtain ⟨o,⟨t',rfl,ht'⟩,hl⟩:=rest_ok (k:=k) (i:=1) hC rfl hR (ht.put d v) (fun j hj _=>hS.inv.free j hj) (Nat.le_refl _) hS2 hp
 obtain ⟨a',Q',w'',M',ρ',g,st⟩:=hl
 have h0:(⟨op0::r⟩:Array Oper)[0]? = some op0:=by simp
 have hw:Region.wanted op0 (yielded (⟨op0::r⟩:Array Oper) a.tmps)=true:=by simp [Region.wanted,hg]
 have s1:=stepR_region (P:=C.P) (b:=b) (a:=a) (k:=k) (cs:=csM pk cs) (w:=w) (id:=id) (ops:=⟨op0::r⟩)
 have s2:=step_value (P:=C.P) (b:=b) (a:=a) (k:=k) (cs:=csM pk cs) (ops:=⟨op0::r⟩) (i:=0) (rest:=List.range' 1 r.length) (nxt := .value c) h0 hw hnd hrun (.inl rfl)
 have e:List.range (⟨op0::r⟩:Array Oper).size=0::List.range' 1 r.length:=by
  rw [List.range_eq_range']
  show List.range' 0 (r.length+1)=_
  rw [List.range'_succ]
 rw [e] at s1
 exact ⟨t',a',Q',w'',M',ρ',ht',⟨g.tr,Nat.le_trans (by simp) g.nx,g.sr,g.pk⟩, .head s1 (.head s2 st)⟩
structure WalkH {X:Type} (C:Cfg) (fid nt:Nat) (le:X->Env) (Ge:X->Nat->(Nat->Obj)->Prop) (so:X->List Nat) (ks:List IV) (o it d1 fl d3 dk:Nat) (oN oE:Oper) (r12 r13:List Oper) (r14:Code) (df:List (AV×List AV)) (pk:Pk):Prop where
 its:∀ x,look (le x) it=some (.ptr o 0)
 n12:oN.dst=some d1/\oN.op = .next (.tmp it) false/\oN.guard=none/\d1 < nt
 n13:oE.dst=some d3/\oE.op = .entry (.tmp it)/\oE.guard=none/\d3 < nt
 h12:∀ x nx G (v:IV) (bb:Bool),Ge x nx G->(v = .tup [.bool bb]\/∃ k u,v = .tup [.bool bb,k,u])->R C nt (oN::r12) nx 1 r12 ((d1, .imm v)::le x) G (nx+(oN::r12).length) df pk (fun o=>∃ t,o = .norm ⟨t,G,nx+(oN::r12).length,df,pk⟩/\Agree t ((fl, .imm (.bool bb))::le x))
 sub:∀ x v,Sub (le x) ((fl,v)::le x)
 h13:∀ x nx G k u,Ge x nx G->R C nt (oE::r13) nx 1 r13 ((d3, .imm (.tup [k,u]))::le x) G (nx+(oE::r13).length) df pk (fun o=>∃ t,o = .norm ⟨t,G,nx+(oE::r13).length,df,pk⟩/\Agree t ((dk, .imm k)::le x))
 h14:∀ x nx G j k,Ge x nx G->ks[j]? = some k->j∉so x->W C fid nt r14 ((dk, .imm k)::le x) G nx df pk (fun o=>∃ s x',o = .norm s/\so x'=j::so x/\Agree s.tmps (le x')/\Ge x' s.nx s.G/\s.defers=df/\s.pk=pk)
 up:∀ x nx nx' G,Ge x nx G->nx<=nx'->Ge x nx' G
def walkB (oN oE:Oper) (r12 r13:List Oper) (r14:Code) (fl i12 i13 e2 e3:Nat):Code:=
 .seq (.region i12 ⟨oN::r12⟩ false) (.seq (.cond (.tmp fl) .skip (.exit e2)) (.block e3 (.seq (.region i13 ⟨oE::r13⟩ false) r14)))
theorem evV_ptr {t:Nat->AV} {arr:Array Value} {it o bi:Nat} (hT:TR M ρ G t arr) (h:t it = .ptr o 0) (hr:ρ o=some (.pointer (some ⟨bi,0,none⟩))):evV arr (.tmp it) = .pointer (some ⟨bi,0,none⟩):=by
 have:=hT it
 rw [h] at this
 show arr.getD it Go.undef=_
 generalize arr.getD it Go.undef=z at *
 cases this with
 |ptr _ _ b hb=>rw [hr] at hb;cases hb;rfl
theorem leftOf_lt {es:Array MapEntry} {seen:Array Nat} {e:MapEntry} (hn:(es.toList.map (·.born)).Nodup) (he:e∈(leftOf es seen).toList):(leftOf es (seen.push e.born)).size+1=(leftOf es seen).size:=by
 have:=(left_step hn he).length_eq
 simp at this
 omega
theorem walk_loop {X:Type} {le:X->Env} {Ge:X->Nat->(Nat->Obj)->Prop} {so:X->List Nat} {ks:List IV} {o it d1 fl d3 dk bi bm clk i12 i13 e2 e3:Nat} {oN oE:Oper} {r12 r13:List Oper} {r14:Code} {es:Array MapEntry} (hC:CfgOK C) (hbf:b.fn=fid)
  (H:WalkH C fid nt le Ge so ks o it d1 fl d3 dk oN oE r12 r13 r14 df pk) (hbn:Born es clk) (hq0:¬ Q0 bi):∀ (m:Nat) (seen:Array Nat) (x:X) (t:Nat->AV) (G:Nat->Obj) (nx:Nat) (Q:Nat->Prop) (w:World) (M:Mem) (ρ:Ref) (a:Act),
   (leftOf es seen).size=m->SR nt Q0 Q w M ρ ⟨t,G,nx,df,pk⟩ a->PkOK M b cs pk->Itr o bi bm clk es seen Q w M ρ->Agree t (le x)->Ge x nx G->(∀ (j:Nat) (hj:j < es.size),seen.contains es[j].born=true↔j∈so x) ->
   (∀ (j:Nat) (hj:j < es.size),∃ k u,ks[j]? = some k/\VI M k es[j].key/\VI M u es[j].val) ->
   ∃ x' t' G' nx' a' Q' w' M' ρ',(∀ (j:Nat),j < es.size->j∈so x')/\Agree t' (le x')/\Ge x' nx' G'/\Tr (nx <= ·) (fun b=>Q b\/b=bi) w M ρ G Q' w' M' ρ' G'/\nx<=nx'/\SR nt Q0 Q' w' M' ρ' ⟨t',G',nx',df,pk⟩ a'/\PkOK M' b cs pk /\
    Steps C.P (lone (b.atR a (.code (walkB oN oE r12 r13 r14 fl i12 i13 e2 e3) :: .inLoop (walkB oN oE r12 r13 r14 fl i12 i13 e2 e3) :: .inBlock e2::k)) (csM pk cs) w) (lone (b.atR a' k) (csM pk cs) w'):=by
 intro m
 obtain ⟨ds1,op1,ty1,p1,af1,gd1⟩:=oN
 obtain ⟨ds3,op3,ty3,p3,af3,gd3⟩:=oE
 obtain ⟨n1,n2,n3,hlt1⟩:=H.n12
 obtain ⟨n4,n5,n6,hlt3⟩:=H.n13
 simp only at n1 n2 n3 n4 n5 n6
 subst n1 n2 n3 n4 n5 n6
 induction m using Nat.strongRecOn with
 |_ m ih=>
 intro seen x t G nx Q w M ρ a hm hS hp hI ht hg hso hkv
 have hmp:=hS.inv.mem _ _ hI.mp
 have hev:=evV_ptr hS.tmps (ht _ _ (H.its x)) hI.ref
 have hexec:∀ {c:Value} {w':World},(Instr.next (.pointer (some ⟨bi,0,none⟩)) false ty1).run C.P w = .ok c w'->(execOp (evV a.tmps) ⟨some d1, .next (.tmp it) false,ty1,p1,af1,none⟩).run C.P w = .ok (.value c) w':=fun {c w'} h=>by
  show (vNext (Instr.next (evV a.tmps (.tmp it)) false ty1)).run C.P w=_
  rw [hev];exact run_vNext h
 generalize hB:walkB ⟨some d1, .next (.tmp it) false,ty1,p1,af1,none⟩ ⟨some d3, .entry (.tmp it),ty3,p3,af3,none⟩ r12 r13 r14 fl i12 i13 e2 e3=B at *
 rcases run_next_at (P:=C.P) w ty1 bi bm clk clk seen es clk hI.it hmp hbn.1 (Nat.le_refl _) with ⟨h0,hrun⟩|⟨e,he,w1,hw1,hrun⟩
 ·obtain ⟨t',a',Q',w'',M',ρ',ht',g,st⟩:=first_ok (k := .code (.seq (.cond (.tmp fl) .skip (.exit e2)) (.block e3 (.seq (.region i13 ⟨⟨some d3, .entry (.tmp it),ty3,p3,af3,none⟩::r13⟩ false) r14))) :: .inLoop B :: .inBlock e2::k) (id:=i12) hC rfl rfl (by simp) hlt1 (hexec hrun) hS (.imm _ _ VI_tup1) ht hp (H.h12 x nx G (.tup [.bool false]) false hg (.inl rfl))
  have hc:a'.eval (.tmp fl) = .bool false:=by
   have hv:=g.sr.tmps.ev (.tmp fl)
   rw [show Go.Abs.ev t' (.tmp fl) = .imm (.bool false) from ht' _ _ (by simp [look])] at hv
   rw [eval_evV];exact hv.bool_inv
  refine ⟨x,t',G,_,a',Q',w'',M',ρ',fun j hj=>(hso j hj).1 ?_,ht'.sub (H.sub x _),H.up x _ _ G hg g.nx,g.tr.wide fun _ => .inl,g.nx,g.sr,g.pk,?_⟩
  ·cases hcs:seen.contains es[j].born with
   |true=>rfl
   |false=>
    have:es[j]∈(leftOf es seen).toList:=by
     rw [left_list,List.mem_filter]
     exact ⟨by simp,by rw [hcs];rfl⟩
    have:=List.length_pos_of_mem this
    simp at this
    omega
  ·rw [<-hB]
   exact .head stepR_seq (by rw [hB];exact st.trans (.head stepR_seq (.head (stepR_cond hc) (.one (stepR_exit (by simp [exitTo]))))))
 ·have hml:=mem_left he
  obtain ⟨j,hj,hje⟩:=List.getElem_of_mem hml.1
  have hj':j < es.size:=by simpa using hj
  have hje:es[j]=e:=by rw [<-hje];simp
  obtain ⟨kk,uu,hk1,hk2,hk3⟩:=hkv j hj'
  rw [hje] at hk2 hk3
  have hnot:j∉so x:=fun hc=>by
   have:=(hso j hj').2 hc
   rw [hje,hml.2] at this;cases this
  have hheap:w1.heap=w.heap:=by rcases hw1 with rfl|rfl<;>rfl
  have hlt:bi < w.heap.size:=(Array.getElem?_eq_some_iff.1 hI.it).1
  have hsame:∀ r,r≠bi->(ChangeMaps.setBlock w1 bi (.mapIter (some bm) clk (seen.push e.born) clk)).heap[r]? = w.heap[r]? := fun r hr=>by
   simp only [ChangeMaps.setBlock,hheap,Array.getElem?_setIfInBounds]
   rw [if_neg (Ne.symm hr)]
  have hsz:(ChangeMaps.setBlock w1 bi (.mapIter (some bm) clk (seen.push e.born) clk)).heap.size=w.heap.size:=by simp [ChangeMaps.setBlock,hheap]
  have hit2:(ChangeMaps.setBlock w1 bi (.mapIter (some bm) clk (seen.push e.born) clk)).heap[bi]? = some (.mapIter (some bm) clk (seen.push e.born) clk):=by simp [ChangeMaps.setBlock,hheap,hlt]
  have hws:WS (fun b=>Q b\/b=bi) w (ChangeMaps.setBlock w1 bi (.mapIter (some bm) clk (seen.push e.born) clk)):=by
   refine ⟨?_,?_,?_,by omega,fun r hr=>hsame r fun e=>hr (.inr e)⟩
   ·rcases hw1 with rfl|rfl<;>rfl
   ·rcases hw1 with rfl|rfl<;>rfl
   ·rcases hw1 with rfl|rfl<;>rfl
  generalize ChangeMaps.setBlock w1 bi (.mapIter (some bm) clk (seen.push e.born) clk)=w2 at hrun hsame hsz hit2 hws
  have hS2:SR nt Q0 Q w2 M ρ ⟨t,G,nx,df,pk⟩ a:=⟨hS.inv.turn (fun r=>by
   by_cases h:r=bi
   ·subst h;exact .inr ⟨hI.out,hI.mn⟩
   ·exact .inl (hsame r h)) (by omega),hS.tmps,hS.size,hS.sub,hS.dfr.move (fun _ _ h=>h) (fun _ h=>h) (fun r _ hq=>hsame r fun h=>hq0 (h▸hq)) (Ev.refl _ _ _)⟩
  have hI2:Itr o bi bm clk es (seen.push e.born) Q w2 M ρ:=⟨hI.ref,hit2,hI.mp,hI.out,hI.mn⟩
  have hv2:VA M ρ G (.imm (.tup [.bool true,kk,uu])) (.tuple #[.bool true,e.key,e.val]) := .imm _ _ (.tup _ _ rfl fun i y hy=>by
   match i,hy with
   |0,hy=>simp at hy;subst hy;exact .bool _
   |1,hy=>simp at hy;subst hy;exact hk2
   |2,hy=>simp at hy;subst hy;exact hk3
   |i+3,hy=>simp at hy)
  obtain ⟨t',a',Q',w'',M',ρ',ht',g,st⟩:=first_ok (k := .code (.seq (.cond (.tmp fl) .skip (.exit e2)) (.block e3 (.seq (.region i13 ⟨⟨some d3, .entry (.tmp it),ty3,p3,af3,none⟩::r13⟩ false) r14))) :: .inLoop B :: .inBlock e2::k) (id:=i12) hC rfl rfl (by simp) hlt1 (hexec hrun) hS2 hv2 ht hp (H.h12 x nx G (.tup [.bool true,kk,uu]) true hg (.inr ⟨kk,uu,rfl⟩))
  have hc:a'.eval (.tmp fl) = .bool true:=by
   have hv:=g.sr.tmps.ev (.tmp fl)
   rw [show Go.Abs.ev t' (.tmp fl) = .imm (.bool true) from ht' _ _ (by simp [look])] at hv
   rw [eval_evV];exact hv.bool_inv
  have ht2:=ht'.sub (H.sub x _)
  have hI3:=hI2.tr g.tr
  have hev3:=evV_ptr g.sr.tmps (ht2 _ _ (H.its x)) hI3.ref
  have hen:=run_entry_at (P:=C.P) w'' bi bm clk seen es clk e hI3.it (g.sr.inv.mem _ _ hI3.mp) hml.1 hbn.2
  have hexec3:(execOp (evV a'.tmps) ⟨some d3, .entry (.tmp it),ty3,p3,af3,none⟩).run C.P w'' = .ok (.value (.tuple #[e.key,e.val])) w'':=by
   show (vNext (Instr.entry (evV a'.tmps (.tmp it)))).run C.P w''=_
   rw [hev3];exact run_vNext hen
  have hv3:VA M' ρ' G (.imm (.tup [kk,uu])) (.tuple #[e.key,e.val]) := .imm _ _ (.tup _ _ rfl fun i y hy=>by
   match i,hy with
   |0,hy=>simp at hy;subst hy;exact hk2.mono g.tr.ev.mem
   |1,hy=>simp at hy;subst hy;exact hk3.mono g.tr.ev.mem
   |i+2,hy=>simp at hy)
  obtain ⟨t3,a3,Q3,w3,M3,ρ3,ht3,g3,st3⟩:=first_ok (k := .code r14 :: .inBlock e3 :: .inLoop B :: .inBlock e2::k) (id:=i13) hC rfl rfl (by simp) hlt3 hexec3 g.sr hv3 ht2 g.pk (H.h13 x _ G kk uu (H.up x _ _ G hg g.nx))
  obtain ⟨out,⟨s4,x4,rfl,hso4,hA4,hG4,hd4,hp4⟩,hce⟩:=MS.of hC ((H.h14 x _ G j kk (H.up x _ _ G hg (Nat.le_trans g.nx g3.nx)) hk1 hnot).st t3 ht3) b cs Q0 Q3 w3 M3 ρ3 a3 (.inBlock e3 :: .inLoop B :: .inBlock e2::k) hbf g3.sr g3.pk
  obtain ⟨a4,Q4,w4,M4,ρ4,g4,st4⟩:=hce
  obtain ⟨t4,G4,nx4,d4,pk4⟩:=s4
  simp only at hA4 hG4 hd4 hp4
  subst d4 pk4
  have hI5:=(hI3.tr g3.tr).tr g4.tr
  obtain ⟨x5,t5,G5,nx5,a5,Q5,w5,M5,ρ5,h1,h2,h3,tr5,h4,h5,h6,st5⟩:=ih (leftOf es (seen.push e.born)).size (by have:=leftOf_lt hbn.2 he;omega) (seen.push e.born) x4 t4 G4 nx4 Q4 w4 M4 ρ4 a4 rfl g4.sr g4.pk hI5 hA4 hG4 (fun j2 hj2=>by
   rw [hso4,List.mem_cons,<-hso j2 hj2,Array.contains_push,Bool.or_eq_true,beq_iff_eq]
   constructor
   ·rintro (h|h)
    ·right;exact h
    ·left
     have h7:(es.toList.map (·.born))[j2]? = (es.toList.map (·.born))[j]? := by
      rw [List.getElem?_map,List.getElem?_map,Array.getElem?_toList,Array.getElem?_toList,Array.getElem?_eq_getElem hj2,Array.getElem?_eq_getElem hj',hje]
      simp [h]
     exact (List.getElem?_inj (by simpa using hj2) hbn.2).1 h7
   ·rintro (h|h)
    ·subst h;right;rw [hje]
    ·left;exact h) (fun j2 hj2=>by
   obtain ⟨k2,u2,h7,h8,h9⟩:=hkv j2 hj2
   have hle:M.le M4:=Mem.le_trans g.tr.ev.mem (Mem.le_trans g3.tr.ev.mem g4.tr.ev.mem)
   exact ⟨k2,u2,h7,h8.mono hle,h9.mono hle⟩)
  have T1:Tr (fun o=>nx<=o) (fun b=>Q b\/b=bi) w M ρ G Q w2 M ρ G:=⟨fun _ h => .inl h,Ev.refl _ _ _,hws,MQ.refl _ _,fun _ _ h=>h⟩
  have n4:nx<=nx4:=Nat.le_trans g.nx (Nat.le_trans g3.nx g4.nx)
  have T2:=T1.next (N:=fun o=>nx<=o) (g.tr.wide fun _ => .inl) (fun _ h=>h) (fun _ h=>h)
  have T3:=T2.next (N:=fun o=>nx<=o) (g3.tr.wide fun _ => .inl) (fun _ h=>h) (fun _ h=>Nat.le_trans g.nx h)
  have T4:=T3.next (N:=fun o=>nx<=o) (g4.tr.wide fun _ => .inl) (fun _ h=>h) (fun _ h=>Nat.le_trans (Nat.le_trans g.nx g3.nx) h)
  have T5:=T4.next (N:=fun o=>nx<=o) tr5 (fun _ h=>h) (fun _ h=>Nat.le_trans n4 h)
  refine ⟨x5,t5,G5,nx5,a5,Q5,w5,M5,ρ5,h1,h2,h3,T5,Nat.le_trans n4 h4,h5,h6,?_⟩
  have sA:Steps C.P (lone (b.atR a (.code B :: .inLoop B :: .inBlock e2::k)) (csM pk cs) w) (lone (b.atR a' (.code (.seq (.cond (.tmp fl) .skip (.exit e2)) (.block e3 (.seq (.region i13 ⟨⟨some d3, .entry (.tmp it),ty3,p3,af3,none⟩::r13⟩ false) r14))) :: .inLoop B :: .inBlock e2::k)) (csM pk cs) w''):=by
   rw [<-hB];exact .head stepR_seq (by rw [hB];exact st)
  have sB:Steps C.P (lone (b.atR a' (.code (.seq (.cond (.tmp fl) .skip (.exit e2)) (.block e3 (.seq (.region i13 ⟨⟨some d3, .entry (.tmp it),ty3,p3,af3,none⟩::r13⟩ false) r14))) :: .inLoop B :: .inBlock e2::k)) (csM pk cs) w'') (lone (b.atR a3 (.code r14 :: .inBlock e3 :: .inLoop B :: .inBlock e2::k)) (csM pk cs) w3):=
   .head stepR_seq (.head (stepR_cond hc) (.head stepR_skip (.head stepR_block (.head stepR_seq st3))))
  exact sA.trans (sB.trans (st4.trans (.head stepR_inBlock (.head stepR_inLoop st5))))
theorem pre_steps (hC:CfgOK C) {ol:List Oper} {base n:Nat} {rest:List Nat}:∀ (A:List Oper) (i:Nat) (s s':St) (a:Act) (Q:Nat->Prop) (w:World) (M:Mem) (ρ:Ref),(∀ m,m < A.length->ol[i+m]? = A[m]?)->i+A.length<=ol.length->runL C (low C n) nt ⟨ol⟩ base i A s=some (.norm s') ->
  (∀ j,base+i<=j->j < base+ol.length->ρ j=none)->base+ol.length<=s.nx->SR nt Q0 Q w M ρ s a->PkOK M b cs s.pk ->
  ∃ a' Q' w' M' ρ',Goes nt b cs Q0 (fun o=>(base+i<=o/\o < base+i+A.length)\/s.nx<=o) Q w M ρ s.G s.nx s' a' Q' w' M' ρ' /\
   Steps C.P (lone (b.atR a (.inRegion ⟨ol⟩ (List.range' i A.length++rest)::k)) (csM s.pk cs) w) (lone (b.atR a' (.inRegion ⟨ol⟩ rest::k)) (csM s'.pk cs) w')
 |[],i,s,s',a,Q,w,M,ρ,_,_,h,_,_,hS,hp=>by
  cases h
  exact ⟨a,Q,w,M,ρ,⟨Tr.refl _ _ _ _ _ _,Nat.le_refl _,hS,hp⟩,Steps.refl _ _⟩
 |o::A,i,s,s',a,Q,w,M,ρ,hat,hlen,h,hf,hn,hS,hp=>by
  rw [List.length_cons] at hlen
  have ho:(⟨ol⟩:Array Oper)[i]? = some o:=by
   have:=hat 0 (by simp)
   simpa using this
  unfold runL at h
  cases hs:stepA C (low C n) nt ⟨ol⟩ (base+i) o s with
  |none=>rw [hs] at h;cases h
  |some z=>
   rw [hs] at h
   cases z with
   |norm s1=>
    obtain ⟨a1,Q1,w1,M1,ρ1,g,st⟩:=stepA_ok (k:=k) (rest:=List.range' (i+1) A.length++rest) hC (low_ok hC n).1 (low_ok hC n).2 hs ho hS hp (hf _ (by omega) (by omega)) (by omega)
    obtain ⟨a2,Q2,w2,M2,ρ2,g2,st2⟩:=pre_steps hC A (i+1) s1 s' a1 Q1 w1 M1 ρ1 (fun m hm=>by
     have:=hat (m+1) (by simpa using hm)
     rw [List.getElem?_cons_succ] at this
     rw [<-this];congr 1;omega) (by omega) h (fun j h1 h2=>g.tr.born j (fun e=>by rcases e with e|e<;>omega) (hf j (by omega) h2)) (by have:=g.nx;omega) g.sr g.pk
    rw [List.length_cons,List.range'_succ,List.cons_append]
    refine ⟨a2,Q2,w2,M2,ρ2,g2.after g.tr g.nx (fun o e=>?_) (fun o e=>?_),st.trans st2⟩
    ·rcases e with e|e
     ·left;omega
     ·right;exact e
    ·rcases e with e|e
     ·left;omega
     ·right;have:=g.nx;omega
   |exit i s1=>cases h
   |ret s1=>cases h
   |pan v s1=>cases h
theorem MW.walk {X:Type} {le:X->Env} {Ge:X->Nat->(Nat->Obj)->Prop} {so:X->List Nat} {ks us:List IV} {o it d1 fl d3 dk tm i11 i12 i13 e2 e3:Nat} {oN oE rg:Oper} {A r12 r13:List Oper} {r14:Code} {tyM kt et:TypeId} {kM:TyI} {G1:Nat->Obj} {l1:Env} (hC:CfgOK C) (x0:X)
  (hrg:rg.dst=some it/\rg.op = .range tyM (.tmp tm)/\rg.guard=none/\it < nt) [hk:TyIs C tyM kM] (hkm:kM.d = .mp kt et)
  (hA:R C nt (A++[rg]) nx 0 A l G (nx+(A++[rg]).length) df pk (fun out=>∃ t',out = .norm ⟨t',G1,nx+(A++[rg]).length,df,pk⟩/\Agree t' l1)) (hl1:look l1 tm=some (.imm (.fmp ks us))) (ho:o=nx+A.length)
  (H:WalkH C fid nt le Ge so ks o it d1 fl d3 dk oN oE r12 r13 r14 df pk) (hx0:Sub (le x0) ((it, .ptr o 0)::l1)) (hg0:Ge x0 (nx+(A++[rg]).length) G1) (hs0:so x0=[]) :
  MW C fid nt (.seq (.region i11 ⟨A++[rg]⟩ false) (.block e2 (.loop (walkB oN oE r12 r13 r14 fl i12 i13 e2 e3)))) l G nx df pk (fun out=>∃ s x,out = .norm s/\(∀ j,j < ks.length->j∈so x)/\Agree s.tmps (le x)/\Ge x s.nx s.G/\s.defers=df/\s.pk=pk):=by
 refine .mk fun t ht b cs Q0 Q w M ρ a k hb hS hp=>?_
 obtain ⟨ds,op,ty,ps,af,gd⟩:=rg
 obtain ⟨n1,n2,n3,hlt⟩:=hrg
 simp only at n1 n2 n3
 subst n1 n2 n3
 obtain ⟨n,o1,h1,t1,rfl,ht1⟩:=hA.st t ht
 generalize hol:A++[(⟨some it, .range tyM (.tmp tm),ty,ps,af,none⟩:Oper)]=ol at *
 have hll:ol.length=A.length+1:=by rw [<-hol];simp
 have hS1:SR nt Q0 Q w M ρ ⟨t,G,nx+ol.length,df,pk⟩ a:=⟨hS.inv.later (by simp),hS.tmps,hS.size,hS.sub,hS.dfr⟩
 obtain ⟨a1,Q1,w1,M1,ρ1,g1,st1⟩:=pre_steps (k := .code (.block e2 (.loop (walkB oN oE r12 r13 r14 fl i12 i13 e2 e3)))::k) (rest:=[A.length]) hC A 0 _ _ a Q w M ρ (fun m hm=>by rw [<-hol,Nat.zero_add,List.getElem?_append_left hm]) (by omega) h1 (fun j h2 _=>hS.inv.free j (by simpa using h2)) (Nat.le_refl _) hS1 hp
 simp only [Nat.add_zero] at g1
 have hI1:=g1.sr.inv
 simp only at hI1
 -- the map
 have hmv:=g1.sr.tmps tm
 simp only at hmv
 rw [ht1 _ _ hl1] at hmv
 have hmv:=hmv.imm_inv
 generalize hz:a1.tmps.getD tm Go.undef=z at hmv
 cases hmv with
 |fmp _ _ bm es clk hM hkl hvl hks hvs hbn=>
 have hty:tyOf C.P tyM=some kM:=hk.is
 obtain ⟨info,zv,d,q1,q2,q3,q4,q5,q6,q7,q8⟩:=tyOf_some hty
 rw [hkm] at q5
 cases d<;>simp only [tyd,reduceCtorEq,TyD.mp.injEq] at q5
 obtain ⟨rfl,rfl⟩:=q5
 have hrun:=run_range_map (P:=C.P) w1 tyM _ _ bm es clk q2 (hI1.mem _ _ hM)
 have hnone:ρ1 o=none:=g1.tr.born o (fun e=>by rcases e with e|e<;>omega) (hS.inv.free o (show nx<=o by omega))
 have hgone:=hI1.gone o hnone
 have hGG:upd G1 o .gone=G1:=by
  funext q;unfold upd
  split
  ·rename_i e;rw [e,hgone]
  ·rfl
 have hv:Ev M1 ρ1 G1 M1 (upd ρ1 o (some (.pointer (some ⟨w1.heap.size,0,none⟩)))) G1:=by
  have:=Ev.new (M:=M1) (G:=G1) (x := .gone) (r := .pointer (some ⟨w1.heap.size,0,none⟩)) hnone
  rwa [hGG] at this
 have hold:∀ r,r < w1.heap.size->(w1.alloc (.mapIter (some bm) clk #[] clk)).heap[r]? = w1.heap[r]? := fun r hr=>heap_alloc_old w1 _ hr
 have hliv:∀ q,(G1 q).live=true->upd ρ1 o (some (.pointer (some ⟨w1.heap.size,0,none⟩))) q=ρ1 q:=fun q hq=>by
  unfold upd
  rw [if_neg]
  rintro rfl
  rw [hgone] at hq;cases hq
 have hsz1:w1.heap.size < (w1.alloc (.mapIter (some bm) clk #[] clk)).heap.size:=by simp
 have hnew:=heap_alloc_new w1 (.mapIter (some bm) clk #[] clk)
 have hwsA:WS Q1 w1 (w1.alloc (.mapIter (some bm) clk #[] clk)):=WS.alloc hI1.new _
 have hmn:M1 w1.heap.size=none:=by
  cases e:M1 w1.heap.size with
  |none=>rfl
  |some z=>have:=(Array.getElem?_eq_some_iff.1 (hI1.mem _ _ e)).1;omega
 generalize w1.alloc (.mapIter (some bm) clk #[] clk)=w2 at *
 generalize hρ:upd ρ1 o (some (.pointer (some ⟨w1.heap.size,0,none⟩)))=ρ2 at *
 have hρo:ρ2 o=some (.pointer (some ⟨w1.heap.size,0,none⟩)):=by rw [<-hρ];simp [upd]
 have hρn:∀ q,q≠o->ρ2 q=ρ1 q:=fun q hq=>by rw [<-hρ];simp [upd,hq]
 have hI2:Inv (fun r=>Q1 r/\r≠w1.heap.size) w2 M1 ρ2 G1 (nx+ol.length):=by
  refine ⟨fun r z hm=>?_,fun q=>?_,fun q hq=>?_,fun q hq=>?_,fun q q' v v' r h3 h4 h5 h6=>?_,fun q v r h3 h4 h5 h6=>?_,fun r hr=>⟨hI1.new r (by omega),by omega⟩⟩
  ·have h3:=hI1.mem r z hm
   rw [hold r (Array.getElem?_eq_some_iff.1 h3).1];exact h3
  ·by_cases hl:(G1 q).live=true
   ·exact (hI1.obj q).mono rfl (hliv q hl) hv fun v r h3 h4=>hold r (hI1.lt hl h3 h4)
   ·have:G1 q = .gone:=by cases e:G1 q<;>simp_all [Obj.live]
    unfold ObjOK;rw [this];trivial
  ·rw [hρn q (by omega)];exact hI1.free q hq
  ·refine hI1.gone q ?_
   by_cases h3:q=o
   ·subst h3;rw [hρo] at hq;cases hq
   ·rw [<-hρn q h3];exact hq
  ·rw [hliv q h3] at h5;rw [hliv q' h4] at h6
   exact hI1.sep q q' v v' r h3 h4 h5 h6
  ·rw [hliv q h3] at h5
   have:=hI1.own q v r h3 h4 h5 h6
   refine ⟨this.1,this.2,?_⟩
   have:=hI1.lt h3 h5 h6
   omega
 have hexec:(execOp (evV a1.tmps) ⟨some it, .range tyM (.tmp tm),ty,ps,af,none⟩).run C.P w1 = .ok (.value (.pointer (some ⟨w1.heap.size,0,none⟩))) w2:=by
  show (vNext (Instr.range tyM (a1.tmps.getD tm Go.undef))).run C.P w1=_
  rw [hz];exact run_vNext hrun
 have hat:(⟨ol⟩:Array Oper)[A.length]? = some ⟨some it, .range tyM (.tmp tm),ty,ps,af,none⟩:=by rw [<-hol];simp
 have sR:=step_value (P:=C.P) (b:=b) (a:=a1) (k := .code (.block e2 (.loop (walkB oN oE r12 r13 r14 fl i12 i13 e2 e3)))::k) (cs:=csM pk cs) (ops:=⟨ol⟩) (i:=A.length) (rest:=[]) (nxt := .value (.pointer (some ⟨w1.heap.size,0,none⟩))) hat (by simp [Region.wanted]) (by simp) hexec (.inl rfl)
 have hS2:SR nt (fun r=>Q0 r/\r≠w1.heap.size) (fun r=>Q1 r/\r≠w1.heap.size) w2 M1 ρ2 ⟨t1,G1,nx+ol.length,df,pk⟩ a1:=
  ⟨hI2,g1.sr.tmps.mono hv,g1.sr.size,fun r h3=>⟨g1.sr.sub r h3.1,h3.2⟩,g1.sr.dfr.move (fun r h3 h4=>⟨h4,by omega⟩) (fun r h3=>h3.1) (fun r h3 _=>hold r h3) hv⟩
 have hput:Go.Abs.put nt ⟨t1,G1,nx+ol.length,df,pk⟩ (some it) (.ptr o 0)=some ⟨upd t1 it (.ptr o 0),G1,nx+ol.length,df,pk⟩:=by simp only [Go.Abs.put,if_pos hlt]
 obtain ⟨hS3,_⟩:=hS2.put hput (VA.ptr o 0 w1.heap.size hρo)
 have hIt:Itr o w1.heap.size bm clk es #[] (fun r=>Q1 r/\r≠w1.heap.size) w2 M1 ρ2:=⟨hρo,hnew,hM,fun h3=>h3.2 rfl,hmn⟩
 obtain ⟨x,t5,G5,nx5,a5,Q5,w5,M5,ρ5,e1,e3',e4,tr5,e6,e7,e8,st5⟩:=walk_loop (k:=k) (cs:=cs) (i12:=i12) (i13:=i13) (e2:=e2) (e3:=e3) hC hb H hbn (fun h3=>h3.2 rfl) _ #[] x0 _ G1 (nx+ol.length) _ w2 M1 ρ2 _ rfl hS3 g1.pk hIt ((ht1.put it (.ptr o 0)).sub hx0) hg0 (fun j hj=>by rw [hs0];simp) (fun j hj=>by
  have h3:j < ks.length:=by omega
  have h4:j < us.length:=by omega
  have h5:=hks j ks[j] (List.getElem?_eq_getElem h3)
  have h6:=hvs j us[j] (List.getElem?_eq_getElem h4)
  rw [Array.getD_eq_getD_getElem?,Array.getElem?_eq_getElem hj] at h5 h6
  exact ⟨_,_,List.getElem?_eq_getElem h3,h5,h6⟩)
 have TA:Tr (fun q=>nx<=q) Q1 w1 M1 ρ1 G1 (fun r=>(Q1 r/\r≠w1.heap.size)\/r=w1.heap.size) w2 M1 ρ2 G1:=by
  refine ⟨fun r h3=>?_,hv,hwsA,MQ.refl _ _,fun q h3 h4=>?_⟩
  ·rcases h3 with h3|rfl
   ·exact h3.1
   ·exact hI1.new _ (Nat.le_refl _)
  ·rw [hρn q (by omega)];exact h4
 have hN:∀ q,((nx<=q/\q < nx+A.length)\/nx+ol.length<=q)->nx<=q:=fun q h3=>by rcases h3 with h3|h3<;>omega
 have T1:=(g1.tr.trans (N:=fun q=>nx<=q) TA (fun q h3=>hN q (by simpa using h3)) (fun _ h=>h)).trans (N:=fun q=>nx<=q) tr5 (fun _ h=>h) (fun q h3=>by omega)
 have hS6:SR nt Q0 Q5 w5 M5 ρ5 ⟨t5,G5,nx5,df,pk⟩ a5:=⟨e7.inv,e7.tmps,e7.size,fun r h3=>(e7.sub r h3).1,e7.dfr.move (fun r _ h3=>h3.1) (fun _ h=>h) (fun _ _ _=>rfl) (Ev.refl _ _ _)⟩
 refine ⟨.norm ⟨t5,G5,nx5,df,pk⟩,⟨_,x,rfl,fun j hj=>e1 j (by omega),e3',e4,rfl,rfl⟩,a5,Q5,w5,M5,ρ5,⟨T1,Nat.le_trans (Nat.le_add_right nx ol.length) e6,hS6,e8⟩,?_⟩
 have sA:=stepR_region (P:=C.P) (b:=b) (a:=a) (k := .code (.block e2 (.loop (walkB oN oE r12 r13 r14 fl i12 i13 e2 e3)))::k) (cs:=csM pk cs) (w:=w) (id:=i11) (ops:=⟨ol⟩)
 have er:List.range (⟨ol⟩:Array Oper).size=List.range' 0 A.length++[A.length]:=by
  show List.range ol.length=_
  rw [hll,List.range_succ,List.range_eq_range']
 rw [er] at sA
 exact .head stepR_seq (.head sA (st1.trans (.head sR (.head stepR_region_end (.head stepR_block (.head stepR_loop st5))))))
end Go.Abs

/- From what is reckoned to the machine; and to the given rows. -/
open Go Go.Abs Go.RowKit Go.ChangeShapes Go.WideShapes Go.ChangeAt
namespace Go.Abs
theorem cfgOK:CfgOK CC where
 mixed:=by kernel_rfl
 ng:=by
  intro f fn hf hb
  have hall : CC.P.funcs.all (fun fn => !(fn.body.isSome && fn.name == "runtime.NumGoroutine")) = true := by kernel_rfl
  rw [Array.all_eq_true_iff_forall_mem] at hall
  have:=hall fn (Array.mem_of_getElem? hf)
  rw [hb] at this
  simpa using this
 orc:=orcOK
theorem peek_bool {G:Nat->Obj} {k:Nat} {v:AV} {b:Bool} {ids:List Nat} (h:peek G k v=some (.bool b,ids)):v = .imm (.bool b):=by
 cases k with
 |zero=>cases v<;>simp [peek] at h;exact congrArg AV.imm h.1
 |succ k=>
  cases v with
  |imm x=>simp [peek] at h;exact congrArg AV.imm h.1
  |nils=>simp [peek] at h
  |undef=>simp [peek] at h
  |rptr=>simp [peek] at h
  |yld=>simp [peek] at h
  |_=>
   simp only [peek] at h
   (repeat' split at h)<;>simp at h
theorem below_all {H:Type} {enc:TypeId×Value->H} {P:Program} (hl:laidOutB P=true) {W W':World} (hb:Below W.heap.size W W'):∀ (ts:List TypeId) (vs:List Value) (ds:List (DataW H)) (ps:List MemPlace),
  (ts.all fun t=>P.readableRec t&&decide (t < P.types.size))=true->DataW.TrodAll enc P W 0 (fun _=>true) true ts vs ds ps->(∀ x∈ps,x.block < W.heap.size)->DataW.TrodAll enc P W' 0 (fun b=>decide (b < W.heap.size)) true ts vs ds ps
 |[],vs,ds,ps,_,h,_=>by
  obtain ⟨rfl,rfl,rfl⟩:=trodAll_nil h
  exact trodAll_mk0
 |t::ts,vs,ds,ps,hr,h,hlt=>by
  obtain ⟨v,vs',d,ds',p,q,rfl,rfl,rfl,h1,h2⟩:=trodAll_cons h
  rw [List.all_cons,Bool.and_eq_true,Bool.and_eq_true] at hr
  exact trodAll_cons_mk (Below.trod hl hr.1.1 (of_decide_eq_true hr.1.2) h1 hb fun x hx=>hlt x (by simp [hx])) (below_all hl hb ts vs' ds' q hr.2 h2 fun x hx=>hlt x (by simp [hx]))
theorem own:ownKnob Go.Proofs.Tryz.prog.godebug=none:=by kernel_rfl
theorem laidOut:laidOutB Go.Proofs.Tryz.prog=true:=by kernel_rfl
theorem law_post {H:Type} {enc:TypeId×Value->H} {f:Func} {s:ChangeSpec} {W W':World} {args:Array Value} {ds gs:List (DataW H)} {before:List MemPlace} (hW:DataW.Whole enc Go.Proofs.Tryz.prog f.params.toList s.vars false W args.toList ds gs before)
  (hres:f.resultTypes = #[4]) (hsv:s.vars=[]) (hr:(s.fn H (ds++gs)).results=[.lit (.bool true)]) (ha:(s.fn H (ds++gs)).args=ds) (hvs:(s.fn H (ds++gs)).vars=[])
  (hread:(f.params.toList.all fun t=>Go.Proofs.Tryz.prog.readableRec t&&decide (t < Go.Proofs.Tryz.prog.types.size))=true) (hb:Below W.heap.size W W') :
  s.post enc Go.Proofs.Tryz.prog f false true false false W args (.bool true) W':=by
 have hW':=hW
 obtain ⟨p,q,hA,hV,rfl,hfz,hnd⟩:=hW
 rw [hsv] at hV
 obtain ⟨rfl,rfl⟩:=trodVars_none hV
 have hlt:∀ x∈p,x.block < W.heap.size:=fun x hx=>by simpa using hW'.lt x (by simp [hx])
 refine ⟨ds,[],p++[],[],p,[],hW',?_,?_,?_,hb.frame _,fun h=>by cases h⟩
 ·rw [hr,hres]
  exact trodAll_cons_mk (shut_bool Go.Proofs.Tryz.underlying4 _) trodAll_mk0
 ·rw [ha]
  exact below_all laidOut hb _ _ _ _ hread hA hlt
 ·rw [hvs,hsv]
  exact rfl
end Go.Abs

/- One step of the logic after the other, as far as it goes. -/
open Go Go.Abs
namespace Go.Abs
set_option maxRecDepth 100000
structure Hold (Q:Prop):Prop where
 out:Q
variable {C:Cfg} {id:Nat} {l:Env} {G:Nat->Obj} {nx:Nat} {df:List (AV×List AV)} {pk:Pk}
theorem O.addrX {x y:Operand} {t e:TypeId} {k ke:TyI} {xs:List IV} {kk:IntKind} {n:Int} {u:IV} [hk:TyIs C t k] (ht:k.d = .sl e) (he:TyIs C e ke) (hx:lookO l x=some (.imm (.lst xs))) (hy:lookO l y=some (.imm (.int kk n)))
  (h0:0<=n) (hu:xs[n.toNat]? = some u) (hs:u.cells.length=ke.sz):OpV C id l G nx df pk (.indexAddr t x y) (.imm (.eptr xs n.toNat 0)) []:=O.addrL ht hx hy h0 hu hs
variable {fid nt:Nat} {Φ:Out->Prop} {b:Code}
theorem W.seqR {k:Nat} {ol:Array Oper} {dr:Bool} (h:W C fid nt (.region k ol dr) l G nx df pk (aft C fid nt b Φ)):W C fid nt (.seq (.region k ol dr) b) l G nx df pk Φ:=W.seq h
theorem W.seqC {c:Operand} {a a':Code} (h:W C fid nt (.cond c a a') l G nx df pk (aft C fid nt b Φ)):W C fid nt (.seq (.cond c a a') b) l G nx df pk Φ:=W.seq h
theorem O.addrRX {x y:Operand} {t e et:TypeId} {k ke:TyI} {o m sz:Nat} {xs:List AV} {fr:Bool} {kk:IntKind} {n:Int} [hk:TyIs C t k] (ht:k.d = .sl e) (he:TyIs C e ke) (hx:lookO l x=some (.row o m)) (hy:lookO l y=some (.imm (.int kk n)))
  (hG:G o = .row et sz xs fr) (hm:xs.length=m) (h0:0<=n/\n < m) (hs:sz=ke.sz):OpV C id l G nx df pk (.indexAddr t x y) (.rptr o m n.toNat 0) []:=O.addrR ht hx hy hG hm h0 hs
theorem O.loadRX {x:Operand} {t et:TypeId} {k:TyI} {o m n sz:Nat} {xs:List AV} {fr:Bool} {u:AV} [hk:TyIs C t k] (hx:lookO l x=some (.rptr o m n 0)) (hG:G o = .row et sz xs fr) (hm:xs.length=m) (hu:xs[n]? = some u) (hc:u.cells=[u]) (hg:k.d.isAgg=false) (hs:k.sz=1) :
  OpV C id l G nx df pk (.load t x) u []:=O.loadR hx hG hm hu hc hg hs
theorem O.boolNe {t:TypeId} {x y:Operand} {t2:TypeId} {m n:Bool} {k:TyI} [hk:TyIs C t k] (hb:k.d = .bool) (hx:lookO l x=some (.imm (.bool m))) (hy:lookO l y=some (.imm (.bool n))):OpV C id l G nx df pk (.binOp .neq t x y t2) (.imm (.bool (!(m==n)))) []:=
 O.of fun t L ht=>by simp only [opA,ht.ev hx,ht.ev hy,binA,eqAV,hk.is,hb,eqOp,Option.map_some]
theorem SB {P Q:Prop} (k:Q) (h:Hold Q->P:=by
 intro k
 (repeat (first|(apply R.op0;(first|exact O.move rfl|exact O.assign rfl|exact O.fieldP rfl rfl rfl rfl|exact O.loadP rfl rfl rfl (by first|rfl|assumption) rfl|exact O.cmp rfl rfl rfl|exact O.int rfl rfl (add64 (by omega))|exact O.int rfl rfl (sub64 (by omega))|exact O.int rfl rfl (add8 (by omega))|exact O.pickT rfl (by first|with_reducible rfl|with_reducible assumption|decide) rfl|exact O.pickF rfl (by first|with_reducible rfl|with_reducible assumption|decide) rfl|exact O.lenL rfl rfl|exact O.lenSv rfl rfl|exact O.lenS rfl rfl|exact O.not rfl|exact O.svEq rfl rfl|exact O.svNe rfl rfl|exact O.str rfl rfl rfl|exact O.boolEq rfl rfl rfl|exact O.boolNe rfl rfl rfl|exact O.fieldE rfl rfl rfl rfl|exact O.fieldR rfl rfl rfl rfl|exact O.loadPA rfl rfl (by first|rfl|assumption) rfl rfl|exact O.extr rfl rfl|(apply O.addrX;exact rfl;infer_instance;exact rfl;exact rfl;omega;(first|with_reducible assumption|assumption);(first|exact rfl|assumption))|(apply O.load1;exact rfl;(first|with_reducible assumption|assumption);exact rfl;exact rfl;exact rfl)|(apply O.loadE;exact rfl;exact rfl;exact rfl;(first|with_reducible assumption|assumption);exact rfl)|(apply O.loadEA;exact rfl;exact rfl;(first|with_reducible assumption|assumption);exact rfl)|(apply O.call;exact rfl;exact rfl;(first|with_reducible assumption|assumption))|(apply O.addrRX;exact rfl;infer_instance;exact rfl;exact rfl;(first|with_reducible assumption|assumption);(first|exact rfl|assumption);omega;exact rfl)|(apply O.loadRX;exact rfl;(first|with_reducible assumption|assumption);(first|exact rfl|assumption);(first|with_reducible assumption|assumption);exact rfl;exact rfl;exact rfl)|(apply O.lenO;exact rfl;exact rfl;(first|with_reducible assumption|assumption))|(apply O.build;exact rfl;exact rfl;exact rfl;exact rfl));exact rfl)|(apply R.guardT1;exact rfl;exact rfl;(first|with_reducible rfl|with_reducible assumption|decide))|(apply R.guardT0;exact rfl;exact rfl;(first|with_reducible rfl|with_reducible assumption|decide))|(apply R.guardF1;exact rfl;exact rfl;(first|with_reducible rfl|with_reducible assumption|decide);exact rfl)|(apply R.guardF0;exact rfl;exact rfl;(first|with_reducible rfl|with_reducible assumption|decide);exact rfl)|(apply R.guardN;exact rfl;exact rfl;exact rfl)|apply R.done|(first|apply W.seqR|apply W.seqC)|apply W.region|apply W.draw|(apply W.condT;exact rfl;(first|with_reducible rfl|with_reducible assumption|decide))|(apply W.condF;exact rfl;(first|with_reducible rfl|with_reducible assumption|decide))|apply W.retAft|apply W.retBlk|apply W.retLop|apply W.exitAft|apply W.exitLop|apply W.exitBlk|(apply W.exitBlkNe;exact rfl)|apply W.skipAft|apply W.skipBlk|apply W.retCut|apply W.exitCut|apply R.skip|(apply D.op0;(first|exact O.move rfl|exact O.assign rfl|exact O.fieldP rfl rfl rfl rfl|exact O.loadP rfl rfl rfl (by first|rfl|assumption) rfl|exact O.cmp rfl rfl rfl|exact O.int rfl rfl (add64 (by omega))|exact O.int rfl rfl (sub64 (by omega))|exact O.int rfl rfl (add8 (by omega))|exact O.pickT rfl (by first|with_reducible rfl|with_reducible assumption|decide) rfl|exact O.pickF rfl (by first|with_reducible rfl|with_reducible assumption|decide) rfl|exact O.lenL rfl rfl|exact O.lenSv rfl rfl|exact O.lenS rfl rfl|exact O.not rfl|exact O.svEq rfl rfl|exact O.svNe rfl rfl|exact O.str rfl rfl rfl|exact O.boolEq rfl rfl rfl|exact O.boolNe rfl rfl rfl|exact O.fieldE rfl rfl rfl rfl|exact O.fieldR rfl rfl rfl rfl|exact O.loadPA rfl rfl (by first|rfl|assumption) rfl rfl|exact O.extr rfl rfl|(apply O.addrX;exact rfl;infer_instance;exact rfl;exact rfl;omega;(first|with_reducible assumption|assumption);(first|exact rfl|assumption))|(apply O.load1;exact rfl;(first|with_reducible assumption|assumption);exact rfl;exact rfl;exact rfl)|(apply O.loadE;exact rfl;exact rfl;exact rfl;(first|with_reducible assumption|assumption);exact rfl)|(apply O.loadEA;exact rfl;exact rfl;(first|with_reducible assumption|assumption);exact rfl)|(apply O.call;exact rfl;exact rfl;(first|with_reducible assumption|assumption))|(apply O.addrRX;exact rfl;infer_instance;exact rfl;exact rfl;(first|with_reducible assumption|assumption);(first|exact rfl|assumption);omega;exact rfl)|(apply O.loadRX;exact rfl;(first|with_reducible assumption|assumption);(first|exact rfl|assumption);(first|with_reducible assumption|assumption);exact rfl;exact rfl;exact rfl)|(apply O.lenO;exact rfl;exact rfl;(first|with_reducible assumption|assumption))|(apply O.build;exact rfl;exact rfl;exact rfl;exact rfl));exact rfl;exact rfl)|(apply D.guardT1;exact rfl;exact rfl;(first|with_reducible rfl|with_reducible assumption|decide))|(apply D.guardT0;exact rfl;exact rfl;(first|with_reducible rfl|with_reducible assumption|decide))|(apply D.guardF1;exact rfl;exact rfl;(first|with_reducible rfl|with_reducible assumption|decide);exact rfl)|(apply D.guardF0;exact rfl;exact rfl;(first|with_reducible rfl|with_reducible assumption|decide);exact rfl)|(apply D.guardN;exact rfl;exact rfl;exact rfl)|(apply D.done;kernel_rfl)|(apply D.skip;kernel_rfl)))
 exact Hold.out k):P:=h ⟨k⟩
theorem SS {P Q:Prop} (k:Q) (h:Hold Q->P:=by
 intro k
 (repeat (first|(apply R.op0;(first|exact O.move rfl|exact O.assign rfl|exact O.fieldP rfl rfl rfl rfl|exact O.loadP rfl rfl rfl (by first|rfl|assumption) rfl|exact O.cmp rfl rfl rfl|exact O.int rfl rfl (add64 (by omega))|exact O.int rfl rfl (sub64 (by omega))|exact O.int rfl rfl (add8 (by omega))|exact O.pickT rfl (by first|with_reducible rfl|with_reducible assumption|decide) rfl|exact O.pickF rfl (by first|with_reducible rfl|with_reducible assumption|decide) rfl|exact O.lenL rfl rfl|exact O.lenSv rfl rfl|exact O.lenS rfl rfl|exact O.not rfl|exact O.svEq rfl rfl|exact O.svNe rfl rfl|exact O.str rfl rfl rfl|exact O.boolEq rfl rfl rfl|exact O.boolNe rfl rfl rfl|exact O.fieldE rfl rfl rfl rfl|exact O.fieldR rfl rfl rfl rfl|exact O.loadPA rfl rfl (by first|rfl|assumption) rfl rfl|exact O.extr rfl rfl|(apply O.addrX;exact rfl;infer_instance;exact rfl;exact rfl;omega;(first|with_reducible assumption|assumption);(first|exact rfl|assumption))|(apply O.load1;exact rfl;(first|with_reducible assumption|assumption);exact rfl;exact rfl;exact rfl)|(apply O.loadE;exact rfl;exact rfl;exact rfl;(first|with_reducible assumption|assumption);exact rfl)|(apply O.loadEA;exact rfl;exact rfl;(first|with_reducible assumption|assumption);exact rfl)|(apply O.call;exact rfl;exact rfl;(first|with_reducible assumption|assumption))|(apply O.addrRX;exact rfl;infer_instance;exact rfl;exact rfl;(first|with_reducible assumption|assumption);(first|exact rfl|assumption);omega;exact rfl)|(apply O.loadRX;exact rfl;(first|with_reducible assumption|assumption);(first|exact rfl|assumption);(first|with_reducible assumption|assumption);exact rfl;exact rfl;exact rfl)|(apply O.lenO;exact rfl;exact rfl;(first|with_reducible assumption|assumption))|(apply O.build;exact rfl;exact rfl;exact rfl;exact rfl));exact rfl)|(apply R.guardT1;exact rfl;exact rfl;(first|with_reducible rfl|with_reducible assumption|decide))|(apply R.guardT0;exact rfl;exact rfl;(first|with_reducible rfl|with_reducible assumption|decide))|(apply R.guardF1;exact rfl;exact rfl;(first|with_reducible rfl|with_reducible assumption|decide);exact rfl)|(apply R.guardF0;exact rfl;exact rfl;(first|with_reducible rfl|with_reducible assumption|decide);exact rfl)|(apply R.guardN;exact rfl;exact rfl;exact rfl)|apply R.done|apply W.seq|apply W.region|apply W.draw|apply W.block|(apply W.condT;exact rfl;(first|with_reducible rfl|with_reducible assumption|decide))|(apply W.condF;exact rfl;(first|with_reducible rfl|with_reducible assumption|decide))|apply W.retAft|apply W.retBlk|apply W.retLop|apply W.exitAft|apply W.exitLop|apply W.exitBlk|(apply W.exitBlkNe;exact rfl)|apply W.skipAft|apply W.skipBlk|apply W.retCut|apply W.exitCut|apply R.skip|(apply D.op0;(first|exact O.move rfl|exact O.assign rfl|exact O.fieldP rfl rfl rfl rfl|exact O.loadP rfl rfl rfl (by first|rfl|assumption) rfl|exact O.cmp rfl rfl rfl|exact O.int rfl rfl (add64 (by omega))|exact O.int rfl rfl (sub64 (by omega))|exact O.int rfl rfl (add8 (by omega))|exact O.pickT rfl (by first|with_reducible rfl|with_reducible assumption|decide) rfl|exact O.pickF rfl (by first|with_reducible rfl|with_reducible assumption|decide) rfl|exact O.lenL rfl rfl|exact O.lenSv rfl rfl|exact O.lenS rfl rfl|exact O.not rfl|exact O.svEq rfl rfl|exact O.svNe rfl rfl|exact O.str rfl rfl rfl|exact O.boolEq rfl rfl rfl|exact O.boolNe rfl rfl rfl|exact O.fieldE rfl rfl rfl rfl|exact O.fieldR rfl rfl rfl rfl|exact O.loadPA rfl rfl (by first|rfl|assumption) rfl rfl|exact O.extr rfl rfl|(apply O.addrX;exact rfl;infer_instance;exact rfl;exact rfl;omega;(first|with_reducible assumption|assumption);(first|exact rfl|assumption))|(apply O.load1;exact rfl;(first|with_reducible assumption|assumption);exact rfl;exact rfl;exact rfl)|(apply O.loadE;exact rfl;exact rfl;exact rfl;(first|with_reducible assumption|assumption);exact rfl)|(apply O.loadEA;exact rfl;exact rfl;(first|with_reducible assumption|assumption);exact rfl)|(apply O.call;exact rfl;exact rfl;(first|with_reducible assumption|assumption))|(apply O.addrRX;exact rfl;infer_instance;exact rfl;exact rfl;(first|with_reducible assumption|assumption);(first|exact rfl|assumption);omega;exact rfl)|(apply O.loadRX;exact rfl;(first|with_reducible assumption|assumption);(first|exact rfl|assumption);(first|with_reducible assumption|assumption);exact rfl;exact rfl;exact rfl)|(apply O.lenO;exact rfl;exact rfl;(first|with_reducible assumption|assumption))|(apply O.build;exact rfl;exact rfl;exact rfl;exact rfl));exact rfl;exact rfl)|(apply D.guardT1;exact rfl;exact rfl;(first|with_reducible rfl|with_reducible assumption|decide))|(apply D.guardT0;exact rfl;exact rfl;(first|with_reducible rfl|with_reducible assumption|decide))|(apply D.guardF1;exact rfl;exact rfl;(first|with_reducible rfl|with_reducible assumption|decide);exact rfl)|(apply D.guardF0;exact rfl;exact rfl;(first|with_reducible rfl|with_reducible assumption|decide);exact rfl)|(apply D.guardN;exact rfl;exact rfl;exact rfl)|(apply D.done;kernel_rfl)|(apply D.skip;kernel_rfl)))
 exact Hold.out k):P:=h ⟨k⟩
theorem SD {P Q:Prop} (k:Q) (h:Hold Q->P:=by
 intro k
 (repeat (first|(apply D.op0;(first|exact O.move rfl|exact O.assign rfl|exact O.fieldP rfl rfl rfl rfl|exact O.loadP rfl rfl rfl (by first|rfl|assumption) rfl|exact O.cmp rfl rfl rfl|exact O.int rfl rfl (add64 (by omega))|exact O.int rfl rfl (sub64 (by omega))|exact O.int rfl rfl (add8 (by omega))|exact O.pickT rfl (by first|with_reducible rfl|with_reducible assumption|decide) rfl|exact O.pickF rfl (by first|with_reducible rfl|with_reducible assumption|decide) rfl|exact O.lenL rfl rfl|exact O.lenSv rfl rfl|exact O.lenS rfl rfl|exact O.not rfl|exact O.svEq rfl rfl|exact O.svNe rfl rfl|exact O.str rfl rfl rfl|exact O.boolEq rfl rfl rfl|exact O.boolNe rfl rfl rfl|exact O.fieldE rfl rfl rfl rfl|exact O.fieldR rfl rfl rfl rfl|exact O.loadPA rfl rfl (by first|rfl|assumption) rfl rfl|exact O.extr rfl rfl|(apply O.addrX;exact rfl;infer_instance;exact rfl;exact rfl;omega;(first|with_reducible assumption|assumption);(first|exact rfl|assumption))|(apply O.load1;exact rfl;(first|with_reducible assumption|assumption);exact rfl;exact rfl;exact rfl)|(apply O.loadE;exact rfl;exact rfl;exact rfl;(first|with_reducible assumption|assumption);exact rfl)|(apply O.loadEA;exact rfl;exact rfl;(first|with_reducible assumption|assumption);exact rfl)|(apply O.call;exact rfl;exact rfl;(first|with_reducible assumption|assumption))|(apply O.addrRX;exact rfl;infer_instance;exact rfl;exact rfl;(first|with_reducible assumption|assumption);(first|exact rfl|assumption);omega;exact rfl)|(apply O.loadRX;exact rfl;(first|with_reducible assumption|assumption);(first|exact rfl|assumption);(first|with_reducible assumption|assumption);exact rfl;exact rfl;exact rfl)|(apply O.lenO;exact rfl;exact rfl;(first|with_reducible assumption|assumption))|(apply O.build;exact rfl;exact rfl;exact rfl;exact rfl));exact rfl;exact rfl)|(apply D.guardT1;exact rfl;exact rfl;(first|with_reducible rfl|with_reducible assumption|decide))|(apply D.guardT0;exact rfl;exact rfl;(first|with_reducible rfl|with_reducible assumption|decide))|(apply D.guardF1;exact rfl;exact rfl;(first|with_reducible rfl|with_reducible assumption|decide);exact rfl)|(apply D.guardF0;exact rfl;exact rfl;(first|with_reducible rfl|with_reducible assumption|decide);exact rfl)|(apply D.guardN;exact rfl;exact rfl;exact rfl)))
 exact Hold.out k):P:=h ⟨k⟩
theorem Sub.auto {l' l:Env} (h:Sub l' l:=by
 (repeat (first|exact Sub.nil _|(apply Sub.cons;exact rfl)))):Sub l' l:=h
end Go.Abs

/- One step of the logic after the other, as far as it goes, with memory. -/
open Go Go.Abs
namespace Go.Abs
set_option maxRecDepth 100000
theorem OA {C:Cfg} {id:Nat} {l:Env} {G:Nat->Obj} {nx:Nat} {df:List (AV×List AV)} {pk:Pk} {o:Op} {v:AV}
  (h:OpV C id l G nx df pk o v []:=by first|exact O.move rfl|exact O.assign rfl|exact O.fieldP rfl rfl rfl rfl|exact O.loadP rfl rfl rfl (by first|exact rfl|with_reducible assumption|assumption|exact at_upd) rfl|exact O.cmp rfl rfl rfl|exact O.int rfl rfl (add64 (by omega))|exact O.int rfl rfl (sub64 (by omega))|exact O.int rfl rfl (add8 (by omega))|exact O.pickT rfl (by first|with_reducible rfl|with_reducible assumption|decide) rfl|exact O.pickF rfl (by first|with_reducible rfl|with_reducible assumption|decide) rfl|exact O.lenL rfl rfl|exact O.lenSv rfl rfl|exact O.lenS rfl rfl|exact O.not rfl|exact O.neg rfl (by omega)|exact O.int rfl rfl (mul64 (by omega))|exact O.svEq rfl rfl|exact O.svNe rfl rfl|exact O.str rfl rfl rfl|exact O.boolEq rfl rfl rfl|exact O.boolNe rfl rfl rfl|exact O.fieldE rfl rfl rfl rfl|exact O.fieldR rfl rfl rfl rfl|exact O.loadPA rfl rfl (by first|exact rfl|with_reducible assumption|assumption|exact at_upd) rfl rfl|exact O.extr rfl rfl|exact O.nilP rfl|exact O.nilF rfl|exact O.extrT rfl rfl|exact O.makeFunc rfl rfl rfl|exact O.fieldF rfl rfl rfl rfl|exact O.loadF rfl rfl rfl rfl|exact O.loadFA rfl rfl rfl|exact O.ptrEq rfl rfl rfl rfl|exact O.ptrNe rfl rfl rfl rfl|exact O.max rfl rfl|exact O.min rfl rfl|(apply O.addrX;exact rfl;infer_instance;exact rfl;exact rfl;omega;(first|with_reducible assumption|assumption);(first|exact rfl|assumption))|(apply O.load1;exact rfl;(first|with_reducible assumption|assumption);exact rfl;exact rfl;exact rfl)|(apply O.loadE;exact rfl;exact rfl;exact rfl;(first|with_reducible assumption|assumption);exact rfl)|(apply O.loadEA;exact rfl;exact rfl;(first|with_reducible assumption|assumption);exact rfl)|(apply O.call;exact rfl;exact rfl;(first|with_reducible assumption|assumption))|(apply O.addrRX;exact rfl;infer_instance;exact rfl;exact rfl;(first|with_reducible assumption|assumption);(first|exact rfl|with_reducible assumption|assumption|exact List.length_map ..);omega;exact rfl)|(apply O.loadRX;exact rfl;(first|with_reducible assumption|assumption);(first|exact rfl|with_reducible assumption|assumption|exact List.length_map ..);(first|with_reducible assumption|assumption);exact rfl;exact rfl;exact rfl)|(apply O.loadRA;  exact rfl;(first|with_reducible assumption|assumption);(first|exact rfl|with_reducible assumption|assumption|exact List.length_map ..);(first|with_reducible assumption|assumption);exact rfl;exact rfl)|(apply O.lenO;exact rfl;exact rfl;(first|with_reducible assumption|assumption))|(apply O.lenR;exact rfl;exact rfl;(first|exact rfl|with_reducible assumption|assumption|exact at_upd);(first|exact rfl|with_reducible assumption|assumption|exact List.length_map ..))|(apply O.build;exact rfl;exact rfl;exact rfl;exact rfl)|(apply O.callV;exact rfl;infer_instance;exact rfl;exact rfl;(first|with_reducible assumption|assumption))|(apply O.lookA;exact rfl;infer_instance;infer_instance;exact rfl;exact rfl;exact rfl;(first|with_reducible assumption|assumption))):OpV C id l G nx df pk o v []:=h
theorem OB {C:Cfg} {id:Nat} {l:Env} {G:Nat->Obj} {nx:Nat} {df:List (AV×List AV)} {pk:Pk} {o:Op} {v:AV} {q:Nat} {x:Obj}
  (h:OpV C id l G nx df pk o v [(q, .set x)]:=by first|exact O.boxS rfl rfl rfl|exact O.alloc rfl rfl|exact O.makeMap|(apply O.buildX;exact rfl;infer_instance;exact rfl;exact rfl;decide;exact rfl;exact rfl;decide)):OpV C id l G nx df pk o v [(q, .set x)]:=h
theorem ON {C:Cfg} {id:Nat} {l:Env} {G:Nat->Obj} {nx:Nat} {df:List (AV×List AV)} {pk:Pk} {o:Op} {v:AV} {q:Nat} {x:Obj}
  (h:OpV C id l G nx df pk o v [(q, .set x)]:=by first|(apply O.storeP;exact rfl;exact rfl;exact rfl;(first|exact rfl|with_reducible assumption|assumption|exact at_upd);exact rfl;exact rfl)|(apply O.storeP1;exact rfl;exact rfl;exact rfl;assumption;assumption;(first|exact rfl|with_reducible assumption|assumption|exact at_upd);exact rfl;exact rfl)):OpV C id l G nx df pk o v [(q, .set x)]:=h
theorem BB {P Q:Prop} (k:Q) (h:Hold Q->P:=by
 intro k
 (repeat (first|(apply R.op0;exact OA;exact rfl)|(apply R.op1;exact OB;exact rfl)|(apply R.opN1;exact ON)|(apply R.guardT1;exact rfl;exact rfl;(first|with_reducible rfl|with_reducible assumption|decide))|(apply R.guardT0;exact rfl;exact rfl;(first|with_reducible rfl|with_reducible assumption|decide))|(apply R.guardF1;exact rfl;exact rfl;(first|with_reducible rfl|with_reducible assumption|decide);exact rfl)|(apply R.guardF0;exact rfl;exact rfl;(first|with_reducible rfl|with_reducible assumption|decide);exact rfl)|(apply R.guardN;exact rfl;exact rfl;exact rfl)|apply R.done|apply W.seq|apply W.regionN|apply W.drawN|apply W.block|apply W.scope|apply W.label|(apply W.condT;exact rfl;(first|with_reducible rfl|with_reducible assumption|decide))|(apply W.condF;exact rfl;(first|with_reducible rfl|with_reducible assumption|decide))|apply W.retAft|apply W.retBlk|apply W.retLop|apply W.exitAft|apply W.exitLop|apply W.exitBlk|(apply W.exitBlkNe;exact rfl)|apply W.skipAft|apply W.skipBlk|apply W.retCut|apply W.exitCut|apply R.skip|(apply D.op0;exact OA;exact rfl;exact rfl)|(apply D.op1;exact OB;exact rfl;exact rfl)|(apply D.opN1;exact ON;exact rfl)|(apply D.guardT1;exact rfl;exact rfl;(first|with_reducible rfl|with_reducible assumption|decide))|(apply D.guardT0;exact rfl;exact rfl;(first|with_reducible rfl|with_reducible assumption|decide))|(apply D.guardF1;exact rfl;exact rfl;(first|with_reducible rfl|with_reducible assumption|decide);exact rfl)|(apply D.guardF0;exact rfl;exact rfl;(first|with_reducible rfl|with_reducible assumption|decide);exact rfl)|(apply D.guardN;exact rfl;exact rfl;exact rfl)|(apply D.done;kernel_rfl)|(apply D.skip;kernel_rfl)))
 exact Hold.out k):P:=h ⟨k⟩
theorem BQ {P Q:Prop} (k:Q) (h:Hold Q->P:=by
 intro k
 (repeat (first|(apply R.op0;exact OA;exact rfl)|(apply R.op1;exact OB;exact rfl)|(apply R.opN1;exact ON)|(apply R.guardT1;exact rfl;exact rfl;(first|with_reducible rfl|with_reducible assumption|decide))|(apply R.guardT0;exact rfl;exact rfl;(first|with_reducible rfl|with_reducible assumption|decide))|(apply R.guardF1;exact rfl;exact rfl;(first|with_reducible rfl|with_reducible assumption|decide);exact rfl)|(apply R.guardF0;exact rfl;exact rfl;(first|with_reducible rfl|with_reducible assumption|decide);exact rfl)|(apply R.guardN;exact rfl;exact rfl;exact rfl)))
 exact Hold.out k):P:=h ⟨k⟩
theorem BD {P Q:Prop} (k:Q) (h:Hold Q->P:=by
 intro k
 (repeat (first|(apply D.op0;exact OA;exact rfl;exact rfl)|(apply D.op1;exact OB;exact rfl;exact rfl)|(apply D.opN1;exact ON;exact rfl)|(apply D.guardT1;exact rfl;exact rfl;(first|with_reducible rfl|with_reducible assumption|decide))|(apply D.guardT0;exact rfl;exact rfl;(first|with_reducible rfl|with_reducible assumption|decide))|(apply D.guardF1;exact rfl;exact rfl;(first|with_reducible rfl|with_reducible assumption|decide);exact rfl)|(apply D.guardF0;exact rfl;exact rfl;(first|with_reducible rfl|with_reducible assumption|decide);exact rfl)|(apply D.guardN;exact rfl;exact rfl;exact rfl)))
 exact Hold.out k):P:=h ⟨k⟩
end Go.Abs

/- What is read as data, is data: truth values, numbers, strings, slices, structs. -/
open Go Go.Abs Go.RowKit Go.ChangeShapes Go.WideShapes
namespace Go.Abs
def fieldsAt (P:Program) (S:List TypeId):Nat->List Field->Option Nat
 |n,[]=>some n
 |n,f::r=>if f.offset=n/\S.contains f.type=true then fieldsAt P S (n+P.cellsOf f.type) r else none
def plainT (P:Program) (S:List TypeId) (t:TypeId):Bool:=
 match P.underlying t with
 |some .bool|some .string|some (.int _)=>P.cellsOf t==1
 |some (.slice e)=>P.cellsOf t==1&&S.contains e&&decide (0 < P.cellsOf e)
 |some (.struct fs)=>fieldsAt P S 0 fs.toList==some (P.cellsOf t)
 |_=>false
def closedS (P:Program) (S:List TypeId):Bool:=S.all (plainT P S)
def isSt (P:Program) (t:TypeId):Bool:=match P.underlying t with
 |some (.struct _)=>true
 |_=>false
inductive Shape (P:Program) (N:Nat):TypeId->List IV->Prop where
 |bool (t b) (h:P.underlying t=some .bool):Shape P N t [.bool b]
 |int (t k n) (h:P.underlying t=some (.int k)) (hw:(Lit.int k n).wf=true):Shape P N t [.int k n]
 |str (t s) (h:P.underlying t=some .string) (hl:s.length<=maxLen):Shape P N t [sv s]
 |sl (t e xs) (h:P.underlying t=some (.slice e)) (hl:xs.length<=maxLen) (hN:xs.length<=N) (hx:∀ x∈xs,Shape P N e x.cells) (ha:∀ x∈xs,isSt P e=true->∃ cs,x = .agg cs) (hn:∀ x∈xs,isSt P e=false->x.cells=[x]):Shape P N t [.lst xs]
 |st (t) (fs:Array Field) (css:List (List IV)) (h:P.underlying t=some (.struct fs)) (hl:css.length=fs.size) (hc:∀ (i:Nat) f cs,fs[i]? = some f->css[i]? = some cs->Shape P N f.type cs):Shape P N t css.flatten
theorem fields_len {P:Program} {S:List TypeId}:∀ (l:List Field) (n m:Nat),fieldsAt P S n l=some m->n<=m/\∀ f∈l,S.contains f.type=true/\f.offset+P.cellsOf f.type<=m
 |[],n,m,h=>by cases h;exact ⟨Nat.le_refl _,fun f hf=>by cases hf⟩
 |g::r,n,m,h=>by
  unfold fieldsAt at h
  split at h
  ·rename_i hg
   obtain ⟨h1,h2⟩:=fields_len r _ _ h
   refine ⟨by omega,fun f hf=>?_⟩
   rcases List.mem_cons.1 hf with rfl|hf
   ·exact ⟨hg.2,by omega⟩
   ·exact h2 f hf
  ·cases h
theorem choose_list {α:Type} {n:Nat} {p:Nat->α->Prop} (h:∀ i,i < n->∃ x,p i x):∃ l:List α,l.length=n/\∀ (i:Nat) x,l[i]? = some x->p i x:=by
 induction n with
 |zero=>exact ⟨[],rfl,fun i x h=>by simp at h⟩
 |succ n ih=>
  obtain ⟨l,h1,h2⟩:=ih fun i hi=>h i (by omega)
  obtain ⟨x,hx⟩:=h n (by omega)
  refine ⟨l++[x],by simp [h1],fun i y hy=>?_⟩
  rcases Nat.lt_or_ge i n with hi|hi
  ·exact h2 i y (by rwa [List.getElem?_append_left (by omega)] at hy)
  ·rw [List.getElem?_append_right (by omega),h1] at hy
   have:i-n=0:=by
    rcases Nat.eq_zero_or_pos (i-n) with h|h
    ·exact h
    ·rw [List.getElem?_eq_none (by simp;omega)] at hy;cases hy
   rw [this] at hy
   simp at hy
   subst hy
   have:i=n:=by omega
   subst this
   exact hx
abbrev heapM (w:World):Mem:=fun b=>w.heap[b]?
theorem cell_blk {w:World} {a:Addr} {v:Value} (h:w.cell? a=some v):a.spot=none/\∃ cs e fr,w.heap[a.block]? = some (.cells cs e fr)/\cs[a.off]? = some v:=by
 unfold World.cell? at h
 split at h
 ·rename_i c e fr hb
  split at h
  ·cases h
  ·rename_i hs
   exact ⟨by simpa using hs,c,e,fr,hb,h⟩
 ·cases h
theorem cells_get {w:World} {base:Nat} {a:Addr} {n:Nat} {cs:List Value} (h:w.cells? base a n=some cs):cs.length=n/\∀ j,j < n->∃ v,cs[j]? = some v/\w.cell? (a.add j)=some v:=by
 unfold World.cells? at h
 split at h
 ·have key:∀ (l:List Nat) (cs:List Value),(l.mapM fun i=>w.cell? (a.add i))=some cs->cs.length=l.length/\∀ (j:Nat) i,l[j]? = some i->∃ v,cs[j]? = some v/\w.cell? (a.add i)=some v:=by
   intro l
   induction l with
   |nil=>intro cs h;simp at h;subst h;exact ⟨rfl,fun j i h=>by simp at h⟩
   |cons x r ih=>
    intro cs h
    rw [List.mapM_cons] at h
    simp only [Option.bind_eq_bind,Option.bind_eq_some_iff,Option.pure_def,Option.some.injEq] at h
    obtain ⟨v,hv,vs,hvs,rfl⟩:=h
    obtain ⟨h1,h2⟩:=ih vs hvs
    refine ⟨by simp [h1],fun j i hj=>?_⟩
    cases j with
    |zero=>simp at hj;subst hj;exact ⟨v,rfl,hv⟩
    |succ j=>exact h2 j i (by simpa using hj)
  obtain ⟨h1,h2⟩:=key _ cs h
  refine ⟨by simpa using h1,fun j hj=>?_⟩
  exact h2 j j (by simp [hj])
 ·cases h
theorem bulk_one {H:Type} (d:DataW H):1<=Go.Proofs.YtbdoijpclmhbaaaGreat.Rows.uptoBulk d:=by
 cases d with
 |lit l=>cases l<;>simp [Go.Proofs.YtbdoijpclmhbaaaGreat.Rows.uptoBulk]
 |_=>simp [Go.Proofs.YtbdoijpclmhbaaaGreat.Rows.uptoBulk]
theorem bulk_len {H:Type}:∀ l:List (DataW H),l.length<=Go.Proofs.YtbdoijpclmhbaaaGreat.Rows.uptoBulkAll l
 |[]=>by simp [Go.Proofs.YtbdoijpclmhbaaaGreat.Rows.uptoBulkAll]
 |x::r=>by
  have h1:=bulk_one x
  have h2:=bulk_len r
  simp only [Go.Proofs.YtbdoijpclmhbaaaGreat.Rows.uptoBulkAll,List.length_cons]
  omega
theorem bulk_mem {H:Type} {d:DataW H}:∀ {l:List (DataW H)},d∈l->Go.Proofs.YtbdoijpclmhbaaaGreat.Rows.uptoBulk d<=Go.Proofs.YtbdoijpclmhbaaaGreat.Rows.uptoBulkAll l
 |x::r,h=>by
  simp only [Go.Proofs.YtbdoijpclmhbaaaGreat.Rows.uptoBulkAll]
  rcases List.mem_cons.1 h with rfl|h
  ·omega
  ·have:=bulk_mem h
   omega
theorem read_ok {P:Program} {S:List TypeId} (hS:closedS P S=true) {H:Type} {enc:TypeId×Value->H} {w:World} {held:Bool} {sp:Nat->Bool}:∀ (n:Nat) (t:TypeId) (cs:List Value) (d:DataW H×List MemPlace) (N:Nat),Go.Proofs.YtbdoijpclmhbaaaGreat.Rows.uptoBulk d.1<=N->S.contains t=true ->
  DataW.trod enc P w 0 sp held n t cs=some d->∃ ivs:List IV,ivs.length=cs.length/\cs.length=P.cellsOf t/\(∀ (i:Nat) x,ivs[i]? = some x->VI (heapM w) x (cs.getD i Go.undef))/\Shape P N t ivs:=by
 intro n
 induction n with
 |zero=>intro t cs d N _ _ h;simp [DataW.trod] at h
 |succ n ih=>
  intro t cs d N hN ht h
  have hp:plainT P S t=true:=by
   unfold closedS at hS
   rw [List.all_eq_true] at hS
   exact hS t (by simpa using ht)
  unfold plainT at hp
  have one:∀ (x:IV) (v:Value),VI (heapM w) x v->∀ (i:Nat) y,[x][i]? = some y->VI (heapM w) y ([v].getD i Go.undef):=by
   intro x v hx i y hy
   match i,hy with
   |0,hy=>simp at hy;subst hy;exact hx
   |i+1,hy=>simp at hy
  split at hp
  ·rename_i hu
   obtain ⟨b,rfl,_⟩:=DataW.trod_bool hu h
   exact ⟨[.bool b],rfl,(beq_iff_eq.1 hp).symm,one _ _ (.bool b), .bool t b hu⟩
  ·rename_i hu
   obtain ⟨s,rfl,_,hl⟩:=DataW.trod_string hu h
   exact ⟨[sv s.data.toList],rfl,(beq_iff_eq.1 hp).symm,one _ _ (by rw [<-sv_eta];exact .str s), .str t _ hu (by rw [Array.length_toList];exact hl)⟩
  ·rename_i k hu
   obtain ⟨m,rfl,_,hw⟩:=DataW.trod_int hu h
   exact ⟨[.int k m],rfl,(beq_iff_eq.1 hp).symm,one _ _ (.int k m), .int t k m hu hw⟩
  ·rename_i e hu
   simp only [Bool.and_eq_true,beq_iff_eq,decide_eq_true_eq] at hp
   obtain ⟨⟨hp1,hpe⟩,hpos⟩:=hp
   rcases DataW.trod_slice hu h with ⟨rfl,_⟩|⟨a,len,cap,elems,rest,n',hn,rfl,hd,_,hl,hm,hlen,hel,_,_⟩
   ·exact ⟨[.lst []],rfl,hp1.symm,one _ _ .nil, .sl t e [] hu (Nat.zero_le _) (Nat.zero_le _) (fun x h=>by cases h) (fun x h=>by cases h) (fun x h=>by cases h)⟩
   ·obtain rfl:n=n':=by omega
    subst hd
    simp only [Go.Proofs.YtbdoijpclmhbaaaGreat.Rows.uptoBulk] at hN
    have hb1:=bulk_len (elems.map (·.1))
    rw [List.length_map] at hb1
    have each:∀ i,i < len->∃ x:IV,x.cells.length=P.cellsOf e/\(∀ (j:Nat) y,x.cells[j]? = some y->∃ v,w.cell? ((a.add (i*P.cellsOf e)).add j)=some v/\VI (heapM w) y v)/\Shape P N e x.cells/\(isSt P e=true->∃ cs,x = .agg cs)/\(isSt P e=false->x.cells=[x]):=by
     intro i hi
     have hb:=hel i hi
     have hs:elems[i]? = some elems[i]:=by simp [hlen,hi]
     rw [hs,Option.bind_eq_some_iff] at hb
     obtain ⟨vs,hvs,hd⟩:=hb
     have hbe:=bulk_mem (List.mem_map.2 ⟨elems[i],List.getElem_mem (by omega),rfl⟩:elems[i].1∈elems.map (·.1))
     obtain ⟨ivs,h1,h2,h3,h4⟩:=ih e vs _ N (by omega) hpe hd
     obtain ⟨h5,h6⟩:=cells_get hvs
     have cellv:∀ (j:Nat) y,ivs[j]? = some y->∃ v,w.cell? ((a.add (i*P.cellsOf e)).add j)=some v/\VI (heapM w) y v:=by
      intro j y hy
      have hj:=(List.getElem?_eq_some_iff.1 hy).1
      obtain ⟨v,hv1,hv2⟩:=h6 j (by omega)
      refine ⟨v,hv2,?_⟩
      have:=h3 j y hy
      rwa [List.getD_eq_getElem?_getD,hv1] at this
     cases hst:isSt P e with
     |true=>exact ⟨.agg ivs,by simp [IV.cells];omega,cellv,h4,fun _=>⟨ivs,rfl⟩,fun h=>by cases h⟩
     |false=>
      have h4':=h4
      cases h4 with
      |bool _ b hu'=>exact ⟨.bool b,by simp [IV.cells] at h1 ⊢;omega,cellv,h4',(fun h=>by cases h),fun _=>rfl⟩
      |int _ k m hu' hw=>exact ⟨.int k m,by simp [IV.cells] at h1 ⊢;omega,cellv,h4',(fun h=>by cases h),fun _=>rfl⟩
      |str _ s hu' hl'=>exact ⟨sv s,by simp [IV.cells,sv] at h1 ⊢;omega,cellv,h4',(fun h=>by cases h),fun _=>rfl⟩
      |sl _ e' xs hu' _ _ _ _=>exact ⟨.lst xs,by simp [IV.cells] at h1 ⊢;omega,cellv,h4',(fun h=>by cases h),fun _=>rfl⟩
      |st _ fs css hu' _ _=>simp [isSt,hu'] at hst
    obtain ⟨xs,hx1,hx2⟩:=choose_list each
    have memx:∀ x∈xs,Shape P N e x.cells/\(isSt P e=true->∃ cs,x = .agg cs)/\(isSt P e=false->x.cells=[x]):=by
     intro x hx
     obtain ⟨i,hi⟩:=List.getElem?_of_mem hx
     exact (hx2 i x hi).2.2
    refine ⟨[.lst xs],rfl,hp1.symm,one _ _ ?_, .sl t e xs hu (by omega) (by omega) (fun x h=>(memx x h).1) (fun x h=>(memx x h).2.1) (fun x h=>(memx x h).2.2)⟩
    subst hx1
    rcases Nat.eq_zero_or_pos xs.length with h0|h0
    ·obtain rfl:xs=[]:=List.eq_nil_of_length_eq_zero h0
     exact .empty a cap
    ·-- the block that holds them
     have hcell:∀ (i:Nat) x (j:Nat) y,xs[i]? = some x->x.cells[j]? = some y->∃ v,w.cell? ((a.add (i*P.cellsOf e)).add j)=some v/\VI (heapM w) y v:=fun i x j y hx hy=>(hx2 i x hx).2.1 j y hy
     have h00:xs[0]? = some xs[0]:=by simp [h0]
     have hc0:(xs[0]).cells.length=P.cellsOf e:=(hx2 0 _ h00).1
     have hc00:(xs[0]).cells[0]? = some (xs[0]).cells[0]:=by simp [hc0,hpos]
     obtain ⟨v0,hv0,_⟩:=hcell 0 _ 0 _ h00 hc00
     obtain ⟨hsp0,ca,ea,fra,hblk,_⟩:=cell_blk hv0
     have hsp:a.spot=none:=by
      obtain ⟨b,o,s⟩:=a
      simpa [Addr.add] using hsp0
     obtain ⟨b,off,s⟩:=a
     simp only at hsp
     subst hsp
     simp only [add_none] at hcell hblk
     have inb:∀ (i:Nat) x (j:Nat) y,xs[i]? = some x->x.cells[j]? = some y->off+i*P.cellsOf e+j < ca.size/\VI (heapM w) y (at_ ca (off+i*P.cellsOf e+j)):=by
      intro i x j y hx hy
      obtain ⟨v,hv,hvi⟩:=hcell i x j y hx hy
      obtain ⟨_,ca',ea',fra',hb',hc'⟩:=cell_blk hv
      simp only at hb' hc'
      rw [hblk] at hb'
      simp only [Option.some.injEq,Go.Obj.cells.injEq] at hb'
      obtain ⟨rfl,rfl,rfl⟩:=hb'
      have hlt:=(Array.getElem?_eq_some_iff.1 hc').1
      refine ⟨hlt,?_⟩
      simp only [at_,Array.getD_eq_getD_getElem?,hc',Option.getD_some]
      exact hvi
     refine .lst xs b off cap ca ea fra (P.cellsOf e) (fun e=>by rw [e] at h0;simp at h0) hl hblk hpos (fun i x hx=>(hx2 i x hx).1) ?_ (fun i x j y hx hy=>(inb i x j y hx hy).2)
     have hlast:xs[xs.length-1]? = some xs[xs.length-1]:=by simp [h0]
     have hcl:=(hx2 _ _ hlast).1
     have hcll:(xs[xs.length-1]).cells[P.cellsOf e-1]? = some (xs[xs.length-1]).cells[P.cellsOf e-1]:=by simp [hcl,hpos]
     have:=(inb _ _ _ _ hlast hcll).1
     have e1:xs.length*P.cellsOf e=(xs.length-1)*P.cellsOf e+P.cellsOf e:=by
      have:xs.length=(xs.length-1)+1:=by omega
      conv=>lhs;rw [this,Nat.succ_mul]
     omega
  ·rename_i fs hu
   simp only [beq_iff_eq] at hp
   obtain ⟨xs,n',hn,hd,hcl,hxl,hf⟩:=DataW.trod_struct hu h
   obtain rfl:n=n':=by omega
   subst hd
   simp only [Go.Proofs.YtbdoijpclmhbaaaGreat.Rows.uptoBulk] at hN
   have each:∀ i,i < fs.size->∃ ivs:List IV,∀ f,fs[i]? = some f->ivs.length=P.cellsOf f.type/\(∀ (j:Nat) x,ivs[j]? = some x->VI (heapM w) x (((cs.drop f.offset).take (P.cellsOf f.type)).getD j Go.undef))/\Shape P N f.type ivs:=by
    intro i hi
    have hs:fs[i]? = some fs[i]:=by simp [hi]
    have hfi:=hf i _ hs
    have hxs:xs[i]? = some xs[i]:=by simp [hxl,hi]
    rw [hxs] at hfi
    have hmem:=(fields_len fs.toList 0 _ hp).2 fs[i] (by simp)
    have hbe:=bulk_mem (List.mem_map.2 ⟨xs[i],List.getElem_mem (by omega),rfl⟩:xs[i].1∈xs.map (·.1))
    obtain ⟨ivs,h1,h2,h3,h4⟩:=ih _ _ _ N (by omega) hmem.1 hfi
    refine ⟨ivs,fun f hff=>?_⟩
    rw [hs] at hff
    cases hff
    exact ⟨by omega,h3,h4⟩
   obtain ⟨css,hc1,hc2⟩:=choose_list each
   -- cell by cell
   have key:∀ (l:List Field) (ks:List (List IV)) (k m:Nat),fieldsAt P S k l=some m->m=cs.length->ks.length=l.length->(∀ (i:Nat) f iv,l[i]? = some f->ks[i]? = some iv->iv.length=P.cellsOf f.type/\∀ (j:Nat) x,iv[j]? = some x->VI (heapM w) x (((cs.drop f.offset).take (P.cellsOf f.type)).getD j Go.undef)) ->
     ks.flatten.length+k=m/\∀ (i:Nat) x,ks.flatten[i]? = some x->VI (heapM w) x (cs.getD (k+i) Go.undef):=by
    intro l
    induction l with
    |nil=>
     intro ks k m hk hm hlen _
     obtain rfl:ks=[]:=List.eq_nil_of_length_eq_zero (by simpa using hlen)
     cases hk
     exact ⟨by simp,fun i x hx=>by simp at hx⟩
    |cons f r ihl=>
     intro ks k m hk hm hlen hall
     cases ks with
     |nil=>simp at hlen
     |cons iv ks=>
      unfold fieldsAt at hk
      split at hk
      ·rename_i hg
       obtain ⟨q1,q2⟩:=ihl ks _ m hk hm (by simpa using hlen) (fun i f' iv' h1 h2=>hall (i+1) f' iv' (by simpa using h1) (by simpa using h2))
       obtain ⟨g1,g2⟩:=hall 0 f iv rfl rfl
       refine ⟨by simp only [List.flatten_cons,List.length_append];omega,fun i x hx=>?_⟩
       rw [List.flatten_cons] at hx
       rcases Nat.lt_or_ge i iv.length with hi|hi
       ·rw [List.getElem?_append_left hi] at hx
        have:=g2 i x hx
        rw [List.getD_eq_getElem?_getD,List.getElem?_take_of_lt (by omega),List.getElem?_drop,hg.1] at this
        rwa [List.getD_eq_getElem?_getD]
       ·rw [List.getElem?_append_right hi] at hx
        have:=q2 _ x hx
        rw [<-g1] at this
        rwa [show k+iv.length+(i-iv.length)=k+i by omega] at this
      ·cases hk
   obtain ⟨k1,k2⟩:=key fs.toList css 0 _ hp hcl.symm (by simp [hc1]) (fun i f iv h1 h2=>by
    have:=hc2 i iv h2 f (by simpa using h1)
    exact ⟨this.1,this.2.1⟩)
   refine ⟨css.flatten,by omega,hcl,fun i x hx=>by simpa using k2 i x hx, .st t fs css hu hc1 fun i f iv h1 h2=>(hc2 i iv h2 f h1).2.2⟩
  ·cases hp
end Go.Abs

/- Programs as trees: terms, expressions, definitions. -/
open Go Go.Abs
namespace Go.Abs
set_option maxRecDepth 100000
inductive Trm where
 |mk (op n:Int) (kids:List Trm)
inductive Exp where
 |mk (op:Int) (name:Str) (n fold:Int) (calcs:List Trm) (kids:List Exp)
structure Dfn where
 name:Str
 exp:Exp
structure Pgm where
 srcs:List Str
 defs:List Dfn
def Trm.op:Trm->Int
 | .mk o _ _=>o
def Exp.op:Exp->Int
 | .mk o .. => o
def Exp.name:Exp->Str
 | .mk _ s .. => s
def Exp.n:Exp->Int
 | .mk _ _ n .. => n
def Exp.fold:Exp->Int
 | .mk _ _ _ f .. => f
def Exp.calcs:Exp->List Trm
 | .mk _ _ _ _ c _=>c
def Exp.kids:Exp->List Exp
 | .mk _ _ _ _ _ k=>k
mutual
def Trm.iv:Trm->IV
 | .mk op n kids => .agg [.int .i64 op, .int .i64 n, .lst (Trm.ivs kids)]
def Trm.ivs:List Trm->List IV
 |[]=>[]
 |c::r=>c.iv::Trm.ivs r
end
mutual
def Exp.iv:Exp->IV
 | .mk op name n fold calcs kids => .agg [.int .i64 op,sv name, .int .i64 n, .int .i64 fold, .lst (Trm.ivs calcs), .lst (Exp.ivs kids)]
def Exp.ivs:List Exp->List IV
 |[]=>[]
 |c::r=>c.iv::Exp.ivs r
end
def Dfn.iv (d:Dfn):IV := .agg (sv d.name::d.exp.iv.cells)
def Pgm.iv (p:Pgm):IV := .agg [.lst (p.srcs.map sv), .lst (p.defs.map Dfn.iv)]
theorem Trm.ivs_map:∀ l,Trm.ivs l=l.map Trm.iv
 |[]=>rfl
 |c::r=>by rw [Trm.ivs,Trm.ivs_map r];rfl
theorem Exp.ivs_map:∀ l,Exp.ivs l=l.map Exp.iv
 |[]=>rfl
 |c::r=>by rw [Exp.ivs,Exp.ivs_map r];rfl
def maxI:Nat:=9223372036854775807
inductive Trm.Fits:Trm->Prop where
 |mk (op n kids) (h:kids.length<=maxI) (hk:∀ k∈kids,Trm.Fits k):Trm.Fits (.mk op n kids)
inductive Exp.Fits:Exp->Prop where
 |mk (op name n fold calcs kids) (hn:name.length<=maxI) (hw:(Lit.int .i64 n).wf=true) (hc:calcs.length<=maxI) (hk:kids.length<=maxI) (hcs:∀ c∈calcs,Trm.Fits c) (hks:∀ k∈kids,Exp.Fits k):Exp.Fits (.mk op name n fold calcs kids)
structure Pgm.Fits (p:Pgm):Prop where
 srcs:p.srcs.length<=maxI
 src:∀ s∈p.srcs,s.length<=maxI
 defs:p.defs.length<=maxI
 name:∀ d∈p.defs,d.name.length<=maxI
 exp:∀ d∈p.defs,d.exp.Fits
inductive Trm.Sm:Trm->Prop where
 |mk (op n kids) (h:kids.length<=1048576) (hk:∀ k∈kids,Trm.Sm k):Trm.Sm (.mk op n kids)
inductive Exp.Sm:Exp->Prop where
 |mk (op name n fold calcs kids) (hc:calcs.length<=1048576) (hk:kids.length<=1048576) (hcs:∀ c∈calcs,Trm.Sm c) (hks:∀ k∈kids,Exp.Sm k):Exp.Sm (.mk op name n fold calcs kids)
structure Pgm.Sm (p:Pgm):Prop where
 srcs:p.srcs.length<=1048576
 defs:p.defs.length<=1048576
 exp:∀ d∈p.defs,d.exp.Sm
theorem len3 {α:Type} {l:List α} (h:l.length=3):∃ a b c,l=[a,b,c]:=by
 match l,h with
 |[a,b,c],_=>exact ⟨a,b,c,rfl⟩
theorem len2 {α:Type} {l:List α} (h:l.length=2):∃ a b,l=[a,b]:=by
 match l,h with
 |[a,b],_=>exact ⟨a,b,rfl⟩
theorem len6 {α:Type} {l:List α} (h:l.length=6):∃ a b c d e f,l=[a,b,c,d,e,f]:=by
 match l,h with
 |[a,b,c,d,e,f],_=>exact ⟨a,b,c,d,e,f,rfl⟩
theorem list_of {α:Type} {f:α->IV} {p:α->Prop}:∀ {xs:List IV},(∀ x∈xs,∃ a,x=f a/\p a)->∃ l:List α,xs=l.map f/\∀ a∈l,p a
 |[],_=>⟨[],rfl,fun a h=>by cases h⟩
 |x::r,h=>by
  obtain ⟨a,rfl,ha⟩:=h x (by simp)
  obtain ⟨l,rfl,hl⟩:=list_of (xs:=r) fun y hy=>h y (by simp [hy])
  exact ⟨a::l,rfl,fun b hb=>by
                    rcases List.mem_cons.1 hb with rfl|hb
                    · exact ha
                    · exact hl b hb⟩
open Go.Proofs in
theorem shape_int {N:Nat} {t:TypeId} {k:IntKind} {ivs:List IV} (hu:Tryz.prog.underlying t=some (.int k)) (h:Shape Tryz.prog N t ivs):∃ n,ivs=[.int k n]/\(Lit.int k n).wf=true:=by
 cases h with
 |int _ k' n h hw=>rw [hu] at h;cases h;exact ⟨n,rfl,hw⟩
 |bool _ _ h=>rw [hu] at h;cases h
 |str _ _ h=>rw [hu] at h;cases h
 |sl _ _ _ h=>rw [hu] at h;cases h
 |st _ _ _ h=>rw [hu] at h;cases h
open Go.Proofs in
theorem shape_str {N:Nat} {t:TypeId} {ivs:List IV} (hu:Tryz.prog.underlying t=some .string) (h:Shape Tryz.prog N t ivs):∃ s:Str,ivs=[sv s]/\s.length<=maxI:=by
 cases h with
 |int _ k' n h hw=>rw [hu] at h;cases h
 |bool _ _ h=>rw [hu] at h;cases h
 |str _ s h hl=>exact ⟨s,rfl,hl⟩
 |sl _ _ _ h=>rw [hu] at h;cases h
 |st _ _ _ h=>rw [hu] at h;cases h
open Go.Proofs in
theorem shape_sl {N:Nat} {t e:TypeId} {ivs:List IV} (hu:Tryz.prog.underlying t=some (.slice e)) (h:Shape Tryz.prog N t ivs):∃ xs,ivs=[.lst xs]/\xs.length<=maxI/\xs.length<=N/\(∀ x∈xs,Shape Tryz.prog N e x.cells)/\(∀ x∈xs,isSt Tryz.prog e=true->∃ cs,x = .agg cs)/\(∀ x∈xs,isSt Tryz.prog e=false->x.cells=[x]):=by
 cases h with
 |int _ k' n h hw=>rw [hu] at h;cases h
 |bool _ _ h=>rw [hu] at h;cases h
 |str _ s h hl=>rw [hu] at h;cases h
 |sl _ e' xs h hl hN hx ha hn=>rw [hu] at h;cases h;exact ⟨xs,rfl,hl,hN,hx,ha,hn⟩
 |st _ _ _ h=>rw [hu] at h;cases h
open Go.Proofs in
theorem shape_st {N:Nat} {t:TypeId} {fs:Array Field} {ivs:List IV} (hu:Tryz.prog.underlying t=some (.struct fs)) (h:Shape Tryz.prog N t ivs):∃ css:List (List IV),ivs=css.flatten/\css.length=fs.size/\∀ (i:Nat) f cs,fs[i]? = some f->css[i]? = some cs->Shape Tryz.prog N f.type cs:=by
 cases h with
 |int _ k' n h hw=>rw [hu] at h;cases h
 |bool _ _ h=>rw [hu] at h;cases h
 |str _ s h hl=>rw [hu] at h;cases h
 |sl _ e' xs h hl hN hx ha hn=>rw [hu] at h;cases h
 |st _ fs' css h hl hc=>rw [hu] at h;cases h;exact ⟨css,rfl,hl,hc⟩
open Go.Proofs in
/-- A term, as it is read. -/
theorem shape_trm {N:Nat} {t:TypeId} {ivs:List IV} (h:Shape Tryz.prog N t ivs):(t=172->∃ c:Trm, .agg ivs=c.iv/\c.Fits/\(N<=1048576->c.Sm))/\(t=90->∃ l:List Trm,ivs=[.lst (Trm.ivs l)]/\(l.length<=maxI/\l.length<=N)/\∀ c∈l,c.Fits/\(N<=1048576->c.Sm)):=by
 induction h with
 |bool t b hu=>exact ⟨(fun e=>by subst e;rw [Tryz.underlying172] at hu;cases hu),(fun e=>by subst e;rw [Tryz.underlying90] at hu;cases hu)⟩
 |int t k n hu=>exact ⟨(fun e=>by subst e;rw [Tryz.underlying172] at hu;cases hu),(fun e=>by subst e;rw [Tryz.underlying90] at hu;cases hu)⟩
 |str t s hu=>exact ⟨(fun e=>by subst e;rw [Tryz.underlying172] at hu;cases hu),(fun e=>by subst e;rw [Tryz.underlying90] at hu;cases hu)⟩
 |sl t e xs hu hl hN hx ha hn ih=>
  refine ⟨(fun e=>by subst e;rw [Tryz.underlying172] at hu;cases hu),fun e=>?_⟩
  subst e
  rw [Tryz.underlying90] at hu
  cases hu
  obtain ⟨l,rfl,hl2⟩:=list_of (f:=Trm.iv) (p:=fun c:Trm=>c.Fits/\(N<=1048576->c.Sm)) (xs:=xs) fun x hxm=>by
   obtain ⟨c,hc,hf⟩:=(ih x hxm).1 rfl
   obtain ⟨cs,rfl⟩:=ha x hxm (by kernel_rfl)
   exact ⟨c,hc,hf⟩
  exact ⟨l,by rw [Trm.ivs_map],⟨(show l.length<=maxLen by simpa using hl),by simpa using hN⟩,hl2⟩
 |st t fs css hu hl hc ih=>
  refine ⟨fun e=>?_,(fun e=>by subst e;rw [Tryz.underlying90] at hu;cases hu)⟩
  subst e
  rw [Tryz.underlying172] at hu
  cases hu
  obtain ⟨a,b,c,rfl⟩:=len3 hl
  obtain ⟨op,rfl,_⟩:=shape_int Tryz.underlying170 (hc 0 _ _ rfl rfl)
  obtain ⟨n,rfl,_⟩:=shape_int Tryz.underlying3 (hc 1 _ _ rfl rfl)
  obtain ⟨l,rfl,h1,h2⟩:=(ih 2 _ _ rfl rfl).2 rfl
  exact ⟨.mk op n l,rfl, .mk op n l h1.1 fun c hc=>(h2 c hc).1,fun hN => .mk op n l (Nat.le_trans h1.2 hN) fun c hc=>(h2 c hc).2 hN⟩
open Go.Proofs in
theorem shape_exp {N:Nat} {t:TypeId} {ivs:List IV} (h:Shape Tryz.prog N t ivs):(t=93->∃ c:Exp, .agg ivs=c.iv/\c.Fits/\(N<=1048576->c.Sm))/\(t=91->∃ l:List Exp,ivs=[.lst (Exp.ivs l)]/\(l.length<=maxI/\l.length<=N)/\∀ c∈l,c.Fits/\(N<=1048576->c.Sm)):=by
 induction h with
 |bool t b hu=>exact ⟨(fun e=>by subst e;rw [Tryz.underlying93] at hu;cases hu),(fun e=>by subst e;rw [Tryz.underlying91] at hu;cases hu)⟩
 |int t k n hu=>exact ⟨(fun e=>by subst e;rw [Tryz.underlying93] at hu;cases hu),(fun e=>by subst e;rw [Tryz.underlying91] at hu;cases hu)⟩
 |str t s hu=>exact ⟨(fun e=>by subst e;rw [Tryz.underlying93] at hu;cases hu),(fun e=>by subst e;rw [Tryz.underlying91] at hu;cases hu)⟩
 |sl t e xs hu hl hN hx ha hn ih=>
  refine ⟨(fun e=>by subst e;rw [Tryz.underlying93] at hu;cases hu),fun e=>?_⟩
  subst e
  rw [Tryz.underlying91] at hu
  cases hu
  obtain ⟨l,rfl,hl2⟩:=list_of (f:=Exp.iv) (p:=fun c:Exp=>c.Fits/\(N<=1048576->c.Sm)) (xs:=xs) fun x hxm=>by
   obtain ⟨c,hc,hf⟩:=(ih x hxm).1 rfl
   obtain ⟨cs,rfl⟩:=ha x hxm (by kernel_rfl)
   exact ⟨c,hc,hf⟩
  exact ⟨l,by rw [Exp.ivs_map],⟨(show l.length<=maxLen by simpa using hl),by simpa using hN⟩,hl2⟩
 |st t fs css hu hl hc ih=>
  refine ⟨fun e=>?_,(fun e=>by subst e;rw [Tryz.underlying91] at hu;cases hu)⟩
  subst e
  rw [Tryz.underlying93] at hu
  cases hu
  obtain ⟨a,b,c,d,e,f,rfl⟩:=len6 hl
  obtain ⟨op,rfl,_⟩:=shape_int Tryz.underlying88 (hc 0 _ _ rfl rfl)
  obtain ⟨s,rfl,hs⟩:=shape_str Tryz.underlying9 (hc 1 _ _ rfl rfl)
  obtain ⟨n,rfl,hn⟩:=shape_int Tryz.underlying3 (hc 2 _ _ rfl rfl)
  obtain ⟨fo,rfl,_⟩:=shape_int Tryz.underlying89 (hc 3 _ _ rfl rfl)
  obtain ⟨cl,rfl,g1,g2⟩:=(shape_trm (hc 4 _ _ rfl rfl)).2 rfl
  obtain ⟨l,rfl,h1,h2⟩:=(ih 5 _ _ rfl rfl).2 rfl
  exact ⟨.mk op s n fo cl l,rfl, .mk op s n fo cl l hs hn g1.1 h1.1 (fun c hc=>(g2 c hc).1) fun c hc=>(h2 c hc).1,fun hN => .mk op s n fo cl l (Nat.le_trans g1.2 hN) (Nat.le_trans h1.2 hN) (fun c hc=>(g2 c hc).2 hN) fun c hc=>(h2 c hc).2 hN⟩
open Go.Proofs in
theorem shape_strs {N:Nat} {ivs:List IV} (h:Shape Tryz.prog N 22 ivs):∃ l:List Str,ivs=[.lst (l.map sv)]/\(l.length<=maxI/\l.length<=N)/\∀ s∈l,s.length<=maxI:=by
 obtain ⟨xs,rfl,hl,hN,hx,ha,hn⟩:=shape_sl Tryz.underlying22 h
 obtain ⟨l,rfl,hl2⟩:=list_of (f:=sv) (p:=fun s:Str=>s.length<=maxI) (xs:=xs) fun x hxm=>by
  obtain ⟨s,h1,h2⟩:=shape_str Tryz.underlying9 (hx x hxm)
  have:=hn x hxm (by kernel_rfl)
  rw [this] at h1
  exact ⟨s,by simpa using h1,h2⟩
 exact ⟨l,rfl,⟨by simpa using hl,by simpa using hN⟩,hl2⟩
open Go.Proofs in
theorem shape_dfn {N:Nat} {ivs:List IV} (h:Shape Tryz.prog N 95 ivs):∃ d:Dfn, .agg ivs=d.iv/\d.name.length<=maxI/\d.exp.Fits/\(N<=1048576->d.exp.Sm):=by
 obtain ⟨css,rfl,hl,hc⟩:=shape_st Tryz.underlying95 h
 obtain ⟨a,b,rfl⟩:=len2 hl
 obtain ⟨s,rfl,hs⟩:=shape_str Tryz.underlying9 (hc 0 _ _ rfl rfl)
 obtain ⟨e,he,hf⟩:=(shape_exp (hc 1 _ _ rfl rfl)).1 rfl
 refine ⟨⟨s,e⟩,?_,hs,hf⟩
 unfold Dfn.iv
 rw [<-he]
 simp [IV.cells]
open Go.Proofs in
theorem shape_pgm {N:Nat} {ivs:List IV} (h:Shape Tryz.prog N 25 ivs):∃ p:Pgm, .agg ivs=p.iv/\p.Fits/\(N<=1048576->p.Sm):=by
 obtain ⟨css,rfl,hl,hc⟩:=shape_st Tryz.underlying25 h
 obtain ⟨a,b,rfl⟩:=len2 hl
 obtain ⟨ss,rfl,h1,h2⟩:=shape_strs (hc 0 _ _ rfl rfl)
 obtain ⟨xs,rfl,hl2,hN,hx,ha,hn⟩:=shape_sl Tryz.underlying23 (hc 1 _ _ rfl rfl)
 obtain ⟨ds,rfl,hd⟩:=list_of (f:=Dfn.iv) (p:=fun d:Dfn=>d.name.length<=maxI/\d.exp.Fits/\(N<=1048576->d.exp.Sm)) (xs:=xs) fun x hxm=>by
  obtain ⟨d,q1,q2⟩:=shape_dfn (hx x hxm)
  obtain ⟨cs,rfl⟩:=ha x hxm (by kernel_rfl)
  exact ⟨d,q1,q2⟩
 exact ⟨⟨ss,ds⟩,rfl,⟨h1.1,h2,by simpa using hl2,fun d h=>(hd d h).1,fun d h=>(hd d h).2.1⟩,fun h=>⟨Nat.le_trans h1.2 h,Nat.le_trans (by simpa using hN) h,fun d hm=>(hd d hm).2.2 h⟩⟩
def pgmTypes:List TypeId:=[3,4,5,9,22,23,25,44,91,88,89,90,93,95,170,172]
theorem pgm_closed:closedS Go.Proofs.Tryz.prog pgmTypes=true:=by kernel_rfl
theorem read_pgm {H:Type} {enc:TypeId×Value->H} {w:World} {held:Bool} {sp:Nat->Bool} {v:Value} {d:DataW H} {ps:List MemPlace} {b0:Nat} (hv:Value.okWide Go.Proofs.Tryz.prog w .any b0 25 v) (h:DataW.Trod enc Go.Proofs.Tryz.prog w 0 sp held 25 v d ps) :
  ∃ p:Pgm,VI (heapM w) p.iv v/\p.Fits/\(Go.Proofs.YtbdoijpclmhbaaaGreat.Rows.uptoBulk d<=1048576->p.Sm):=by
 obtain ⟨n,hn⟩:=h
 obtain ⟨ivs,h1,h2,h3,h4⟩:=read_ok pgm_closed n 25 _ _ _ (Nat.le_refl _) (by decide) hn
 obtain ⟨p,hp,hf⟩:=shape_pgm h4
 have hst:∃ cs,v = .agg cs:=by
  simp only [Value.okWide,Go.Proofs.Tryz.underlying25] at hv
  obtain ⟨cs,h,_⟩:=hv
  exact ⟨cs,h⟩
 obtain ⟨cs,rfl⟩:=hst
 refine ⟨p,?_,hf⟩
 rw [<-hp]
 refine .agg ivs cs (by simpa [Value.cells] using h1) fun i x hx=>?_
 have:=h3 i x hx
 simpa [Value.cells,at_] using this
end Go.Abs

/- Steps without memory, as far as they go. -/
open Go Go.Abs
namespace Go.Abs
set_option maxRecDepth 100000
theorem SO {P Q:Prop} (k:Q) (h:Hold Q->P:=by
 intro k
 (repeat (first|(apply R.op0;(first|exact O.move rfl|exact O.assign rfl|exact O.fieldP rfl rfl rfl rfl|exact O.loadP rfl rfl rfl (by first|rfl|assumption) rfl|exact O.cmp rfl rfl rfl|exact O.int rfl rfl (add64 (by omega))|exact O.int rfl rfl (sub64 (by omega))|exact O.int rfl rfl (add8 (by omega))|exact O.pickT rfl (by first|with_reducible rfl|with_reducible assumption|decide) rfl|exact O.pickF rfl (by first|with_reducible rfl|with_reducible assumption|decide) rfl|exact O.lenL rfl rfl|exact O.lenSv rfl rfl|exact O.lenS rfl rfl|exact O.not rfl|exact O.svEq rfl rfl|exact O.svNe rfl rfl|exact O.str rfl rfl rfl|exact O.boolEq rfl rfl rfl|exact O.fieldE rfl rfl rfl rfl|exact O.fieldR rfl rfl rfl rfl|exact O.loadPA rfl rfl (by first|rfl|assumption) rfl rfl|exact O.extr rfl rfl);exact rfl)|(apply R.guardT1;exact rfl;exact rfl;(first|with_reducible rfl|with_reducible assumption|decide))|(apply R.guardT0;exact rfl;exact rfl;(first|with_reducible rfl|with_reducible assumption|decide))|(apply R.guardF1;exact rfl;exact rfl;(first|with_reducible rfl|with_reducible assumption|decide);exact rfl)|(apply R.guardF0;exact rfl;exact rfl;(first|with_reducible rfl|with_reducible assumption|decide);exact rfl)|(apply R.guardN;exact rfl;exact rfl;exact rfl)|apply R.done|apply W.seq|apply W.region|apply W.draw|apply W.block|(apply W.condT;exact rfl;(first|with_reducible rfl|with_reducible assumption|decide))|(apply W.condF;exact rfl;(first|with_reducible rfl|with_reducible assumption|decide))|apply W.retAft|apply W.retBlk|apply W.retLop|apply W.exitAft|apply W.exitLop|apply W.exitBlk|(apply W.exitBlkNe;exact rfl)|apply W.skipAft|apply W.skipBlk|apply W.retCut|apply W.exitCut|apply R.skip))
 exact Hold.out k):P:=h ⟨k⟩
theorem SOD {P Q:Prop} (k:Q) (h:Hold Q->P:=by
 intro k
 (repeat (first|(apply D.op0;(first|exact O.move rfl|exact O.assign rfl|exact O.fieldP rfl rfl rfl rfl|exact O.loadP rfl rfl rfl (by first|rfl|assumption) rfl|exact O.cmp rfl rfl rfl|exact O.int rfl rfl (add64 (by omega))|exact O.int rfl rfl (sub64 (by omega))|exact O.int rfl rfl (add8 (by omega))|exact O.pickT rfl (by first|with_reducible rfl|with_reducible assumption|decide) rfl|exact O.pickF rfl (by first|with_reducible rfl|with_reducible assumption|decide) rfl|exact O.lenL rfl rfl|exact O.lenSv rfl rfl|exact O.lenS rfl rfl|exact O.not rfl|exact O.svEq rfl rfl|exact O.svNe rfl rfl|exact O.str rfl rfl rfl|exact O.boolEq rfl rfl rfl|exact O.fieldE rfl rfl rfl rfl|exact O.fieldR rfl rfl rfl rfl|exact O.loadPA rfl rfl (by first|rfl|assumption) rfl rfl|exact O.extr rfl rfl);exact rfl;exact rfl)|(apply D.guardT1;exact rfl;exact rfl;(first|with_reducible rfl|with_reducible assumption|decide))|(apply D.guardT0;exact rfl;exact rfl;(first|with_reducible rfl|with_reducible assumption|decide))|(apply D.guardF1;exact rfl;exact rfl;(first|with_reducible rfl|with_reducible assumption|decide);exact rfl)|(apply D.guardF0;exact rfl;exact rfl;(first|with_reducible rfl|with_reducible assumption|decide);exact rfl)|(apply D.guardN;exact rfl;exact rfl;exact rfl)))
 exact Hold.out k):P:=h ⟨k⟩
theorem SOR {P Q:Prop} (k:Q) (h:Hold Q->P:=by
 intro k
 (repeat (first|(apply R.op0;(first|exact O.move rfl|exact O.assign rfl|exact O.fieldP rfl rfl rfl rfl|exact O.loadP rfl rfl rfl (by first|rfl|assumption) rfl|exact O.cmp rfl rfl rfl|exact O.int rfl rfl (add64 (by omega))|exact O.int rfl rfl (sub64 (by omega))|exact O.int rfl rfl (add8 (by omega))|exact O.pickT rfl (by first|with_reducible rfl|with_reducible assumption|decide) rfl|exact O.pickF rfl (by first|with_reducible rfl|with_reducible assumption|decide) rfl|exact O.lenL rfl rfl|exact O.lenSv rfl rfl|exact O.lenS rfl rfl|exact O.not rfl|exact O.svEq rfl rfl|exact O.svNe rfl rfl|exact O.str rfl rfl rfl|exact O.boolEq rfl rfl rfl|exact O.fieldE rfl rfl rfl rfl|exact O.fieldR rfl rfl rfl rfl|exact O.loadPA rfl rfl (by first|rfl|assumption) rfl rfl|exact O.extr rfl rfl);exact rfl)|(apply R.guardT1;exact rfl;exact rfl;(first|with_reducible rfl|with_reducible assumption|decide))|(apply R.guardT0;exact rfl;exact rfl;(first|with_reducible rfl|with_reducible assumption|decide))|(apply R.guardF1;exact rfl;exact rfl;(first|with_reducible rfl|with_reducible assumption|decide);exact rfl)|(apply R.guardF0;exact rfl;exact rfl;(first|with_reducible rfl|with_reducible assumption|decide);exact rfl)|(apply R.guardN;exact rfl;exact rfl;exact rfl)|apply R.done))
 exact Hold.out k):P:=h ⟨k⟩
end Go.Abs

/- Names: which strings are names. -/
open Go Go.Abs
namespace Go.Abs
instance fnis69:FnIs CC 154:=⟨rfl,fun _=>rfl⟩
instance fnis70:FnIs CC 165:=⟨rfl,fun _=>rfl⟩
instance fnis39:FnIs CC 168:=⟨rfl,fun _=>rfl⟩
instance fnis42:FnIs CC 109:=⟨rfl,fun _=>rfl⟩
instance fnis38:FnIs CC 164:=⟨rfl,fun _=>rfl⟩
instance fnis40:FnIs CC 191:=⟨rfl,fun _=>rfl⟩
instance fnis10:FnIs CC 108:=⟨rfl,fun _=>rfl⟩
instance fnis11:FnIs CC 167:=⟨rfl,fun _=>rfl⟩
set_option maxRecDepth 100000
set_option maxHeartbeats 1000000
def idxFrom (l:List Str) (s:Str) (i:Nat):Int:=
 match l with
 |[] => -1
 |x::r=>if (x==s)=true then i else idxFrom r s (i+1)
theorem idxFrom_drop {l:List Str} {s x:Str} {i k:Nat} (h:l[i]? = some x):idxFrom (l.drop i) s k=if (x==s)=true then (k:Int) else idxFrom (l.drop (i+1)) s (k+1):=by
 have:l.drop i=x::l.drop (i+1):=by
  rw [List.getElem?_eq_some_iff] at h
  obtain ⟨hi,rfl⟩:=h
  exact List.drop_eq_getElem_cons hi
 rw [this,idxFrom]
theorem idxFrom_nonneg (s:Str):∀ (l:List Str) (k:Nat),decide (idxFrom l s k>=0)=l.contains s
 |[],k=>rfl
 |x::r,k=>by
  unfold idxFrom
  rw [List.contains_cons]
  by_cases h:(x==s)=true
  ·rw [if_pos h]
   have:(s==x)=true:=by rw [beq_iff_eq] at h ⊢;exact h.symm
   rw [this]
   simp
  ·rw [if_neg h,idxFrom_nonneg s r (k+1)]
   have:(s==x)=false:=by
    rw [<-Bool.not_eq_true,beq_iff_eq]
    rw [beq_iff_eq] at h
    exact fun e=>h e.symm
   rw [this,Bool.false_or]
theorem ret69 (l:List Str) (s:Str) (hl:l.length<=9223372036854775807):Ret CC 154 [.lst (l.map sv),sv s] (.int .i64 (idxFrom l s 0)):=by
 refine Ret.of (fn:=Go.Proofs.Tryz.f154) (by kernel_rfl) rfl rfl ?_
 refine SO ?_
 refine W.loop (X:=Nat) (fun i=>[(0, .imm (.lst (l.map sv))),(1, .imm (sv s)),(5, .imm (.int .i64 i))]) (fun i _ _=>i<=l.length/\idxFrom l s 0=idxFrom (l.drop i) s i) (fun i=>l.length-i) 0 (.cons rfl (.cons rfl (.cons rfl (.nil _)))) ⟨Nat.zero_le _,rfl⟩ ?_
 intro i nx G ⟨hi,he⟩
 refine SO ?_
 refine W.cond rfl (fun hc=>?_) (fun hc=>?_)
 ·have hlt:i < l.length:=by have:=of_decide_eq_true hc;rw [List.length_map] at this;omega
  obtain ⟨x,hx⟩:∃ x,l[i]? = some x:=⟨l[i],by simp [hlt]⟩
  rw [idxFrom_drop hx] at he
  refine SO ?_
  refine R.op0 (O.addrL (u:=sv x) rfl rfl rfl (by omega) (by simp [hx]) rfl) rfl ?_
  refine R.op0 (O.load1 (u:=sv x) rfl (by simp [hx]) rfl rfl rfl) rfl ?_
  refine SO ?_
  refine W.cond rfl (fun hc=>?_) (fun hc=>?_)
  ·rw [if_pos hc] at he
   refine SO ?_
   exact W.retFin1 rfl ⟨_,by rw [he];rfl⟩
  ·rw [if_neg (by simp [hc])] at he
   refine SO ?_
   refine W.skipLop (i+1) ?_ ?_ ⟨hlt,he⟩
   ·show l.length-(i+1) < l.length-i;omega
   ·exact .cons rfl (.cons rfl (.cons rfl (.nil _)))
 ·have hge:¬ i < l.length:=by have:=of_decide_eq_false hc;rw [List.length_map] at this;omega
  have:l.drop i=[]:=List.drop_eq_nil_of_le (by omega)
  refine SO ?_
  exact W.retFin1 rfl ⟨_,by rw [he,this];rfl⟩
theorem idxFrom_sym {x s:Str}:(x==s)=(s==x):=by
 rw [Bool.eq_iff_iff,beq_iff_eq,beq_iff_eq];exact ⟨Eq.symm,Eq.symm⟩
theorem ret70 (l:List Str) (s:Str) (hl:l.length<=9223372036854775807):Ret CC 165 [.lst (l.map sv),sv s] (.int .i64 (idxFrom l s 0)):=by
 refine Ret.of (fn:=Go.Proofs.Tryz.f165) (by kernel_rfl) rfl rfl ?_
 refine SO ?_
 refine W.loop (X:=Nat) (fun i=>[(0, .imm (.lst (l.map sv))),(1, .imm (sv s)),(7, .imm (.int .i64 ((l.map sv).length:Nat))),(8, .imm (.int .i64 i))]) (fun i _ _=>i<=l.length/\idxFrom l s 0=idxFrom (l.drop i) s i) (fun i=>l.length-i) 0 (.cons rfl (.cons rfl (.cons rfl (.cons rfl (.nil _))))) ⟨Nat.zero_le _,rfl⟩ ?_
 intro i nx G ⟨hi,he⟩
 refine SO ?_
 refine W.cond rfl (fun hc=>?_) (fun hc=>?_)
 ·have hlt:i < l.length:=by have:=of_decide_eq_true hc;rw [List.length_map] at this;omega
  obtain ⟨x,hx⟩:∃ x,l[i]? = some x:=⟨l[i],by simp [hlt]⟩
  rw [idxFrom_drop hx,idxFrom_sym] at he
  refine SO ?_
  refine R.op0 (O.addrL (u:=sv x) rfl rfl rfl (by omega) (by simp [hx]) rfl) rfl ?_
  refine R.op0 (O.load1 (u:=sv x) rfl (by simp [hx]) rfl rfl rfl) rfl ?_
  refine SO ?_
  refine W.cond rfl (fun hc=>?_) (fun hc=>?_)
  ·rw [if_pos hc] at he
   refine SO ?_
   exact W.retFin1 rfl ⟨_,by rw [he];rfl⟩
  ·rw [if_neg (by simp [hc])] at he
   refine SO ?_
   refine W.skipLop (i+1) ?_ ?_ ⟨hlt,he⟩
   ·show l.length-(i+1) < l.length-i;omega
   ·exact .cons rfl (.cons rfl (.cons rfl (.cons rfl (.nil _))))
 ·have hge:¬ i < l.length:=by have:=of_decide_eq_false hc;rw [List.length_map] at this;omega
  have:l.drop i=[]:=List.drop_eq_nil_of_le (by omega)
  refine SO ?_
  exact W.retFin1 rfl ⟨_,by rw [he,this];rfl⟩
theorem ret39 (l:List Str) (s:Str) (hl:l.length<=9223372036854775807):Ret CC 168 [.lst (l.map sv),sv s] (.bool (l.contains s)):=by
 refine Ret.of (fn:=Go.Proofs.Tryz.f168) (by kernel_rfl) rfl rfl ?_
 refine SO ?_
 refine R.op0 (O.call rfl rfl (ret69 l s hl)) rfl ?_
 refine SO ?_
 exact W.retFin1 rfl ⟨_,by rw [<-idxFrom_nonneg s l 0];rfl⟩
theorem ret42 (l:List Str) (s:Str) (hl:l.length<=9223372036854775807):Ret CC 109 [.lst (l.map sv),sv s] (.bool (l.contains s)):=by
 refine Ret.of (fn:=Go.Proofs.Tryz.f109) (by kernel_rfl) rfl rfl ?_
 refine SO ?_
 refine R.op0 (O.call rfl rfl (ret70 l s hl)) rfl ?_
 refine SO ?_
 exact W.retFin1 rfl ⟨_,by rw [<-idxFrom_nonneg s l 0];rfl⟩
end Go.Abs

/- Names: which strings are names. -/
open Go Go.Abs
namespace Go.Abs
instance fnis12:FnIs CC 53:=⟨rfl,fun _=>rfl⟩
set_option maxRecDepth 100000
set_option maxHeartbeats 1000000
def kws:List Str:=[[97,102,116,101,114],[97,110,100],[97,115],[97,116],[98,111,116,104],[98,121],[99,111,117,110,116],[101,97,99,104],[101,108,115,101],[103,114,101,97,116],[103,114,111,117,112],[105,110],[105,115],[107,101,121],[108,97,99,107],[108,101,97,115,116],[108,101,115,115],[108,101,116],[111,102],[111,110,99,101],[111,114],[111,116,104,101,114],[112,97,105,114],[112,114,101,118],[114,101,115,116],[115,97,109,101],[115,104,105,102,116],[115,108,105,100,101],[115,111,117,114,99,101],[115,117,109],[116,111,116,97,108],[118,97,108],[119,104,101,114,101],[119,105,116,104,105,110]]
theorem ret38:Ret CC 164 [] (.fmp (kws.map sv) (List.replicate 34 (.bool true))):=Ret.reckon (n:=60) (by kernel_rfl)
theorem ret40:Ret CC 191 [] (.lst (kws.map sv)):=Ret.reckon (n:=60) (by kernel_rfl)
def okc (c:UInt8):Bool := !(decide ((c.toNat:Int) < 97)||decide ((c.toNat:Int) > 122))
def lows (s:Str):Bool:=s.all okc
def nameOk (s:Str):Bool:=decide (0 < s.length)&&decide (s.length<=8) && !kws.contains s&&lows s
theorem low_drop {s:Str} {c:UInt8} {i:Nat} (h:s[i]? = some c):lows (s.drop i)=(okc c&&lows (s.drop (i+1))):=by
 have:s.drop i=c::s.drop (i+1):=by
  rw [List.getElem?_eq_some_iff] at h
  obtain ⟨hi,rfl⟩:=h
  exact List.drop_eq_getElem_cons hi
 rw [this,lows,List.all_cons];rfl
theorem keyFind_sv (s:Str):∀ l:List Str,keyFind (sv s) (l.map sv)=some (l.findIdx? fun x=>s==x)
 |[]=>rfl
 |x::r=>by
  have h:scalarEq (sv s) (sv x)=some (s==x):=by
   show some ((ByteArray.mk s.toArray)==(ByteArray.mk x.toArray))=_
   rw [sv_beq]
  rw [List.map_cons,keyFind,h,List.findIdx?_cons,keyFind_sv s r]
  cases s==x<;>rfl
theorem kw_at (s:Str):keyAt (sv s) (kws.map sv) (List.replicate 34 (.bool true)) (.bool false)=some (.bool (kws.contains s)):=by
 unfold keyAt
 rw [keyFind_sv]
 have hc:kws.contains s=(kws.findIdx? fun x=>s==x).isSome:=by
  rw [List.findIdx?_isSome,List.contains_eq_any_beq]
 cases hf:kws.findIdx? fun x=>s==x with
 |none=>rw [hc,hf];rfl
 |some j=>
  rw [hc,hf]
  have hj:j < kws.length:=by
   rw [List.findIdx?_eq_some_iff_getElem] at hf
   exact hf.1
  have hj':j < 34:=hj
  show (List.replicate 34 (IV.bool true))[j]? = some (IV.bool true)
  rw [List.getElem?_replicate,if_pos hj']
theorem ret10 (s:Str) (hs:s.length<=9223372036854775807):Ret CC 108 [sv s] (.bool (nameOk s)):=by
 refine Ret.of (fn:=Go.Proofs.Tryz.f108) (by kernel_rfl) rfl rfl ?_
 refine SO ?_
 refine W.loop (X:=Nat) (fun i=>[(0, .imm (sv s)),(5, .imm (.int .i64 s.length)),(6, .imm (.int .i64 i))]) (fun i _ _=>i<=s.length/\lows s=lows (s.drop i)) (fun i=>s.length-i) 0 (.cons rfl (.cons rfl (.cons rfl (.nil _)))) ⟨Nat.zero_le _,rfl⟩ ?_
 intro i nx G ⟨hi,he⟩
 refine SO ?_
 refine W.cond rfl (fun hc=>?_) (fun hc=>?_)
 ·have hlt:i < s.length:=by have:=of_decide_eq_true hc;omega
  obtain ⟨c,hx⟩:∃ c,s[i]? = some c:=⟨s[i],by simp [hlt]⟩
  rw [low_drop hx,okc] at he
  refine SO ?_
  refine R.op0 (O.indexSv rfl rfl rfl hx) rfl ?_
  refine SO ?_
  refine R.guardC0 rfl rfl rfl (fun h1=>?_) (fun h1=>?_)
  ·refine R.op0 (O.move rfl) rfl ?_
   refine SO ?_
   refine R.op0 (O.indexSv rfl rfl rfl hx) rfl ?_
   refine SO ?_
   refine W.cond rfl (fun h2=>?_) (fun h2=>?_)
   ·refine SO ?_
    refine W.retFin1 rfl ⟨[],?_⟩
    have:lows s=false:=by rw [he,h1,h2];rfl
    rw [nameOk,this];simp [peek]
   ·rw [h1,h2] at he
    refine SO ?_
    refine W.skipLop (i+1) ?_ ?_ ⟨hlt,he.trans (by simp)⟩
    ·show s.length-(i+1) < s.length-i;omega
    ·exact .cons rfl (.cons rfl (.cons rfl (.nil _)))
  ·refine SO ?_
   refine W.retFin1 rfl ⟨[],?_⟩
   have:lows s=false:=by rw [he,h1];rfl
   rw [nameOk,this];simp [peek]
 ·have hge:¬ i < s.length:=by have:=of_decide_eq_false hc;omega
  have hlow:lows s=true:=by rw [he,List.drop_eq_nil_of_le (by omega)];rfl
  refine SO ?_
  refine R.guardC1 rfl rfl rfl (fun h1=>?_) (fun h1=>?_)
  ·refine SO ?_
   refine R.guardC1 rfl rfl rfl (fun h2=>?_) (fun h2=>?_)
   ·refine R.op0 (O.call rfl rfl ret38) rfl ?_
    refine SO ?_
    refine R.op0 (O.lookF rfl rfl rfl rfl rfl (kw_at s)) rfl ?_
    refine SO ?_
    refine W.retFin1 rfl ⟨[],?_⟩
    have h1':=of_decide_eq_true h1
    have h2':=of_decide_eq_true h2
    simp [nameOk,hlow,peek]
    omega
   ·refine SO ?_
    refine W.retFin1 rfl ⟨[],?_⟩
    have h2':=of_decide_eq_false h2
    simp [nameOk,hlow,peek]
    omega
  ·refine SO ?_
   refine W.retFin1 rfl ⟨[],?_⟩
   have h1':=of_decide_eq_false h1
   simp [nameOk,hlow,peek]
   omega
end Go.Abs

/- Names: the reference's. -/
open Go Go.Abs
namespace Go.Abs
set_option maxRecDepth 100000
set_option maxHeartbeats 1000000
theorem ret11 (s:Str) (hs:s.length<=9223372036854775807):Ret CC 167 [sv s] (.bool (nameOk s)):=by
 refine Ret.of (fn:=Go.Proofs.Tryz.f167) (by kernel_rfl) rfl rfl ?_
 refine SO ?_
 refine R.guardC0 rfl rfl rfl (fun h1=>?_) (fun h1=>?_)
 ·have h1':=of_decide_eq_false h1
  refine SO ?_
  refine R.guardC0 rfl rfl rfl (fun h2=>?_) (fun h2=>?_)
  ·have h2':=of_decide_eq_false h2
   refine R.op0 (O.call rfl rfl ret40) rfl ?_
   refine SO ?_
   refine R.op0 (O.call rfl rfl (ret39 kws s (by decide))) rfl ?_
   refine SO ?_
   refine W.cond rfl (fun h3=>?_) (fun h3=>?_)
   ·refine SO ?_
    refine W.retFin1 rfl ⟨[],?_⟩
    have h3':s∈kws:=by simpa using h3
    simp [nameOk,h3',peek]
   ·have h3':¬ s∈kws:=by simpa using h3
    refine SO ?_
    refine W.loop (X:=Nat) (fun i=>[(0, .imm (sv s)),(3, .imm (.int .i64 i))]) (fun i _ _=>i<=s.length/\lows s=lows (s.drop i)) (fun i=>s.length-i) 0 (.cons rfl (.cons rfl (.nil _))) ⟨Nat.zero_le _,rfl⟩ ?_
    intro i nx G ⟨hi,he⟩
    refine SO ?_
    refine W.cond rfl (fun hc=>?_) (fun hc=>?_)
    ·have hlt:i < s.length:=by have:=of_decide_eq_true hc;omega
     obtain ⟨c,hx⟩:∃ c,s[i]? = some c:=⟨s[i],by simp [hlt]⟩
     rw [low_drop hx,okc] at he
     refine SO ?_
     refine R.op0 (O.indexSv rfl rfl rfl hx) rfl ?_
     refine SO ?_
     refine R.guardC0 rfl rfl rfl (fun h4=>?_) (fun h4=>?_)
     ·refine R.op0 (O.move rfl) rfl ?_
      refine SO ?_
      refine R.op0 (O.indexSv rfl rfl rfl hx) rfl ?_
      refine SO ?_
      refine W.cond rfl (fun h5=>?_) (fun h5=>?_)
      ·refine SO ?_
       refine W.retFin1 rfl ⟨[],?_⟩
       have:lows s=false:=by rw [he,h4,h5];rfl
       rw [nameOk,this];simp [peek]
      ·rw [h4,h5] at he
       refine SO ?_
       refine W.skipLop (i+1) ?_ ?_ ⟨hlt,he.trans (by simp)⟩
       ·show s.length-(i+1) < s.length-i;omega
       ·exact .cons rfl (.cons rfl (.nil _))
     ·refine SO ?_
      refine W.retFin1 rfl ⟨[],?_⟩
      have:lows s=false:=by rw [he,h4];rfl
      rw [nameOk,this];simp [peek]
    ·have hge:¬ i < s.length:=by have:=of_decide_eq_false hc;omega
     have hlow:lows s=true:=by rw [he,List.drop_eq_nil_of_le (by omega)];rfl
     refine SO ?_
     refine W.retFin1 rfl ⟨[],?_⟩
     simp [nameOk,hlow,h3',peek]
     omega
  ·have h2':=of_decide_eq_true h2
   refine SO ?_
   refine W.retFin1 rfl ⟨[],?_⟩
   simp [nameOk,peek]
   omega
 ·have h1':=of_decide_eq_true h1
  refine SO ?_
  refine W.retFin1 rfl ⟨[],?_⟩
  simp [nameOk,peek]
  omega
def wordN:Nat->Str
 |0=>[]
 |n+1=>wordN (n / 26)++[UInt8.ofNat (97+n % 26)]
 decreasing_by omega
theorem wordN_succ (n:Nat):wordN (n+1)=wordN (n / 26)++[UInt8.ofNat (97+n % 26)]:=by rw [wordN]
theorem wordN_len:∀ n,(wordN n).length<=n:=by
 intro n
 induction n using Nat.strongRecOn with
 |_ n ih=>
  cases n with
  |zero=>simp [wordN]
  |succ n=>
   rw [wordN_succ]
   have:=ih (n / 26) (by omega)
   simp
   omega
def good (l:List Str) (n:Nat):Bool:=nameOk (wordN n) && !l.contains (wordN n)
structure First (l:List Str) (n:Nat):Prop where
 pos:1<=n
 good:good l n=true
 least:∀ m,1<=m->m < n->Go.Abs.good l m=false
 small:n<=4294967296
end Go.Abs
