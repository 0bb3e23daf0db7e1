/- The abstract interpreter: the machine's steps. -/
import Derived.Test.YtbdoijpclmhbaaaGreatRn3
import Derived.AtR
import Derived.Defers
import Derived.RangeFuncIn
import Derived.RangeFuncLeaves
namespace Go.Abs
variable {M M':Mem} {ρ ρ':Ref} {G G':Nat->Obj} {w w':World} {nx:Nat} {Q Q':Nat->Prop} {P:Program} {C:Cfg} {L:Low}
theorem eval_evV (a:Act):a.eval=evV a.tmps:=funext fun x=>by cases x<;>rfl
def csM:Pk->List Frame->List Frame
 | .dfr (some _) true,c::rest=>{ c with mode:=match c.mode with
   | .panicking (e::older) => .panicking ({ e with recovered:=true }::older)
   |m=>m }::rest
 |_,cs=>cs
def PkOK (M:Mem) (b:Frame) (cs:List Frame):Pk->Prop
 | .no=>b.kind = .normal/\b.roundOf=none
 | .rnd=>b.kind = .normal/\b.roundOf≠none
 | .dfr none _=>b.kind = .deferred/\b.roundOf=none/\∃ c rest,cs=c::rest/\c.mode = .returning
 | .dfr (some v) _=>b.kind = .deferred/\b.roundOf=none/\∃ c rest x,cs=c::rest/\c.mode = .panicking [{ v:=x,recovered:=false }]/\VI M v x
theorem PkOK.mono {b:Frame} {cs:List Frame} {pk:Pk} (h:PkOK M b cs pk) (hm:M.le M'):PkOK M' b cs pk:=by
 cases pk with
 |no=>exact h
 |rnd=>exact h
 |dfr m r=>cases m with
  |none=>exact h
  |some v=>obtain ⟨h1,h2,c,rest,x,h3,h4,h5⟩:=h;exact ⟨h1,h2,c,rest,x,h3,h4,h5.mono hm⟩
section steps
variable {b:Frame} {a:Act} {k:List Item} {cs:List Frame} {ops:Array Oper} {i:Nat} {rest:List Nat} {o:Oper}
theorem finR (ho:ops[i]? = some o) (v:Value):(b.atR a (.inRegion ops (i::rest)::k)).finish v=b.atR (a.put o.dst v) (.inRegion ops rest::k):=by
 rw [Frame.finish_atR,ho];rfl
theorem step_value {c:Value} {nxt:Next} (ho:ops[i]? = some o) (hw:Region.wanted o (yielded ops a.tmps)=true) (hd:∀ c,o.op ≠ .defer c)
  (hr:(execOp (evV a.tmps) o).run P w = .ok nxt w') (hn:nxt = .value c\/nxt = .skip/\c=Go.undef) :
  step P (lone (b.atR a (.inRegion ops (i::rest)::k)) cs w) = .next (lone (b.atR (a.put o.dst c) (.inRegion ops rest::k)) cs w'):=by
 refine step_lone_go ?_
 rw [stepGR_op ho hw,Oper.semAt_eq _ _ _ hd,eval_evV,<-finR ho]
 rcases hn with rfl|⟨rfl,rfl⟩<;>simp [stepG.apply,hr]
theorem step_enter {f:FuncId} {args:Array Value} (ho:ops[i]? = some o) (hw:Region.wanted o (yielded ops a.tmps)=true) (hd:∀ c,o.op ≠ .defer c)
  (hr:(execOp (evV a.tmps) o).run P w = .ok (.enter f args) w') :
  step P (lone (b.atR a (.inRegion ops (i::rest)::k)) cs w) = .next (lone (Frame.enter P f args .normal) (b.atR a (.inRegion ops (i::rest)::k)::cs) w'):=by
 refine step_lone_go ?_
 rw [stepGR_op ho hw,Oper.semAt_eq _ _ _ hd,eval_evV]
 simp [stepG.apply,hr,Frame.atR]
theorem step_round {l:Nat} {f:FuncId} {tmps:Array Value} {x y:Code} (ho:ops[i]? = some o) (hw:Region.wanted o (yielded ops a.tmps)=true) (hd:∀ c,o.op ≠ .defer c)
  (hr:(execOp (evV a.tmps) o).run P w = .ok (.round l f tmps x y) w') :
  step P (lone (b.atR a (.inRegion ops (i::rest)::k)) cs w) = .next (lone (Frame.round l f tmps x y .normal) (b.atR a (.inRegion ops (i::rest)::k)::cs) w'):=by
 refine step_lone_go ?_
 rw [stepGR_op ho hw,Oper.semAt_eq _ _ _ hd,eval_evV]
 simp [stepG.apply,hr]
theorem step_deferOp {d:Deferred} (hb:b.roundOf=none) (ho:ops[i]? = some o) (hw:Region.wanted o (yielded ops a.tmps)=true)
  (hr:(execOp (evV a.tmps) o).run P w = .ok (.defer d) w') :
  step P (lone (b.atR a (.inRegion ops (i::rest)::k)) cs w) = .next (lone (b.atR ({ a with defers:=d::a.defers }.put o.dst undef) (.inRegion ops rest::k)) cs w'):=by
 refine step_lone_go ?_
 rw [stepGR_op ho hw,hb,Oper.semAt_none,eval_evV]
 have:({ b.atR a (.inRegion ops (i::rest)::k) with defers:=d::a.defers }:Frame).finish undef =
   b.atR ({ a with defers:=d::a.defers }.put o.dst undef) (.inRegion ops rest::k):=by
  have:=finR (b:=b) (a:={ a with defers:=d::a.defers }) (k:=k) (rest:=rest) ho undef
  exact this
 simp only [stepG.apply,Sem.runT_eq,hr,GStep.bare_after]
 exact congrArg (fun fr=>GStep.go { frame:=fr,callers:=cs,status := .running,dying:=none } w') this
theorem step_panic {v:Value} (ho:ops[i]? = some o) (hw:Region.wanted o (yielded ops a.tmps)=true) (hd:∀ c,o.op ≠ .defer c)
  (hr:(execOp (evV a.tmps) o).run P w = .halt (.panic v) w') :
  step P (lone (b.atR a (.inRegion ops (i::rest)::k)) cs w) = .next (lone { b.atR a (.inRegion ops (i::rest)::k) with mode := .panicking [{ v,recovered:=false }] } cs w'):=by
 refine step_lone_go ?_
 rw [stepGR_op ho hw,Oper.semAt_eq _ _ _ hd,eval_evV,<-Frame.raise_atR]
 simp [stepG.apply,hr]
theorem step_recoverOp {v:Value} {c:Frame} {cr:List Frame} (hb:b.roundOf=none) (hk:b.kind = .deferred) (hc:c.mode = .panicking [{ v,recovered:=false }]) (ho:ops[i]? = some o) (hw:Region.wanted o (yielded ops a.tmps)=true)
  (hd:∀ c,o.op ≠ .defer c) (hr:(execOp (evV a.tmps) o).run P w = .ok .recover w') :
  step P (lone (b.atR a (.inRegion ops (i::rest)::k)) (c::cr) w) =
   .next (lone (b.atR (a.put o.dst v) (.inRegion ops rest::k)) ({ c with mode := .panicking [{ v,recovered:=true }] }::cr) w'):=by
 refine step_lone_go ?_
 rw [stepGR_op ho hw,Oper.semAt_eq _ _ _ hd,eval_evV,<-finR ho]
 simp [stepG.apply,hr,Frame.atR,hb,hk,hc,tryRecover]
theorem step_recoverNil {c:Frame} {cr:List Frame} (hb:b.roundOf=none) (hk:b.kind = .deferred) (hc:c.mode = .returning) (ho:ops[i]? = some o) (hw:Region.wanted o (yielded ops a.tmps)=true)
  (hd:∀ c,o.op ≠ .defer c) (hr:(execOp (evV a.tmps) o).run P w = .ok .recover w') :
  step P (lone (b.atR a (.inRegion ops (i::rest)::k)) (c::cr) w) = .next (lone (b.atR (a.put o.dst .nilIface) (.inRegion ops rest::k)) (c::cr) w'):=by
 refine step_lone_go ?_
 rw [stepGR_op ho hw,Oper.semAt_eq _ _ _ hd,eval_evV,<-finR ho]
 simp [stepG.apply,hr,Frame.atR,hb,hk,hc,tryRecover]
end steps
end Go.Abs

/- The abstract interpreter: calls. -/
namespace Go.Abs
variable {M M' M'':Mem} {ρ ρ' ρ'':Ref} {G G' G'':Nat->Obj} {w w' w'':World} {nx nx':Nat} {Q Q' Q'':Nat->Prop} {P:Program} {C:Cfg} {L:Low}
theorem Inv.later (h:Inv Q w M ρ G nx) (hn:nx<=nx'):Inv Q w M ρ G nx':={ h with free:=fun o ho=>h.free o (by omega) }
theorem Inv.blkQ (h:Inv Q w M ρ G nx) {o b:Nat} {v:Value} (hl:(G o).live=true) (hv:ρ o=some v) (hb:blk v=some b):M b≠none\/(M b=none/\Q b):=by
 by_cases hf:(G o).frozen=true
 ·left
  have:=h.obj o
  unfold ObjOK at this
  cases e:G o with
  |gone=>rw [e] at hl;simp [Obj.live] at hl
  |box cs fr=>
   rw [e] at this hf
   obtain ⟨b',vs,e',h1,h2,h3,h4⟩:=this
   rw [hv] at h1;cases h1;simp [blk] at hb;subst hb
   exact h4 (by simpa [Obj.frozen] using hf)
  |row et sz xs fr=>
   rw [e] at this hf
   obtain ⟨_,v',cs,h1,h2,h3,h4⟩:=this
   rw [hv] at h1;cases h1
   exact h4 (by simpa [Obj.frozen] using hf) b hb
  |mp ks vs fr=>
   rw [e] at this hf
   obtain ⟨b',es,clk,h1,h2,h3,h4,h5,h6,h7,h8⟩:=this
   rw [hv] at h1;cases h1;simp [blk] at hb;subst hb
   exact h7 (by simpa [Obj.frozen] using hf)
  |it=>rw [e] at hf;simp [Obj.frozen] at hf
  |lp=>rw [e] at hf;simp [Obj.frozen] at hf
 ·exact .inr (h.own o v b hl (by simpa using hf) hv hb)
theorem Inv.turn (h:Inv Q w M ρ G nx) (hw:∀ b,w'.heap[b]? = w.heap[b]? \/ (¬ Q b/\M b=none)) (hsz:w.heap.size<=w'.heap.size):Inv Q w' M ρ G nx:=by
 refine ⟨fun b o hm=>?_,fun o=>?_,h.free,h.gone,h.sep,h.own,fun b hb=>h.new b (by omega)⟩
 ·rcases hw b with h1|⟨_,h1⟩
  ·rw [h1];exact h.mem b o hm
  ·rw [hm] at h1;cases h1
 ·by_cases hl:(G o).live=true
  ·refine (h.obj o).mono rfl rfl (Ev.refl _ _ _) fun v b hv hb=>?_
   rcases hw b with h1|⟨h1,h2⟩
   ·exact h1
   ·rcases h.blkQ hl hv hb with h3|⟨_,h3⟩
    ·exact absurd h2 h3
    ·exact absurd h3 h1
  ·have:G o = .gone:=by cases e:G o<;>simp_all [Obj.live]
   unfold ObjOK;rw [this];trivial
def QN (w:World):Nat->Prop:=fun b=>w.heap.size<=b
theorem Ev.mem' (hm:M.le M'):Ev M ρ G M' ρ G:=⟨hm,fun _ _ h => .inl h,fun _ _ _ _ xs fr h=>⟨xs,fr,h,Nat.le_refl _,fun _=>rfl⟩⟩
theorem Inv.ext (h:Inv Q w M ρ G nx) (hm:M.le M') (hw:WS (QN w) w w') (hq:MQ (QN w) M M') (hmem:∀ b o,M' b=some o->w'.heap[b]? = some o):Inv Q w' M' ρ G nx:=by
 have hold:∀ b,b < w.heap.size->w'.heap[b]? = w.heap[b]? := fun b hb=>hw.block b (by simp only [QN];omega)
 refine ⟨hmem,fun o=>?_,h.free,h.gone,h.sep,fun o v b h1 h2 h3 h4=>?_,fun b hb=>h.new b (by have:=hw.size;omega)⟩
 ·by_cases hl:(G o).live=true
  ·exact (h.obj o).mono rfl rfl (Ev.mem' hm) fun v b hv hb=>hold b (h.lt hl hv hb)
  ·have:G o = .gone:=by cases e:G o<;>simp_all [Obj.live]
   unfold ObjOK;rw [this];trivial
 ·have ho:=h.own o v b h1 h2 h3 h4
  refine ⟨?_,ho.2⟩
  cases e:M' b with
  |none=>rfl
  |some x=>
   rcases hq b (by rw [e];simp) with h5|h5
   ·exact absurd ho.1 h5
   ·have:=h.lt h1 h3 h4;simp only [QN] at h5;omega
theorem Inv.add (h:Inv Q w M ρ G nx) {q:Nat} {x:Obj} {r:Value} (hq:q < nx) (hn:ρ q=none) (hx:ObjOK w M (upd ρ q (some r)) (upd G q x) q)
  (hb:∀ b,blk r=some b->M b=none/\Q b/\∀ o v,(G o).live=true->ρ o=some v->blk v≠some b):Inv Q w M (upd ρ q (some r)) (upd G q x) nx:=by
 have hv:Ev M ρ G M (upd ρ q (some r)) (upd G q x):=Ev.new hn
 refine ⟨h.mem,fun o=>?_,fun o ho=>?_,fun o ho=>?_,?_,?_,h.new⟩
 ·by_cases hoq:o=q
  ·subst hoq;exact hx
  ·exact (h.obj o).mono (by simp [upd,hoq]) (by simp [upd,hoq]) hv (fun _ _ _ _=>rfl)
 ·simp only [upd];rw [if_neg (by omega)];exact h.free o ho
 ·by_cases hoq:o=q
  ·subst hoq;simp [upd] at ho
  ·simp only [upd,if_neg hoq] at ho ⊢;exact h.gone o ho
 ·intro o o' v v' b hl hl' hv1 hv2 hb1 hb2
  by_cases ho:o=q
  ·by_cases ho':o'=q
   ·rw [ho,ho']
   ·exfalso
    subst ho
    simp only [upd,if_true,Option.some.injEq] at hv1
    subst hv1
    simp only [upd,if_neg ho'] at hl' hv2
    exact (hb b hb1).2.2 o' v' hl' hv2 hb2
  ·by_cases ho':o'=q
   ·exfalso
    subst ho'
    simp only [upd,if_true,Option.some.injEq] at hv2
    subst hv2
    simp only [upd,if_neg ho] at hl hv1
    exact (hb b hb2).2.2 o v hl hv1 hb1
   ·simp only [upd,if_neg ho] at hl hv1
    simp only [upd,if_neg ho'] at hl' hv2
    exact h.sep o o' v v' b hl hl' hv1 hv2 hb1 hb2
 ·intro o v b hl hfr hv1 hb1
  by_cases ho:o=q
  ·subst ho
   simp only [upd,if_true,Option.some.injEq] at hv1
   subst hv1
   exact ⟨(hb b hb1).1,(hb b hb1).2.1⟩
  ·simp only [upd,if_neg ho] at hl hfr hv1
   exact h.own o v b hl hfr hv1 hb1
/-! ### how a state comes of another one -/
structure Tr (N:Nat->Prop) (Q:Nat->Prop) (w:World) (M:Mem) (ρ:Ref) (G:Nat->Obj) (Q':Nat->Prop) (w':World) (M':Mem) (ρ':Ref) (G':Nat->Obj):Prop where
 sub:∀ b,Q' b->Q b
 ev:Ev M ρ G M' ρ' G'
 ws:WS Q w w'
 mq:MQ Q M M'
 born:∀ o,¬ N o->ρ o=none->ρ' o=none
theorem Tr.refl (N Q:Nat->Prop) (w:World) (M:Mem) (ρ:Ref) (G:Nat->Obj):Tr N Q w M ρ G Q w M ρ G:=
 ⟨fun _ h=>h,Ev.refl _ _ _,WS.refl _ _,MQ.refl _ _,fun _ _ h=>h⟩
theorem WS.sub (h:WS Q' w w') (hq:∀ b,Q' b->Q b):WS Q w w':=⟨h.os,h.tape,h.output,h.size,fun b hb=>h.block b fun hb'=>hb (hq b hb')⟩
theorem MQ.sub (h:MQ Q' M M') (hq:∀ b,Q' b->Q b):MQ Q M M':=fun b hb=>(h b hb).imp (fun h=>h) (hq b)
theorem Tr.trans {N1 N2 N:Nat->Prop} (h:Tr N1 Q w M ρ G Q' w' M' ρ' G') (k:Tr N2 Q' w' M' ρ' G' Q'' w'' M'' ρ'' G'') (h1:∀ o,N1 o->N o) (h2:∀ o,N2 o->N o):Tr N Q w M ρ G Q'' w'' M'' ρ'' G'':=
 ⟨fun b hb=>h.sub b (k.sub b hb),h.ev.trans k.ev,h.ws.trans (k.ws.sub h.sub),h.mq.trans (k.mq.sub h.sub),fun o ho hr=>k.born o (fun e=>ho (h2 o e)) (h.born o (fun e=>ho (h1 o e)) hr)⟩
theorem Tr.weak {N N':Nat->Prop} (h:Tr N Q w M ρ G Q' w' M' ρ' G') (hn:∀ o,N o->N' o):Tr N' Q w M ρ G Q' w' M' ρ' G':=
 { h with born:=fun o ho=>h.born o fun e=>ho (hn o e) }
/-! ### deferred calls -/
inductive DR (Q0 Q:Nat->Prop) (w:World) (M:Mem) (ρ:Ref) (G:Nat->Obj):List (AV×List AV)->List Deferred->Prop
 |nil:DR Q0 Q w M ρ G [] []
 |cons {g:AV} {ars:List AV} {ds:List (AV×List AV)} {d:Deferred} {dcs:List Deferred} (f:Fn) (cap:Array Value) (ht:d.target = .fn f cap) (hg:VA M ρ G g (.func f #[] cap)) (ha:VL (VA M ρ G) ars d.args) (h:DR Q0 Q w M ρ G ds dcs) :
   DR Q0 Q w M ρ G ((g,ars)::ds) (d::dcs)
 |mark {ds:List (AV×List AV)} {d:Deferred} {dcs:List Deferred} (r:Nat) (ht:d.target = .collected r) (q0:Q0 r) (q:¬ Q r) (hm:M r=none) (hr:w.heap[r]? = some (.deferred (some [])))
   (hn:∀ x∈dcs,x.target ≠ .collected r) (h:DR Q0 Q w M ρ G ds dcs):DR Q0 Q w M ρ G ds (d::dcs)
theorem DR.mono {Q0 N:Nat->Prop} {ds:List (AV×List AV)} {dcs:List Deferred} (h:DR Q0 Q w M ρ G ds dcs) (t:Tr N Q w M ρ G Q' w' M' ρ' G'):DR Q0 Q' w' M' ρ' G' ds dcs:=by
 induction h with
 |nil=>exact .nil
 |cons f cap ht hg ha h ih=>exact .cons f cap ht (hg.mono t.ev) (ha.imp fun _ _=>VA.mono t.ev) ih
 |mark r ht q0 q hm hr hn h ih=>
  refine .mark r ht q0 (fun e=>q (t.sub r e)) ?_ ((t.ws.block r q).trans hr) hn ih
  cases e:M' r with
  |none=>rfl
  |some x=>
        rcases t.mq r (by rw [e];simp) with h1|h1
        ·exact absurd hm h1
        ·exact absurd h1 q
structure SR (nt:Nat) (Q0 Q:Nat->Prop) (w:World) (M:Mem) (ρ:Ref) (s:St) (a:Act):Prop where
 inv:Inv Q w M ρ s.G s.nx
 tmps:TR M ρ s.G s.tmps a.tmps
 size:a.tmps.size=nt
 sub:∀ b,Q b->Q0 b
 dfr:DR Q0 Q w M ρ s.G s.defers a.defers
/-! ### contracts -/
def PInv (P:Program) (f:FuncId):Prop:=∃ fn,P.funcs[f]? = some fn/\fn.body.isSome=true
def CallEnd (P:Program) (m:Machine) (pk':Pk) (kind:CallKind) (cs:List Frame) (f:FuncId) (w':World) (M':Mem) (ρ':Ref):CR->Prop
 | .ret v G' _=>∃ fr cv fn,Steps P m (lone fr (csM pk' cs) w')/\fr.mode = .returning/\fr.defers=[]/\fr.kind=kind/\fr.fn=f/\P.funcs[f]? = some fn/\(results fn fr.tmps).run P w' = .ok cv w'/\VA M' ρ' G' v cv
 | .pan v _ _=>∃ fr x fn,Steps P m (lone fr (csM pk' cs) w')/\fr.mode = .panicking [{ v:=x,recovered:=false }]/\fr.defers=[]/\fr.kind=kind/\fr.fn=f/\P.funcs[f]? = some fn/\VI M' v x
def CR.mem:CR->Nat->Obj
 | .ret _ G _=>G
 | .pan _ G _=>G
def CR.lim:CR->Nat
 | .ret _ _ n=>n
 | .pan _ _ n=>n
def CallOK (P:Program) (L:Low):Prop:=∀ f args pk G nx res pk',L.call f args pk G nx=some (res,pk')->PInv P f /\
 ∀ Q w M ρ vs kind cs,Inv Q w M ρ G nx->VL (VA M ρ G) args vs->PkOK M (Frame.enter P f vs kind) cs pk->∃ Q' w' M' ρ',Tr (nx <= ·) Q w M ρ G Q' w' M' ρ' res.mem/\Inv Q' w' M' ρ' res.mem res.lim/\nx<=res.lim /\
  PkOK M' (Frame.enter P f vs kind) cs pk'/\CallEnd P (lone (Frame.enter P f vs kind) (csM pk cs) w) pk' kind cs f w' M' ρ' res
def RoundEnd (P:Program) (m:Machine) (c:Frame) (cs:List Frame) (w':World) (M':Mem) (ρ':Ref):CR->Prop
 | .ret v G' _=>∃ cv,Steps P m (lone (c.finish cv) cs w')/\VA M' ρ' G' v cv
 | .pan v _ _=>∃ x',Steps P m (lone (c.raise [{ v:=x',recovered:=false }]) cs w')/\VI M' v x'
def RoundOK (P:Program) (L:Low):Prop:=∀ q args G nx res pk',L.round q args G nx=some (res,pk') ->
 ∀ Q w M ρ vs l,Inv Q w M ρ G nx->VL (VA M ρ G) args vs->ρ q=some (.func (.yield l) #[] #[])->∃ f tmps x y,(Instr.yield l vs).run P w = .ok (.round l f tmps x y) w /\
  ∀ c cs,∃ Q' w' M' ρ',Tr (nx <= ·) Q w M ρ G Q' w' M' ρ' res.mem/\Inv Q' w' M' ρ' res.mem res.lim/\nx<=res.lim /\
   RoundEnd P (lone (Frame.round l f tmps x y .normal) (c::cs) w) c cs w' M' ρ' res
def OrcEnd (w:World) (M:Mem) (cv:Value) (w':World):OrcR->Prop
 | .dat x=>∃ M',M.le M'/\MQ (QN w) M M'/\(∀ b o,M' b=some o->w'.heap[b]? = some o)/\VI M' x cv
 | .own et sz xs=>∃ M' cs,M.le M'/\MQ (QN w) M M'/\(∀ b o,M' b=some o->w'.heap[b]? = some o)/\0 < sz/\w'.ownsRow 0 et sz cv xs.length cs/\(∀ b,blk cv=some b->M' b=none/\w.heap.size<=b) /\
   (∀ x∈xs,(AV.imm x).fits sz=true)/\∀ (i:Nat) x (j:Nat) y,xs[i]? = some x->(IV.cells x)[j]? = some y->VI M' y (cs.getD (i*sz+j) Go.undef)
def OrcOK (C:Cfg):Prop:=∀ f ivs r,C.orc f ivs=some r->PInv C.P f /\
 ∀ M w vs,(∀ b o,M b=some o->w.heap[b]? = some o)->VL (VI M) ivs vs->Calls C.P f vs w fun e w'=>∃ cv,e = .returned cv/\WS (QN w) w w'/\OrcEnd w M cv w' r
structure CfgOK (C:Cfg):Prop where
 mixed:C.P.follows .mixedOrders=true
 ng : ∀ (f : FuncId) (fn : Func), C.P.funcs[f]? = some fn → fn.body.isSome = true → (fn.name == "runtime.NumGoroutine") = false
 orc:OrcOK C
theorem run_callFunc (hC:CfgOK C) {f:FuncId} {vs:Array Value} (h:PInv C.P f):(callFunc f vs).run C.P w = .ok (.enter f vs) w:=by
 obtain ⟨fn,h1,h2⟩:=h
 have h3:=hC.ng f fn h1 h2
 have h4:fn.body≠none:=by cases e:fn.body<;>simp_all
 have h3' : fn.name ≠ "runtime.NumGoroutine" := by simpa using h3
 simp [callFunc,h1,h3',h4]
theorem VL_imms {ivs:List IV} {vs:Array Value} (h:VL (VI M) ivs vs):VL (VA M ρ G) (ivs.map .imm) vs:=by
 refine ⟨by simpa using h.1,fun i x hx=>?_⟩
 rw [List.getElem?_map,Option.map_eq_some_iff] at hx
 obtain ⟨y,hy,rfl⟩:=hx
 exact .imm _ _ (h.2 i y hy)
theorem Inv.empty (hm:∀ b o,M b=some o->w.heap[b]? = some o):Inv (QN w) w M (fun _=>none) (fun _ => .gone) 0:=by
 refine ⟨hm,fun o=>trivial,fun _ _=>rfl,fun _ _=>rfl,?_,?_,fun b hb=>hb⟩
 ·intro o o' v v' b h;simp [Obj.live] at h
 ·intro o v b h;simp [Obj.live] at h
theorem imm_cells (z:IV):(AV.imm z).cells=z.cells.map .imm:=by cases z<;>rfl
def CallRes (P:Program) (id:Nat) (s:St) (m:List Frame->Machine) (Q:Nat->Prop) (w:World) (M:Mem) (ρ:Ref) (c:Frame) (cs:List Frame):Ef->Prop
 | .val v ups=>∃ Q' w' M' ρ' cv,Tr (fun o=>o=id\/s.nx<=o) Q w M ρ s.G Q' w' M' ρ' (updL s.G ups)/\Inv Q' w' M' ρ' (updL s.G ups) s.nx/\Steps P (m (c::cs)) (lone (c.finish cv) cs w')/\VA M' ρ' (updL s.G ups) v cv
 | .wr v s1=>s1={ s with G:=s1.G,nx:=s1.nx }/\s.nx<=s1.nx/\∃ Q' w' M' ρ' cv,Tr (fun o=>o=id\/s.nx<=o) Q w M ρ s.G Q' w' M' ρ' s1.G/\Inv Q' w' M' ρ' s1.G s1.nx/\Steps P (m (c::cs)) (lone (c.finish cv) cs w')/\VA M' ρ' s1.G v cv
 | .pan v s1=>s1={ s with G:=s1.G,nx:=s1.nx }/\s.nx<=s1.nx/\∃ Q' w' M' ρ' x,Tr (fun o=>o=id\/s.nx<=o) Q w M ρ s.G Q' w' M' ρ' s1.G/\Inv Q' w' M' ρ' s1.G s1.nx/\Steps P (m (c::cs)) (lone (c.raise [{ v:=x,recovered:=false }]) cs w')/\VI M' v x
theorem CallEnd.ret {m:Machine} {pk':Pk} {cs:List Frame} {f:FuncId} {v:AV} {n:Nat} {c:Frame} (h:CallEnd P m pk' .normal (c::cs) f w' M' ρ' (.ret v G' n)) (hp:pk' = .no) :
  ∃ cv,Steps P m (lone (c.finish cv) cs w')/\VA M' ρ' G' v cv:=by
 obtain ⟨fr,cv,fn,h1,h2,h3,h4,h5,h6,h7,h8⟩:=h
 subst hp
 refine ⟨cv,h1.trans (.one (step_leave_returned ⟨h2,h3,h4,fn,?_,h7⟩)),h8⟩
 rw [h5];exact h6
theorem CallEnd.pan {m:Machine} {pk':Pk} {cs:List Frame} {f:FuncId} {v:IV} {n:Nat} {c:Frame} (h:CallEnd P m pk' .normal (c::cs) f w' M' ρ' (.pan v G' n)) (hp:pk' = .no) :
  ∃ x,Steps P m (lone (c.raise [{ v:=x,recovered:=false }]) cs w')/\VI M' v x:=by
 obtain ⟨fr,x,fn,h1,h2,h3,h4,h5,h6,h7⟩:=h
 subst hp
 refine ⟨x,h1.trans (.one (step_leave_panicked ⟨h2,h3,fn,?_⟩)),h7⟩
 rw [h5];exact h6
theorem PkOK.no_of {b:Frame} {cs:List Frame} {pk:Pk} (h:PkOK M b cs pk) (hk:b.kind = .normal) (hr:b.roundOf=none):pk = .no:=by
 cases pk with
 |no=>rfl
 |rnd=>exact absurd hr h.2
 |dfr m r=>cases m with
  |none=>obtain ⟨h1,_⟩:=h;rw [hk] at h1;cases h1
  |some v=>obtain ⟨h1,_⟩:=h;rw [hk] at h1;cases h1
theorem Tr.own {N:Nat->Prop} (hm:M.le M') (hw:WS (QN w) w w') (hq:MQ (QN w) M M') (hn:∀ b,w.heap.size<=b->Q b):Tr N Q w M ρ G Q w' M' ρ G:=
 ⟨fun _ h=>h,Ev.mem' hm,hw.sub hn,hq.sub hn,fun _ _ h=>h⟩
theorem peeks_VI {args:List AV} {vs:Array Value} {ivs:List IV} {ids:List Nat} (hI:Inv Q w M ρ G nx) (h:peeks G args=some (ivs,ids)) (hv:VL (VA M ρ G) args vs) :
  VL (VI (memOf w M ρ ids)) ivs vs/\∀ o∈ids,(G o).data=true:=by
 have key:∀ (l:List AV) (xs:List IV) (is:List Nat),peekL (peek G pkDepth) l=some (xs,is)->(∀ o∈is,o∈ids)->xs.length=l.length/\(∀ o∈is,(G o).data=true)/\∀ (i:Nat) x,xs[i]? = some x->∃ a,l[i]? = some a/\∀ c,VA M ρ G a c->VI (memOf w M ρ ids) x c:=by
  intro l
  induction l with
  |nil=>intro xs is h hin;simp only [peekL,Option.some.injEq,Prod.mk.injEq] at h;obtain ⟨rfl,rfl⟩:=h;exact ⟨rfl,by simp,by simp⟩
  |cons a r ih=>
   intro xs is h hin
   simp only [peekL] at h
   split at h
   ·rename_i x ix h1
    split at h
    rotate_left
    ·cases h
    rename_i xr ir h2
    cases h
    have:=ih xr ir h2 (fun o ho=>hin o (List.mem_append.2 (.inr ho)))
    refine ⟨by simp [this.1],fun o ho=>?_,fun i y hy=>?_⟩
    ·rcases List.mem_append.1 ho with ho|ho
     ·exact peek_live _ _ _ _ h1 o ho
     ·exact this.2.1 o ho
    ·cases i with
     |zero=>simp at hy;subst hy;exact ⟨a,rfl,fun c hc=>peek_VI hI _ _ _ _ _ h1 (fun o ho=>hin o (List.mem_append.2 (.inl ho))) hc⟩
     |succ i=>simpa using this.2.2 i y (by simpa using hy)
   ·cases h
 obtain ⟨k1,k2,k3⟩:=key args ivs ids h (fun o h=>h)
 refine ⟨⟨by rw [k1];exact hv.1,fun i x hx=>?_⟩,k2⟩
 obtain ⟨a,ha,hc⟩:=k3 i x hx
 exact hc _ (hv.2 i a ha)
theorem callA_ok (hC:CfgOK C) (hL:CallOK C.P L) {id:Nat} {s:St} {f:FuncId} {args:List AV} {ef:Ef} (h:callA C L id s f args=some ef) {vs:Array Value} {c:Frame} {cs:List Frame} (hI:Inv Q w M ρ s.G s.nx) (hid:ρ id=none) (hlt:id < s.nx)
  (hv:VL (VA M ρ s.G) args vs):PInv C.P f/\CallRes C.P id s (fun cs=>lone (Frame.enter C.P f vs .normal) cs w) Q w M ρ c cs ef:=by
 have hpk:∀ M,PkOK M (Frame.enter C.P f vs .normal) (c::cs) .no:=fun M=>⟨rfl,rfl⟩
 unfold callA at h
 split at h
 ·split at h
  ·rename_i v G2 n2 pk2 hcall
   cases h
   obtain ⟨h1,h2⟩:=hL _ _ _ _ _ _ _ hcall
   obtain ⟨Q',w',M',ρ',t,i',n',p',e'⟩:=h2 Q w M ρ vs .normal (c::cs) hI hv (hpk M)
   obtain ⟨cv,st,hcv⟩:=CallEnd.ret e' (p'.no_of rfl rfl)
   exact ⟨h1,rfl,n',Q',w',M',ρ',cv,t.weak (fun _ => .inr),i',st,hcv⟩
  ·rename_i v G2 n2 pk2 hcall
   cases h
   obtain ⟨h1,h2⟩:=hL _ _ _ _ _ _ _ hcall
   obtain ⟨Q',w',M',ρ',t,i',n',p',e'⟩:=h2 Q w M ρ vs .normal (c::cs) hI hv (hpk M)
   obtain ⟨x,st,hx⟩:=CallEnd.pan e' (p'.no_of rfl rfl)
   exact ⟨h1,rfl,n',Q',w',M',ρ',x,t.weak (fun _ => .inr),i',st,hx⟩
  ·cases h
 ·split at h
  ·cases h
  ·rename_i ivs ids hpks
   obtain ⟨hvi,hdat⟩:=peeks_VI hI hpks hv
   have hF:=hI.frz hdat
   have hE:=Ev.frz w M ρ s.G ids
   have hMQ:=MQ.memOf hI hdat
   have hn:∀ b,w.heap.size<=b->Q b:=hI.new
   have tF:Tr (fun o=>o=id\/s.nx<=o) Q w M ρ s.G Q w (memOf w M ρ ids) ρ (updL s.G (frz ids)):=⟨fun _ h=>h,hE,WS.refl _ _,hMQ,fun _ _ h=>h⟩
   -- what comes back, as data
   have back:∀ (r:IV) (v:AV) (ups:List (Nat×U)) (w':World) (M':Mem) (cv:Value),give ids r.scalar (.imm r) = .val v ups->(memOf w M ρ ids).le M'->WS (QN w) w w'->MQ (QN w) (memOf w M ρ ids) M'->(∀ b o,M' b=some o->w'.heap[b]? = some o) ->
     VI M' r cv->Steps C.P (lone (Frame.enter C.P f vs .normal) (c::cs) w) (lone (c.finish cv) cs w')->CallRes C.P id s (fun cs=>lone (Frame.enter C.P f vs .normal) cs w) Q w M ρ c cs (.val v ups):=by
    intro r v ups w' M' cv hg hle hws hmq hmem hr hst
    unfold give at hg
    split at hg
    ·rename_i hsc
     cases hg
     refine ⟨Q,w',M,ρ,cv,Tr.own (Mem.le_refl M) hws (MQ.refl _ _) hn,?_,hst, .imm _ _ (hr.any hsc M)⟩
     exact hI.ext (Mem.le_refl M) hws (MQ.refl _ _) fun b o hb=>by
      have:=hI.mem b o hb
      rw [hws.block b (by have:=(Array.getElem?_eq_some_iff.1 this).1;simp only [QN];omega)];exact this
    ·cases hg
     exact ⟨Q,w',M',ρ,cv,tF.trans (Tr.own hle hws hmq hn) (fun _ h=>h) (fun _ h=>h),hF.ext hle hws hmq hmem,hst, .imm _ _ hr⟩
   split at h
   ·rename_i r horc
    injection h with h
    obtain ⟨h1,h2⟩:=hC.orc f ivs _ horc
    obtain ⟨e,w',fr,⟨cv,rfl,hws,M',hle,hmq,hmem,hr⟩,hcomes,hfn,hleave⟩:=h2 (memOf w M ρ ids) w vs hF.mem hvi (c::cs)
    refine ⟨h1,?_⟩
    cases ef with
    |val v ups=>exact back r v ups w' M' cv h hle hws hmq hmem hr (Steps.trans hcomes (.one (step_leave_returned hleave)))
    |wr=>unfold give at h;split at h<;>cases h
    |pan=>unfold give at h;split at h<;>cases h
   ·rename_i et sz xs horc
    cases h
    obtain ⟨h1,h2⟩:=hC.orc f ivs _ horc
    obtain ⟨e,w',fr,⟨cv,rfl,hws,M',cells,hle,hmq,hmem,hsz,hrow,hblk,hfit,hcell⟩,hcomes,hfn,hleave⟩:=h2 (memOf w M ρ ids) w vs hF.mem hvi (c::cs)
    have hup:updL s.G (frz ids++[(id, .set (.row et sz (xs.map .imm) false))])=upd (updL s.G (frz ids)) id (.row et sz (xs.map .imm) false):=by
     rw [updL_append];rfl
    have hI1:=hF.ext hle hws hmq hmem
    have hv1:Ev M' ρ (updL s.G (frz ids)) M' (upd ρ id (some cv)) (upd (updL s.G (frz ids)) id (.row et sz (xs.map .imm) false)):=Ev.new hid
    have hrow':w'.ownsRow 0 et sz cv (xs.map AV.imm).length cells:=by rw [List.length_map];exact hrow
    refine ⟨h1,Q,w',M',upd ρ id (some cv),cv,?_,?_,Steps.trans hcomes (.one (step_leave_returned hleave)),?_⟩
    ·rw [hup]
     refine (tF.trans (Tr.own (N:=fun o=>o=id\/s.nx<=o) hle hws hmq hn) (fun _ h=>h) (fun _ h=>h)).trans (N2:=fun o=>o=id) ⟨fun _ h=>h,hv1,WS.refl _ _,MQ.refl _ _,fun o h e=>by simp [upd,h,e]⟩ (fun _ h=>h) (fun _ h => .inl h)
    ·rw [hup]
     refine hI1.add hlt hid ?_ (fun b hb=>⟨(hblk b hb).1,hn b (hblk b hb).2,fun o v hl hv hb'=>?_⟩)
     ·unfold ObjOK
      simp only [upd,if_true]
      refine ⟨hsz,cv,cells,rfl,hrow',⟨fun x hx=>?_,fun i x j y hx hy=>?_⟩,fun h=>by cases h⟩
      ·obtain ⟨z,hz,rfl⟩:=List.mem_map.1 hx
       exact hfit z hz
      ·rw [List.getElem?_map,Option.map_eq_some_iff] at hx
       obtain ⟨z,hz,rfl⟩:=hx
       obtain ⟨u,rfl,hu⟩:=imm_get (l:=z.cells) (by rw [<-imm_cells z];exact hy)
       exact .imm _ _ (hcell i z j u hz hu)
     ·have h3:=hF.lt hl hv hb'
      have h4:=(hblk b hb).2
      omega
    ·rw [hup]
     rcases hrow.2 with ⟨rfl,h1⟩|⟨g,cap,cur,rfl,_⟩
     ·exact .row id _ none 0 0 (by simp [upd]) fun et' sz' xs' fr' e=>by
       simp only [upd,if_true,Obj.row.injEq] at e
       obtain ⟨rfl,rfl,rfl,rfl⟩:=e
       exact ⟨by simp,fun _=>by simp [upd]⟩
     ·exact .row id _ _ _ _ (by simp [upd]) fun et' sz' xs' fr' e=>by
       simp only [upd,if_true,Obj.row.injEq] at e
       obtain ⟨rfl,rfl,rfl,rfl⟩:=e
       exact ⟨by simp,fun _=>by simp [upd]⟩
   ·split at h
    ·rename_i v G2 n2 pk2 hcall
     split at h
     ·rename_i r is hpeek
      injection h with h
      obtain ⟨h1,h2⟩:=hL _ _ _ _ _ _ _ hcall
      obtain ⟨Q',w',M',ρ',t,i',n',p',e'⟩:=h2 (QN w) w (memOf w M ρ ids) (fun _=>none) vs .normal (c::cs) (Inv.empty hF.mem) (VL_imms hvi) (hpk _)
      obtain ⟨cv,st,hcv⟩:=CallEnd.ret e' (p'.no_of rfl rfl)
      have hr:=peek_VI i' _ _ _ _ _ hpeek (fun o h=>h) hcv
      have hdat2:=peek_live _ _ _ _ hpeek
      refine ⟨h1,?_⟩
      have hle:(memOf w M ρ ids).le (memOf w' M' ρ' is):=Mem.le_trans t.ev.mem (memOf_le _ _ _ _)
      have hmq:MQ (QN w) (memOf w M ρ ids) (memOf w' M' ρ' is):=t.mq.trans ((MQ.memOf i' hdat2).sub t.sub)
      cases ef with
      |val v' ups=>exact back r v' ups w' _ cv h hle t.ws hmq (i'.frz hdat2).mem hr st
      |wr=>unfold give at h;split at h<;>cases h
      |pan=>unfold give at h;split at h<;>cases h
     ·cases h
    ·rename_i v G2 n2 pk2 hcall
     split at h
     ·rename_i hsc
      cases h
      obtain ⟨h1,h2⟩:=hL _ _ _ _ _ _ _ hcall
      obtain ⟨Q',w',M',ρ',t,i',n',p',e'⟩:=h2 (QN w) w (memOf w M ρ ids) (fun _=>none) vs .normal (c::cs) (Inv.empty hF.mem) (VL_imms hvi) (hpk _)
      obtain ⟨x,st,hx⟩:=CallEnd.pan e' (p'.no_of rfl rfl)
      refine ⟨h1,rfl,Nat.le_refl _,Q,w',M,ρ,x,Tr.own (Mem.le_refl M) t.ws (MQ.refl _ _) hn,?_,st,hx.any hsc M⟩
      exact hI.ext (Mem.le_refl M) t.ws (MQ.refl _ _) fun b o hb=>by
       have:=hI.mem b o hb
       rw [t.ws.block b (by have:=(Array.getElem?_eq_some_iff.1 this).1;simp only [QN];omega)];exact this
     ·cases h
    ·cases h
end Go.Abs

/- The abstract interpreter: an operation where the machine stands. -/
namespace Go.Abs
variable {M M' M'':Mem} {ρ ρ' ρ'':Ref} {G G' G'':Nat->Obj} {w w' w'':World} {nx nx':Nat} {Q Q' Q'' Q0:Nat->Prop} {P:Program} {C:Cfg} {L:Low}
theorem VL_append {p:AV->Value->Prop} {l l':List AV} {vs vs':Array Value} (h:VL p l vs) (k:VL p l' vs'):VL p (l++l') (vs++vs'):=by
 refine ⟨by simp [h.1,k.1],fun i x hx=>?_⟩
 rw [List.getElem?_append] at hx
 split at hx
 ·rename_i hi
  have:=h.2 i x hx
  have hlt:i < vs.size:=by rw [<-h.1];exact hi
  simpa [at_,Array.getD_eq_getD_getElem?,Array.getElem?_append,hlt] using this
 ·rename_i hi
  have:=k.2 _ x hx
  have hlt:¬ i < vs.size:=by rw [<-h.1];exact hi
  simpa [at_,Array.getD_eq_getD_getElem?,Array.getElem?_append,hlt,h.1] using this
theorem fnOf_ok {g:AV} {f:Fn} {cap:List AV} {c:Value} (h:fnOf g=some (f,cap)) (hg:VA M ρ G g c):∃ vs,c = .func f #[] vs/\VL (VA M ρ G) cap vs:=by
 unfold fnOf at h
 split at h
 ·cases h
  have:=hg.imm_inv
  cases this with|fn _ _ vs hl hx=>exact ⟨vs,rfl,VL_imms ⟨hl,hx⟩⟩
 ·cases h
  cases hg with|fn _ _ vs hl hx=>exact ⟨vs,rfl,hl,hx⟩
 ·cases h
theorem opA_val {id:Nat} {s:St} {o:Op} {ef:Ef} (hs:simple o=true) (h:opA C L id s o=some ef):∃ v ups,ef = .val v ups:=by
 unfold opA at h
 cases o<;>simp only [simple,Bool.false_eq_true,reduceCtorEq] at hs h
 case call c=>
  obtain ⟨callee,args,ats⟩:=c
  cases callee with
  |builtin b=>
   simp only at h
   have hb:b ≠ .recover:=fun e=>by subst e;simp at hs
   unfold aBuiltin aAppend at h
   split at h
   all_goals first|exact absurd rfl hb|((repeat' split at h)<;>first|(cases h<;>exact ⟨_,_,rfl⟩)|cases h)
  |_=>simp only [Bool.false_eq_true] at hs
 case makeMap t r=>cases r<;>simp only [reduceCtorEq] at h;cases h;exact ⟨_,_,rfl⟩
 case slice t x lo hi mx=>cases mx<;>simp only [reduceCtorEq] at h;unfold aSlice give at h;(repeat' split at h)<;>first|(cases h<;>exact ⟨_,_,rfl⟩)|cases h
 all_goals
  (try unfold aAlloc at h);(try unfold aBox at h);(try unfold aBuild at h);(try unfold aBuildSlice at h);(try unfold aMakeSlice at h);(try unfold aLoad at h);(try unfold aStore at h);(try unfold aNilCheck at h)
  (try unfold aConvert at h);(try unfold aMakeInterface at h);(try unfold aFieldAddr at h);(try unfold aIndexAddr at h);(try unfold aIndex at h);(try unfold lookA at h);(try unfold aMapUpdate at h);(try unfold aExtract at h)
  (try unfold aSlice at h);(try unfold aTypeAssert at h);(try unfold give at h);(try unfold aRange at h);(try unfold aNext at h);(try unfold aEntry at h)
  (repeat' split at h)<;>first|(cases h<;>exact ⟨_,_,rfl⟩)|cases h
def OpN (P:Program) (nt:Nat) (b:Frame) (cs:List Frame) (k:List Item) (ops:Array Oper) (i:Nat) (rest:List Nat) (o:Oper) (id:Nat) (Q0 Q:Nat->Prop) (w:World) (M:Mem) (ρ:Ref) (s:St) (a:Act) (v:AV) (s1:St):Prop:=
 ∃ c a1 Q' w' M' ρ',Tr (fun o=>o=id\/s.nx<=o) Q w M ρ s.G Q' w' M' ρ' s1.G/\s.nx<=s1.nx/\s1.tmps=s.tmps/\SR nt Q0 Q' w' M' ρ' s1 a1/\VA M' ρ' s1.G v c/\PkOK M b cs s1.pk /\
  Steps P (lone (b.atR a (.inRegion ops (i::rest)::k)) (csM s.pk cs) w) (lone (b.atR (a1.put o.dst c) (.inRegion ops rest::k)) (csM s1.pk cs) w')
def OpP (P:Program) (nt:Nat) (b:Frame) (cs:List Frame) (k:List Item) (ops:Array Oper) (i:Nat) (rest:List Nat) (id:Nat) (Q0 Q:Nat->Prop) (w:World) (M:Mem) (ρ:Ref) (s:St) (a:Act) (v:IV) (s1:St):Prop:=
 ∃ x a1 todo Q' w' M' ρ',Tr (fun o=>o=id\/s.nx<=o) Q w M ρ s.G Q' w' M' ρ' s1.G/\s.nx<=s1.nx/\SR nt Q0 Q' w' M' ρ' s1 a1/\VI M' v x/\PkOK M b cs s1.pk /\
  Steps P (lone (b.atR a (.inRegion ops (i::rest)::k)) (csM s.pk cs) w) (lone { b.atR a1 todo with mode := .panicking [{ v:=x,recovered:=false }] } (csM s1.pk cs) w')
def OpRes (P:Program) (nt:Nat) (b:Frame) (cs:List Frame) (k:List Item) (ops:Array Oper) (i:Nat) (rest:List Nat) (o:Oper) (id:Nat) (Q0 Q:Nat->Prop) (w:World) (M:Mem) (ρ:Ref) (s:St) (a:Act):Ef->Prop
 | .val v ups=>OpN P nt b cs k ops i rest o id Q0 Q w M ρ s a v { s with G:=updL s.G ups }
 | .wr v s1=>OpN P nt b cs k ops i rest o id Q0 Q w M ρ s a v s1
 | .pan v s1=>OpP P nt b cs k ops i rest id Q0 Q w M ρ s a v s1
theorem SR.turn {nt:Nat} {s:St} {a:Act} {N:Nat->Prop} {G1:Nat->Obj} {n1:Nat} (h:SR nt Q0 Q w M ρ s a) (t:Tr N Q w M ρ s.G Q' w' M' ρ' G1) (hi:Inv Q' w' M' ρ' G1 n1):SR nt Q0 Q' w' M' ρ' { s with G:=G1,nx:=n1 } a:=
 ⟨hi,h.tmps.mono t.ev,h.size,fun b hb=>h.sub b (t.sub b hb),h.dfr.mono t⟩
section
variable {nt:Nat} {b:Frame} {cs:List Frame} {k:List Item} {ops:Array Oper} {i:Nat} {rest:List Nat} {o:Oper} {id:Nat} {s:St} {a:Act}
theorem opRes_of_call {ef:Ef} {m:List Frame->Machine} (ho:ops[i]? = some o) (hS:SR nt Q0 Q w M ρ s a) (hpk:PkOK M b cs s.pk)
  (hstep:step P (lone (b.atR a (.inRegion ops (i::rest)::k)) (csM s.pk cs) w) = .next (m (b.atR a (.inRegion ops (i::rest)::k)::csM s.pk cs)))
  (h:CallRes P id s m Q w M ρ (b.atR a (.inRegion ops (i::rest)::k)) (csM s.pk cs) ef):OpRes P nt b cs k ops i rest o id Q0 Q w M ρ s a ef:=by
 cases ef with
 |val v ups=>
  obtain ⟨Q',w',M',ρ',cv,t,hi,hst,hv⟩:=h
  rw [finR ho] at hst
  exact ⟨cv,a,Q',w',M',ρ',t,Nat.le_refl _,rfl,hS.turn t hi,hv,hpk, .head hstep hst⟩
 |wr v s1=>
  obtain ⟨e,hn,Q',w',M',ρ',cv,t,hi,hst,hv⟩:=h
  rw [finR ho] at hst
  have hS1:=hS.turn t hi
  rw [<-e] at hS1
  have epk:s1.pk=s.pk:=by rw [e]
  refine ⟨cv,a,Q',w',M',ρ',t,hn,by rw [e],hS1,hv,by rw [epk];exact hpk,by rw [epk];exact .head hstep hst⟩
 |pan v s1=>
  obtain ⟨e,hn,Q',w',M',ρ',x,t,hi,hst,hv⟩:=h
  rw [Frame.raise_atR] at hst
  have hS1:=hS.turn t hi
  rw [<-e] at hS1
  have epk:s1.pk=s.pk:=by rw [e]
  exact ⟨x,a,_,Q',w',M',ρ',t,hn,hS1,hv,by rw [epk];exact hpk,by rw [epk];exact .head hstep hst⟩
theorem aCall_ok (hC:CfgOK C) (hL:CallOK C.P L) (hR:RoundOK C.P L) {g:AV} {args:List AV} {ef:Ef} (h:aCall C L id s g args=some ef) {gc:Value} {vs:Array Value} {c:Frame} (hI:Inv Q w M ρ s.G s.nx) (hid:ρ id=none) (hlt:id < s.nx)
  (hg:VA M ρ s.G g gc) (hv:VL (VA M ρ s.G) args vs):∃ fn cap,gc = .func fn #[] cap/\∃ m:List Frame->Machine,CallRes C.P id s m Q w M ρ c cs ef /\
   ((∃ f args',(invoke (.fn fn cap) vs).run C.P w = .ok (.enter f args') w/\m=fun cs=>lone (Frame.enter C.P f args' .normal) cs w) \/
    (∃ l f tmps x y,(invoke (.fn fn cap) vs).run C.P w = .ok (.round l f tmps x y) w/\m=fun cs=>lone (Frame.round l f tmps x y .normal) cs w)):=by
 unfold aCall at h
 split at h
 ·rename_i q
  have:∃ l,gc = .func (.yield l) #[] #[]/\ρ q=some (.func (.yield l) #[] #[]):=by
   cases hg with|yld _ l hq=>exact ⟨l,rfl,hq⟩
  obtain ⟨l,rfl,hq⟩:=this
  split at h
  ·rename_i v G2 n2 pk2 hcall
   cases h
   obtain ⟨f,tmps,x,y,h1,h2⟩:=hR _ _ _ _ _ _ hcall Q w M ρ vs l hI hv hq
   obtain ⟨Q',w',M',ρ',t,i',n',cv,st,hcv⟩:=h2 c cs
   exact ⟨_,_,rfl,_,⟨rfl,n',Q',w',M',ρ',cv,t.weak (fun _ => .inr),i',st,hcv⟩, .inr ⟨l,f,tmps,x,y,h1,rfl⟩⟩
  ·rename_i v G2 n2 pk2 hcall
   cases h
   obtain ⟨f,tmps,x,y,h1,h2⟩:=hR _ _ _ _ _ _ hcall Q w M ρ vs l hI hv hq
   obtain ⟨Q',w',M',ρ',t,i',n',x',st,hx⟩:=h2 c cs
   exact ⟨_,_,rfl,_,⟨rfl,n',Q',w',M',ρ',x',t.weak (fun _ => .inr),i',st,hx⟩, .inr ⟨l,f,tmps,x,y,h1,rfl⟩⟩
  ·cases h
 ·split at h
  ·rename_i kf cap hf
   obtain ⟨cv,rfl,hcap⟩:=fnOf_ok hf hg
   obtain ⟨h1,h2⟩:=callA_ok hC hL h (vs:=vs++cv) (c:=c) (cs:=cs) hI hid hlt (VL_append hv hcap)
   exact ⟨_,_,rfl,_,h2, .inl ⟨kf,vs++cv,by simp [invoke,run_callFunc hC h1],rfl⟩⟩
  ·cases h
theorem op_ok (hC:CfgOK C) (hL:CallOK C.P L) (hR:RoundOK C.P L) {ef:Ef} (h:opA C L id s o.op=some ef) (ho:ops[i]? = some o) (hw:Region.wanted o (yielded ops a.tmps)=true) (hS:SR nt Q0 Q w M ρ s a) (hpk:PkOK M b cs s.pk)
  (hid:ρ id=none) (hlt:id < s.nx):OpRes C.P nt b cs k ops i rest o id Q0 Q w M ρ s a ef:=by
 by_cases hs:simple o.op=true
 ·obtain ⟨v,ups,rfl⟩:=opA_val hs h
  obtain ⟨nxt,c,w',M',ρ',hr,hn,he,hi,hv,hws,hmq,hb⟩:=opA_simple (w:=w) hs h hS.inv hid hlt hS.tmps
  have t:Tr (fun o=>o=id\/s.nx<=o) Q w M ρ s.G Q w' M' ρ' (updL s.G ups):=⟨fun _ h=>h,he,hws,hmq,fun o ho hr=>hb o (fun e=>ho (.inl e)) hr⟩
  have hd:∀ c,o.op ≠ .defer c:=fun c e=>by rw [e] at hs;simp [simple] at hs
  exact ⟨c,a,Q,w',M',ρ',t,Nat.le_refl _,rfl,hS.turn t hi,hv,hpk, .one (step_value ho hw hd hr hn)⟩
 ·obtain ⟨dst,op,ty,pos,aft,gd⟩:=o
  simp only at hs h
  have trefl:Tr (fun o=>o=id\/s.nx<=o) Q w M ρ s.G Q w M ρ s.G:=Tr.refl _ _ _ _ _ _
  unfold opA at h
  cases op with
  |panic x=>
   simp only at h
   split at h
   ·rename_i t v hx
    cases h
    have hv:=hS.tmps.ev x
    rw [hx] at hv
    have hv:=hv.imm_inv
    have hcv:∃ cv,evV a.tmps x = .iface t cv:=by
     generalize evV a.tmps x=z at hv
     cases hv;exact ⟨_,rfl⟩
    obtain ⟨cv,hcv⟩:=hcv
    refine ⟨_,a,_,Q,w,M,ρ,trefl,Nat.le_refl _,hS,hv,hpk, .one (step_panic ho hw (by simp) ?_)⟩
    simp [execOp,hcv,Instr.panic,goPanic]
   ·cases h
  |defer c=>
   simp only at h
   split at h
   ·cases h
   ·rename_i f hcal hnr
    split at h
    rotate_left
    ·cases h
    rename_i fc hfn
    cases h
    have hro:b.roundOf=none:=by
     cases e:s.pk with
     |no=>rw [e] at hpk;exact hpk.2
     |rnd=>exact absurd e hnr
     |dfr m r=>rw [e] at hpk;cases m with
      |none=>exact hpk.2.1
      |some v=>exact hpk.2.1
    obtain ⟨fk,cap⟩:=fc
    obtain ⟨cv,hcv,_⟩:=fnOf_ok hfn (hS.tmps.ev f)
    have hex:(execOp (evV a.tmps) ⟨dst, .defer c,ty,pos,aft,gd⟩).run C.P w = .ok (.defer { target := .fn fk cv,args:=c.args.map (evV a.tmps) }) w:=by
     simp [execOp,resolve,hcal,hcv,Deferred.ofValue]
    refine ⟨Go.undef,{ a with defers:={ target := .fn fk cv,args:=c.args.map (evV a.tmps) }::a.defers },Q,w,M,ρ,trefl,Nat.le_refl _,rfl,⟨hS.inv,hS.tmps,hS.size,hS.sub,?_⟩, .undef _,hpk, .one (step_deferOp hro ho hw hex)⟩
    exact .cons fk cv rfl (by rw [<-hcv];exact hS.tmps.ev f) (vl_ok hS.tmps c.args) hS.dfr
   ·cases h
  |call c=>
   obtain ⟨callee,args,ats⟩:=c
   cases callee with
   |builtin bb=>
    have hbb:bb = .recover:=by cases bb<;>simp [simple] at hs<;>rfl
    subst hbb
    have hex:(execOp (evV a.tmps) ⟨dst, .call ⟨.builtin .recover,args,ats⟩,ty,pos,aft,gd⟩).run C.P w = .ok .recover w:=by
     simp [execOp,resolve,invoke,builtin]
    simp only at h
    unfold aBuiltin at h
    simp only at h
    split at h
    ·rename_i v hp
     cases h
     rw [hp] at hpk
     obtain ⟨h1,h2,c,rest',x,rfl,h4,h5⟩:=hpk
     refine ⟨x,a,Q,w,M,ρ,trefl,Nat.le_refl _,rfl,⟨hS.inv,hS.tmps,hS.size,hS.sub,hS.dfr⟩, .imm _ _ h5,⟨h1,h2,c,rest',x,rfl,h4,h5⟩, .one ?_⟩
     have hst:=step_recoverOp (P:=C.P) (w:=w) (cr:=rest') (k:=k) (rest:=rest) h2 h1 h4 ho hw (by simp) hex
     have e1:csM s.pk (c::rest')=c::rest':=by rw [hp];rfl
     have e2:csM (.dfr (some v) true) (c::rest')={ c with mode := .panicking [{ v:=x,recovered:=true }] }::rest':=by simp [csM,h4]
     rw [e1,e2]
     exact hst
    ·rename_i r hp
     cases h
     have hpk0:=hpk
     rw [hp] at hpk
     obtain ⟨h1,h2,c,rest',rfl,h4⟩:=hpk
     refine ⟨.nilIface,a,Q,w,M,ρ,trefl,Nat.le_refl _,rfl,⟨hS.inv,hS.tmps,hS.size,hS.sub,hS.dfr⟩, .imm _ _ .niliface,hpk0, .one ?_⟩
     have e1:csM s.pk (c::rest')=c::rest':=by rw [hp];rfl
     rw [e1]
     exact step_recoverNil h2 h1 h4 ho hw (by simp) hex
    ·cases h
   |value f=>
    simp only at h
    have hvs:=vl_ok hS.tmps args
    obtain ⟨fn,cap,hgc,m,hres,hinv⟩:=aCall_ok hC hL hR (c:=b.atR a (.inRegion ops (i::rest)::k)) (cs:=csM s.pk cs) h hS.inv hid hlt (hS.tmps.ev f) hvs
    have hex:∀ nxt,(invoke (.fn fn cap) (args.map (evV a.tmps))).run C.P w = .ok nxt w->(execOp (evV a.tmps) ⟨dst, .call ⟨.value f,args,ats⟩,ty,pos,aft,gd⟩).run C.P w = .ok nxt w:=by
     intro nxt hn
     simp [execOp,resolve,hgc,Deferred.ofValue,hn]
    refine opRes_of_call ho hS hpk ?_ hres
    rcases hinv with ⟨f',args',h1,rfl⟩|⟨l,f',tmps,x,y,h1,rfl⟩
    ·exact step_enter ho hw (by simp) (hex _ h1)
    ·exact step_round ho hw (by simp) (hex _ h1)
   |_=>simp at h
  |_=>simp [simple] at hs
end
end Go.Abs

/- The abstract interpreter: a region's operations, one behind the other. -/
namespace Go.Abs
variable {M M' M'':Mem} {ρ ρ' ρ'':Ref} {G G' G'':Nat->Obj} {w w' w'':World} {nx nx':Nat} {Q Q' Q'' Q0:Nat->Prop} {P:Program} {C:Cfg} {L:Low}
variable {nt:Nat} {b:Frame} {cs:List Frame} {k:List Item} {ops:Array Oper} {i:Nat} {rest:List Nat} {o:Oper} {id:Nat} {s s':St} {a:Act}
theorem getD_some {arr:Array Value} {d:Nat} {v:Value} (h:arr.getD d Go.undef=v) (hv:v≠Go.undef):arr[d]? = some v:=by
 rw [Array.getD_eq_getD_getElem?] at h
 cases e:arr[d]? with
 |none=>rw [e] at h;exact absurd h.symm hv
 |some u=>rw [e] at h;simpa using h
theorem wantA_ok {t:Bool} (h:wantA ops s.tmps o=some t) (hT:TR M ρ G s.tmps a.tmps):Region.wanted o (yielded ops a.tmps)=t:=by
 unfold wantA at h
 unfold Region.wanted
 cases hg:o.guard with
 |none=>rw [hg] at h;simp at h;simp [h]
 |some p=>
  obtain ⟨j,want⟩:=p
  rw [hg] at h
  simp only at h ⊢
  unfold yielded
  cases hd:(ops[j]?).bind (·.dst) with
  |none=>rw [hd] at h;simp at h;subst h;rfl
  |some d=>
   rw [hd] at h
   simp only [Option.bind_some] at h ⊢
   have hv:=hT d
   split at h
   ·rename_i bb hb
    rw [hb] at hv
    have:=hv.bool_inv
    rw [getD_some this (by simp [Go.undef])]
    simp only [Option.some.injEq] at h
    subst h
    simp only
    cases bb<;>cases want<;>rfl
   ·rename_i hb
    rw [hb] at hv
    have hv:=hv.imm_inv
    simp only [Option.some.injEq] at h
    subst h
    generalize hz:a.tmps.getD d Go.undef=z at hv
    cases hv with
    |tup _ vs hl _=>
     have hne:∀ bb,a.tmps[d]? ≠ some (.bool bb):=fun bb e=>by
      rw [Array.getD_eq_getD_getElem?,e] at hz;simp at hz
     cases e:a.tmps[d]? with
     |none=>rfl
     |some z'=>
      cases z' with
      |bool bb=>exact absurd e (hne bb)
      |_=>rfl
   ·cases h
theorem SR.put {dst:Option Nat} {v:AV} {c:Value} (h:SR nt Q0 Q w M ρ s a) (hp:put nt s dst v=some s') (hv:VA M ρ s.G v c) :
  SR nt Q0 Q w M ρ s' (a.put dst c)/\s'.G=s.G/\s'.nx=s.nx/\s'.pk=s.pk/\s'.defers=s.defers:=by
 unfold Go.Abs.put at hp
 cases dst with
 |none=>cases hp;exact ⟨h,rfl,rfl,rfl,rfl⟩
 |some d=>
  simp only at hp
  split at hp
  ·rename_i hd
   cases hp
   refine ⟨⟨h.inv,fun t=>?_,by simpa [Act.put] using h.size,h.sub,h.dfr⟩,rfl,rfl,rfl,rfl⟩
   have hlt:d < a.tmps.size:=by rw [h.size];exact hd
   simp only [upd,Act.put]
   by_cases ht:t=d
   ·subst ht
    simp [Array.getD_eq_getD_getElem?,hlt]
    exact hv
   ·rw [if_neg ht]
    have:=h.tmps t
    rw [Array.getD_eq_getD_getElem?] at this ⊢
    rw [Array.getElem?_setIfInBounds_ne (Ne.symm ht)]
    exact this
  ·cases hp
structure Goes (nt:Nat) (b:Frame) (cs:List Frame) (Q0:Nat->Prop) (N:Nat->Prop) (Q:Nat->Prop) (w:World) (M:Mem) (ρ:Ref) (G0:Nat->Obj) (nx0:Nat) (s':St) (a':Act) (Q':Nat->Prop) (w':World) (M':Mem) (ρ':Ref):Prop where
 tr:Tr N Q w M ρ G0 Q' w' M' ρ' s'.G
 nx:nx0<=s'.nx
 sr:SR nt Q0 Q' w' M' ρ' s' a'
 pk:PkOK M' b cs s'.pk
theorem Goes.after {N N1 N2:Nat->Prop} {G1:Nat->Obj} {n0 n1:Nat} {a':Act} (t:Tr N1 Q w M ρ G Q' w' M' ρ' G1) (hn:n0<=n1) (h:Goes nt b cs Q0 N2 Q' w' M' ρ' G1 n1 s' a' Q'' w'' M'' ρ'') (h1:∀ o,N1 o->N o) (h2:∀ o,N2 o->N o) :
  Goes nt b cs Q0 N Q w M ρ G n0 s' a' Q'' w'' M'' ρ'':=⟨t.trans h.tr h1 h2,Nat.le_trans hn h.nx,h.sr,h.pk⟩
def LineEnd (P:Program) (nt:Nat) (b:Frame) (cs:List Frame) (k:List Item) (Q0 N Q:Nat->Prop) (w:World) (M:Mem) (ρ:Ref) (G0:Nat->Obj) (nx0:Nat) (m:Machine):Out->Prop
 | .norm s'=>∃ a' Q' w' M' ρ',Goes nt b cs Q0 N Q w M ρ G0 nx0 s' a' Q' w' M' ρ'/\Steps P m (lone (b.atR a' k) (csM s'.pk cs) w')
 | .pan v s'=>∃ a' Q' w' M' ρ' todo x,Goes nt b cs Q0 N Q w M ρ G0 nx0 s' a' Q' w' M' ρ'/\VI M' v x/\Steps P m (lone { b.atR a' todo with mode := .panicking [{ v:=x,recovered:=false }] } (csM s'.pk cs) w')
 |_=>False
theorem LineEnd.after {N N1 N2:Nat->Prop} {G1:Nat->Obj} {n0 n1:Nat} {m m1:Machine} {out:Out} (t:Tr N1 Q w M ρ G Q' w' M' ρ' G1) (hn:n0<=n1) (hs:Steps P m m1) (h:LineEnd P nt b cs k Q0 N2 Q' w' M' ρ' G1 n1 m1 out) (h1:∀ o,N1 o->N o) (h2:∀ o,N2 o->N o) :
  LineEnd P nt b cs k Q0 N Q w M ρ G n0 m out:=by
 cases out with
 |norm s'=>obtain ⟨a',Q',w',M',ρ',g,st⟩:=h;exact ⟨a',Q',w',M',ρ',g.after t hn h1 h2,hs.trans st⟩
 |pan v s'=>obtain ⟨a',Q',w',M',ρ',todo,x,g,hx,st⟩:=h;exact ⟨a',Q',w',M',ρ',todo,x,g.after t hn h1 h2,hx,hs.trans st⟩
 |exit=>exact h
 |ret=>exact h
theorem stepA_ok (hC:CfgOK C) (hL:CallOK C.P L) (hR:RoundOK C.P L) {out:Out} (h:stepA C L nt ops id o s=some out) (ho:ops[i]? = some o) (hS:SR nt Q0 Q w M ρ s a) (hpk:PkOK M b cs s.pk) (hid:ρ id=none) (hlt:id < s.nx) :
  LineEnd C.P nt b cs (.inRegion ops rest::k) Q0 (fun o=>o=id\/s.nx<=o) Q w M ρ s.G s.nx (lone (b.atR a (.inRegion ops (i::rest)::k)) (csM s.pk cs) w) out:=by
 unfold stepA at h
 have fin:∀ v s1 s',OpN C.P nt b cs k ops i rest o id Q0 Q w M ρ s a v s1->Go.Abs.put nt s1 o.dst v=some s' ->
   LineEnd C.P nt b cs (.inRegion ops rest::k) Q0 (fun o=>o=id\/s.nx<=o) Q w M ρ s.G s.nx (lone (b.atR a (.inRegion ops (i::rest)::k)) (csM s.pk cs) w) (.norm s'):=by
  intro v s1 s' ⟨c,a1,Q',w',M',ρ',t,hn,ht,hS1,hv,hpk1,hst⟩ hp
  obtain ⟨hS2,e1,e2,e3,e4⟩:=hS1.put hp hv
  refine ⟨_,Q',w',M',ρ',⟨by rw [e1];exact t,by rw [e2];exact hn,hS2,by rw [e3];exact hpk1.mono t.ev.mem⟩,by rw [e3];exact hst⟩
 split at h
 ·rename_i hw
  have hw:=wantA_ok hw hS.tmps
  split at h
  ·rename_i v ups hop
   have:=op_ok (k:=k) (rest:=rest) hC hL hR hop ho hw hS hpk hid hlt
   split at h
   ·rename_i s' hp;cases h;exact fin v _ s' this hp
   ·cases h
  ·rename_i v s1 hop
   have:=op_ok (k:=k) (rest:=rest) hC hL hR hop ho hw hS hpk hid hlt
   split at h
   ·rename_i s' hp;cases h;exact fin v _ s' this hp
   ·cases h
  ·rename_i v s1 hop
   cases h
   obtain ⟨x,a1,todo,Q',w',M',ρ',t,hn,hS1,hx,hpk1,hst⟩:=op_ok (k:=k) (rest:=rest) hC hL hR hop ho hw hS hpk hid hlt
   exact ⟨a1,Q',w',M',ρ',todo,x,⟨t,hn,hS1,hpk1.mono t.ev.mem⟩,hx,hst⟩
  ·cases h
 ·rename_i hw
  have hw:=wantA_ok hw hS.tmps
  split at h
  ·rename_i s' hp
   cases h
   refine fin (.imm (.tup [])) s s' ⟨Go.undef,a,Q,w,M,ρ,Tr.refl _ _ _ _ _ _,Nat.le_refl _,rfl,hS,?_,hpk, .one ?_⟩ hp
   ·exact .imm _ _ (.tup [] #[] rfl fun i x hx=>by simp at hx)
   ·have:=stepR_op_skip (P:=C.P) (b:=b) (a:=a) (k:=k) (cs:=csM s.pk cs) (w:=w) (ops:=ops) (i:=i) (rest:=rest) (by simp [ho,hw])
    rw [this,ho];rfl
  ·cases h
 ·cases h
theorem runA_ok (hC:CfgOK C) (hL:CallOK C.P L) (hR:RoundOK C.P L) {base:Nat}:∀ (l:List Nat) {s:St} {a:Act} {Q:Nat->Prop} {w:World} {M:Mem} {ρ:Ref} {out:Out},runA C L nt ops base l s=some out->l.Nodup->(∀ i∈l,i < ops.size/\ρ (base+i)=none) ->
  base+ops.size<=s.nx->SR nt Q0 Q w M ρ s a->PkOK M b cs s.pk->LineEnd C.P nt b cs k Q0 (base <= ·) Q w M ρ s.G s.nx (lone (b.atR a (.inRegion ops l::k)) (csM s.pk cs) w) out
 |[],s,a,Q,w,M,ρ,out,h,hnd,hl,hn,hS,hpk=>by
  cases h
  exact ⟨a,Q,w,M,ρ,⟨Tr.refl _ _ _ _ _ _,Nat.le_refl _,hS,hpk⟩, .one stepR_region_end⟩
 |i::r,s,a,Q,w,M,ρ,out,h,hnd,hl,hn,hS,hpk=>by
  have hi:=hl i (by simp)
  have ho:ops[i]? = some ops[i]:=Array.getElem?_eq_getElem hi.1
  simp only [runA,ho] at h
  split at h
  ·rename_i s1 h1
   obtain ⟨a1,Q1,w1,M1,ρ1,g,st⟩:=stepA_ok (k:=k) (rest:=r) hC hL hR h1 ho hS hpk hi.2 (by omega)
   have hnd':=List.nodup_cons.1 hnd
   have:=runA_ok hC hL hR r h hnd'.2 (fun j hj=>⟨(hl j (by simp [hj])).1,g.tr.born _ (fun e=>by
    rcases e with e|e
    ·have:j=i:=by omega
     subst this;exact hnd'.1 hj
    ·have:=(hl j (by simp [hj])).1;omega) (hl j (by simp [hj])).2⟩) (Nat.le_trans hn g.nx) g.sr g.pk
   exact LineEnd.after g.tr g.nx st this (fun o e=>by rcases e with e|e<;>omega) (fun _ h=>h)
  ·rename_i x hx
   have:=stepA_ok (k:=k) (rest:=r) hC hL hR h ho hS hpk hi.2 (by omega)
   cases out with
   |norm s1=>exact absurd h (hx s1)
   |pan v s1=>
    obtain ⟨a',Q',w',M',ρ',todo,x,g,hx,st⟩:=this
    exact ⟨a',Q',w',M',ρ',todo,x,⟨g.tr.weak (fun o e=>by rcases e with e|e<;>omega),g.nx,g.sr,g.pk⟩,hx,st⟩
   |exit=>exact this
   |ret=>exact this
end Go.Abs

/- The abstract interpreter: what an operation depends on. -/
namespace Go.Abs
variable {G G':Nat->Obj} {C:Cfg} {L:Low}
def Same (G G':Nat->Obj) (l:List Nat):Prop:=∀ q∈l,(G q).freeze=(G' q).freeze
theorem Same.mono {l l':List Nat} (h:Same G G' l) (hs:∀ q∈l',q∈l):Same G G' l':=fun q hq=>h q (hs q hq)
theorem row_same {o:Nat} {et:TypeId} {sz:Nat} {xs:List AV} {fr:Bool} (h:(G o).freeze=(G' o).freeze) (e:G o = .row et sz xs fr):∃ fr',G' o = .row et sz xs fr':=by
 rw [e] at h
 cases e':G' o<;>rw [e'] at h<;>simp only [Obj.freeze,reduceCtorEq,Obj.row.injEq] at h
 obtain ⟨rfl,rfl,rfl,_⟩:=h
 exact ⟨_,rfl⟩
theorem box_same {o:Nat} {cs:List AV} {fr:Bool} (h:(G o).freeze=(G' o).freeze) (e:G o = .box cs fr):∃ fr',G' o = .box cs fr':=by
 rw [e] at h
 cases e':G' o<;>rw [e'] at h<;>simp only [Obj.freeze,reduceCtorEq,Obj.box.injEq] at h
 obtain ⟨rfl,_⟩:=h
 exact ⟨_,rfl⟩
theorem mp_same {o:Nat} {ks:List IV} {vs:List AV} {fr:Bool} (h:(G o).freeze=(G' o).freeze) (e:G o = .mp ks vs fr):∃ fr',G' o = .mp ks vs fr':=by
 rw [e] at h
 cases e':G' o<;>rw [e'] at h<;>simp only [Obj.freeze,reduceCtorEq,Obj.mp.injEq] at h
 obtain ⟨rfl,rfl,_⟩:=h
 exact ⟨_,rfl⟩
theorem it_same {o:Nat} {ks vs:List IV} {d:Bool} (h:(G o).freeze=(G' o).freeze) (e:G o = .it ks vs d):G' o = .it ks vs d:=by
 rw [e] at h
 cases e':G' o<;>rw [e'] at h<;>simp only [Obj.freeze,reduceCtorEq,Obj.it.injEq] at h
 obtain ⟨rfl,rfl,rfl⟩:=h
 rfl
theorem aNext_congr {s s':St} {a:AV} {b:Bool} {ef:Ef} (h:Same s.G s'.G (direct a)) (hr:aNext s a b=some ef):aNext s' a b=some ef:=by
 unfold aNext at hr ⊢
 split at hr
 ·rename_i q
  have h:=h q (by simp [direct])
  split at hr
  ·rename_i e;rw [it_same h e];exact hr
  ·rename_i ks vs _ e;rw [it_same h e]
   cases ks<;>exact hr
  ·rename_i e;rw [it_same h e];exact hr
  ·cases hr
 ·cases hr
theorem aEntry_congr {a:AV} {ef:Ef} (h:Same G G' (direct a)) (hr:aEntry G a=some ef):aEntry G' a=some ef:=by
 unfold aEntry at hr ⊢
 split at hr
 ·rename_i q
  have h:=h q (by simp [direct])
  split at hr
  ·rename_i e;rw [it_same h e];exact hr
  ·cases hr
 ·cases hr
theorem readAt_congr {n:Nat} {a:AV} {r:List AV} (h:Same G G' (direct a)) (hr:readAt G n a=some r):readAt G' n a=some r:=by
 unfold readAt at hr ⊢
 cases a with
 |ptr o off=>
  have h:=h o (by simp [direct])
  simp only at hr ⊢
  split at hr
  ·rename_i cs fr e;obtain ⟨fr',e'⟩:=box_same h e;rw [e'];exact hr
  ·cases hr
 |rptr o m i off=>
  have h:=h o (by simp [direct])
  simp only at hr ⊢
  split at hr
  ·rename_i et sz xs fr e;obtain ⟨fr',e'⟩:=row_same h e;rw [e'];exact hr
  ·cases hr
 |imm v=>cases v<;>exact hr
 |_=>exact hr
theorem elems_congr {a:AV} {r:List AV} (h:Same G G' (direct a)) (hr:elems G a=some r):elems G' a=some r:=by
 unfold elems at hr ⊢
 cases a with
 |row o n=>
  have h:=h o (by simp [direct])
  simp only at hr ⊢
  split at hr
  ·rename_i et sz xs fr e;obtain ⟨fr',e'⟩:=row_same h e;rw [e'];exact hr
  ·cases hr
 |imm v=>cases v<;>exact hr
 |_=>exact hr
theorem elemAddr_congr {sz n:Nat} {a r:AV} (h:Same G G' (direct a)) (hr:elemAddr G sz a n=some r):elemAddr G' sz a n=some r:=by
 unfold elemAddr at hr ⊢
 cases a with
 |row o m=>
  have h:=h o (by simp [direct])
  simp only at hr ⊢
  split at hr
  ·rename_i et sz xs fr e;obtain ⟨fr',e'⟩:=row_same h e;rw [e'];exact hr
  ·cases hr
 |imm v=>cases v<;>exact hr
 |_=>exact hr
theorem lenA_congr {d:TyD} {a:AV} {n:Nat} (h:Same G G' (direct a)) (hr:lenA G d a=some n):lenA G' d a=some n:=by
 unfold lenA at hr ⊢
 cases d with
 |sl t=>
  simp only at hr ⊢
  split at hr
  ·rename_i l e;rw [elems_congr h e];exact hr
  ·cases hr
 |mp k e=>
  cases a with
  |map o=>
   have h:=h o (by simp [direct])
   simp only at hr ⊢
   split at hr
   ·rename_i ks vs fr e;obtain ⟨fr',e'⟩:=mp_same h e;rw [e'];exact hr
   ·cases hr
  |imm v=>cases v<;>exact hr
  |_=>exact hr
 |_=>exact hr
theorem mapKV_congr {a:AV} {r:List IV×List AV} (h:Same G G' (direct a)) (hr:mapKV G a=some r):mapKV G' a=some r:=by
 unfold mapKV at hr ⊢
 cases a with
 |map o=>
  have h:=h o (by simp [direct])
  simp only at hr ⊢
  split at hr
  ·rename_i ks vs fr e;obtain ⟨fr',e'⟩:=mp_same h e;rw [e'];exact hr
  ·cases hr
 |imm v=>cases v<;>exact hr
 |_=>exact hr
theorem peekL_congr {f g:AV->Option (IV×List Nat)}:∀ {l:List AV} {r:List IV×List Nat},(∀ x∈l,∀ z,f x=some z->g x=some z)->peekL f l=some r->peekL g l=some r
 |[],r,_,h=>h
 |x::l,r,hfg,h=>by
  simp only [peekL] at h ⊢
  split at h
  ·rename_i y i hy
   split at h
   ·rename_i ys ids hys
    rw [hfg x (by simp) _ hy,peekL_congr (fun z hz=>hfg z (by simp [hz])) hys]
    exact h
   ·cases h
  ·cases h
theorem peek_congr:∀ (k:Nat) (a:AV) (r:IV×List Nat),Same G G' (touch G k a)->peek G k a=some r->peek G' k a=some r:=by
 intro k
 induction k with
 |zero=>intro a r _ h;cases a<;>simp only [peek,reduceCtorEq] at h ⊢ <;> exact h
 |succ k ih=>
  intro a r hs h
  have list:∀ (l:List AV) (z:List IV×List Nat),Same G G' (l.flatMap (touch G k))->peekL (peek G k) l=some z->peekL (peek G' k) l=some z:=fun l z hl hz=>
   peekL_congr (fun x hx z hz=>ih x z (hl.mono fun q hq=>List.mem_flatMap.2 ⟨x,hx,hq⟩) hz) hz
  cases a with
  |row o n=>
   simp only [peek] at h ⊢
   simp only [touch] at hs
   split at h
   ·rename_i et sz xs fr e
    obtain ⟨fr',e'⟩:=row_same (hs o (by simp)) e
    rw [e'] at *
    rw [e] at hs
    split at h
    ·rename_i hn
     simp only [hn,if_true]
     split at h
     ·rename_i l ids hl
      rw [list _ _ (hs.mono fun q hq=>by simp [hq]) hl]
      exact h
     ·cases h
    ·cases h
   ·cases h
  |map o=>
   simp only [peek] at h ⊢
   simp only [touch] at hs
   split at h
   ·rename_i ks vs fr e
    obtain ⟨fr',e'⟩:=mp_same (hs o (by simp)) e
    rw [e'] at *
    rw [e] at hs
    split at h
    ·rename_i l ids hl
     simp only [list _ _ (hs.mono fun q hq=>by simp [hq]) hl]
     exact h
    ·cases h
   ·cases h
  |ptr o off=>
   simp only [peek] at h ⊢
   simp only [touch] at hs
   split at h
   ·rename_i cs fr e
    obtain ⟨fr',e'⟩:=box_same (hs o (by simp)) e
    rw [e'] at *
    rw [e] at hs
    split at h
    ·rename_i l ids hl
     simp only [list _ _ (hs.mono fun q hq=>by simp [hq]) hl]
     exact h
    ·cases h
   ·cases h
  |fn f cap=>
   simp only [peek] at h ⊢
   split at h
   ·rename_i l ids hl;rw [list _ _ hs hl];exact h
   ·cases h
  |agg cs=>
   simp only [peek] at h ⊢
   split at h
   ·rename_i l ids hl;rw [list _ _ hs hl];exact h
   ·cases h
  |tup cs=>
   simp only [peek] at h ⊢
   split at h
   ·rename_i l ids hl;rw [list _ _ hs hl];exact h
   ·cases h
  |_=>simp only [peek,reduceCtorEq] at h ⊢ <;> exact h
theorem touch_congr:∀ (k:Nat) (a:AV),Same G G' (touch G k a)->touch G' k a=touch G k a:=by
 intro k
 induction k with
 |zero=>intro a _;cases a<;>rfl
 |succ k ih=>
  intro a hs
  have list:∀ (l:List AV),Same G G' (l.flatMap (touch G k))->l.flatMap (touch G' k)=l.flatMap (touch G k):=fun l=>by
   induction l with
   |nil=>intro _;rfl
   |cons x l ihl=>
    intro hl
    simp only [List.flatMap_cons] at hl ⊢
    rw [ih x (hl.mono fun q hq=>by simp [hq]),ihl (hl.mono fun q hq=>List.mem_append_right _ hq)]
  cases a with
  |row o n=>
   simp only [touch] at hs ⊢
   have h0:=hs o (by simp)
   cases e:G o with
   |row et sz xs fr=>
    obtain ⟨fr',e'⟩:=row_same h0 e
    rw [e'] at *;rw [e] at hs
    simp only [list xs (hs.mono fun q hq=>by simp [hq])]
   |_=>rw [e] at h0;cases e':G' o<;>rw [e'] at h0<;>simp [Obj.freeze] at h0<;>rfl
  |rptr o n i off=>
   simp only [touch] at hs ⊢
   have h0:=hs o (by simp)
   cases e:G o with
   |row et sz xs fr=>
    obtain ⟨fr',e'⟩:=row_same h0 e
    rw [e'] at *;rw [e] at hs
    simp only [list xs (hs.mono fun q hq=>by simp [hq])]
   |_=>rw [e] at h0;cases e':G' o<;>rw [e'] at h0<;>simp [Obj.freeze] at h0<;>rfl
  |map o=>
   simp only [touch] at hs ⊢
   have h0:=hs o (by simp)
   cases e:G o with
   |mp ks vs fr=>
    obtain ⟨fr',e'⟩:=mp_same h0 e
    rw [e'] at *;rw [e] at hs
    simp only [list vs (hs.mono fun q hq=>by simp [hq])]
   |_=>rw [e] at h0;cases e':G' o<;>rw [e'] at h0<;>simp [Obj.freeze] at h0<;>rfl
  |ptr o off=>
   simp only [touch] at hs ⊢
   have h0:=hs o (by simp)
   cases e:G o with
   |box cs fr=>
    obtain ⟨fr',e'⟩:=box_same h0 e
    rw [e'] at *;rw [e] at hs
    simp only [list cs (hs.mono fun q hq=>by simp [hq])]
   |_=>rw [e] at h0;cases e':G' o<;>rw [e'] at h0<;>simp [Obj.freeze] at h0<;>rfl
  |fn f cs=>exact list cs hs
  |agg cs=>exact list cs hs
  |tup cs=>exact list cs hs
  |_=>rfl
/-! ### operations -/
variable {id:Nat} {s s':St} {v:AV} {ups:List (Nat×U)}
theorem aLoad_congr {t:TypeId} {a:AV} {ef:Ef} (h:Same G G' (direct a)) (hr:aLoad C G t a=some ef):aLoad C G' t a=some ef:=by
 unfold aLoad at hr ⊢
 split at hr
 ·split at hr
  ·rename_i cs e;rw [readAt_congr h e];exact hr
  ·cases hr
 ·cases hr
theorem aConvert_congr {a b:TypeId} {x:AV} {ef:Ef} (h:Same G G' (direct x)) (hr:aConvert C G a b x=some ef):aConvert C G' a b x=some ef:=by
 unfold aConvert at hr ⊢
 split at hr
 ·rename_i i j hi hj
  split at hr
  ·exact hr
  ·exact hr
  ·rename_i hd hne
   split at hr
   ·split at hr
    ·split at hr
     ·rename_i k2 xs e1 e2
      rw [elems_congr h e2]
      simp only [e1]
      exact hr
     ·cases hr
    ·cases hr
   ·cases hr
  ·cases hr
 ·cases hr
theorem aIndexAddr_congr {t:TypeId} {x ix:AV} {ef:Ef} (h:Same G G' (direct x)) (hr:aIndexAddr C G t x ix=some ef):aIndexAddr C G' t x ix=some ef:=by
 unfold aIndexAddr at hr ⊢
 split at hr
 ·split at hr
  ·split at hr
   ·split at hr
    ·rename_i hn
     rw [if_pos hn]
     split at hr
     ·rename_i z e;rw [elemAddr_congr h e];exact hr
     ·cases hr
    ·cases hr
   ·cases hr
  ·exact hr
  ·cases hr
 ·cases hr
theorem lookA_congr {t:TypeId} {m k:AV} {ok:Bool} {ef:Ef} (h:Same G G' (direct m)) (hr:lookA C t G m k ok=some ef):lookA C t G' m k ok=some ef:=by
 unfold lookA at hr ⊢
 split at hr
 ·split at hr
  ·split at hr
   ·rename_i e1 e2 e3;rw [mapKV_congr h e2,e3];exact hr
   ·cases hr
  ·cases hr
 ·cases hr
theorem aStore_congr {t:TypeId} {a x:AV} (hr:aStore C s t a x=some (.val v ups)) (hw:∀ q∈wrOf ups,s'.G q=s.G q):aStore C s' t a x=some (.val v ups):=by
 unfold aStore at hr ⊢
 split at hr
 ·split at hr
  ·rename_i hf
   rw [if_pos hf]
   split at hr
   ·rename_i q off
    split at hr
    ·rename_i old e
     split at hr
     ·rename_i hb
      have hq:s'.G q=s.G q:=hw q (by cases hr;simp [wrOf])
      rw [hq,e]
      simp only [hb,if_true]
      exact hr
     ·cases hr
    ·cases hr
   ·rename_i q n j off
    split at hr
    ·rename_i et sz xs e
     split at hr
     ·rename_i y hy
      split at hr
      ·rename_i hb
       have hq:s'.G q=s.G q:=hw q (by cases hr;simp [wrOf])
       rw [hq,e]
       simp only [hy,hb,and_self,if_true]
       exact hr
      ·cases hr
     ·cases hr
    ·cases hr
   ·cases hr
  ·cases hr
 ·cases hr
theorem aMapUpdate_congr {t:TypeId} {m k x:AV} (hr:aMapUpdate C s t m k x=some (.val v ups)) (hw:∀ q∈wrOf ups,s'.G q=s.G q):aMapUpdate C s' t m k x=some (.val v ups):=by
 unfold aMapUpdate at hr ⊢
 split at hr
 ·rename_i i q key hi
  split at hr
  ·rename_i kt e ks vs hd hG
   have hq:s'.G q=s.G q:=hw q (by
    (repeat' split at hr)<;>first|(cases hr;simp [wrOf])|cases hr)
   rw [hq,hG,hd]
   exact hr
  ·cases hr
 ·cases hr
theorem aSlice_congr {t:TypeId} {x:AV} {lo hi:Option AV} {ef:Ef} (h:Same s.G s'.G (touch s.G pkDepth x)) (hr:aSlice C s t x lo hi=some ef):aSlice C s' t x lo hi=some ef:=by
 unfold aSlice at hr ⊢
 split at hr
 ·split at hr
  ·exact hr
  ·split at hr
   ·rename_i e1 e2;rw [peek_congr _ _ _ h e1,e2];exact hr
   ·cases hr
  ·cases hr
 ·cases hr
theorem aAppend_congr {t u:TypeId} {a x:AV} (h:Same s.G s'.G (direct x)) (hr:aAppend C s id t u a x=some (.val v ups)) (hw:∀ q∈wrOf ups,s'.G q=s.G q):aAppend C s' id t u a x=some (.val v ups):=by
 unfold aAppend at hr ⊢
 split at hr
 ·rename_i k ys hk hys
  rw [elems_congr h hys,hk]
  dsimp only
  split at hr
  ·rename_i et hd
   try simp only [hd]
   split at hr
   ·rename_i i hi
    try simp only [hi]
    split at hr
    ·rename_i hc
     rw [if_pos hc]
     split at hr
     ·exact hr
     ·rename_i q n
      split at hr
      ·rename_i et' sz xs e
       split at hr
       ·rename_i hb
        have hq:s'.G q=s.G q:=hw q (by cases hr;simp [wrOf])
        simp only [hq,e]
        rw [if_pos hb]
        exact hr
       ·cases hr
      ·cases hr
     ·cases hr
    ·cases hr
   ·cases hr
  ·cases hr
 ·cases hr
theorem aBuiltin_congr {b:Builtin} {tys:List TypeId} {args:List AV} (hrec:s'.pk=s.pk) (h:Same s.G s'.G (args.flatMap direct)) (hr:aBuiltin C s id b tys args=some (.val v ups)) (hw:∀ q∈wrOf ups,s'.G q=s.G q) :
  aBuiltin C s' id b tys args=some (.val v ups):=by
 unfold aBuiltin at hr ⊢
 split at hr
 ·split at hr
  ·split at hr
   ·split at hr
    ·rename_i n e;rw [lenA_congr (h.mono fun q hq=>by simp [hq]) e];exact hr
    ·cases hr
   ·cases hr
  ·cases hr
 ·exact hr
 ·exact hr
 ·split at hr
  ·exact aAppend_congr (h.mono fun q hq=>by simp [hq]) hr hw
  ·cases hr
 ·rw [hrec]
  split at hr
  ·cases hr
  ·exact hr
  ·cases hr
 ·cases hr
theorem callA_congr {f:FuncId} {args:List AV} (h:Same s.G s'.G (args.flatMap (touch s.G pkDepth))) (hr:callA C L id s f args=some (.val v ups)):callA C L id s' f args=some (.val v ups):=by
 unfold callA at hr ⊢
 split at hr
 ·split at hr<;>cases hr
 ·rename_i hb
  rw [if_neg hb]
  split at hr
  ·cases hr
  ·rename_i ivs ids hp
   have:peeks s'.G args=some (ivs,ids):=peekL_congr (fun x hx z hz=>peek_congr _ _ _ (h.mono fun q hq=>List.mem_flatMap.2 ⟨x,hx,hq⟩) hz) hp
   rw [this]
   dsimp only
   split at hr
   ·exact hr
   ·exact hr
   ·split at hr
    ·exact hr
    ·split at hr<;>cases hr
    ·cases hr
theorem opA_congr {o:Op} (h:opA C L id s o=some (.val v ups)) (hev:∀ x∈o.operands,ev s'.tmps x=ev s.tmps x) (hrd:Same s.G s'.G (readsOf s o)) (hwr:∀ q∈wrOf ups,s'.G q=s.G q) (hpk:s'.pk=s.pk) :
  opA C L id s' o=some (.val v ups):=by
 have parts:∀ ps:Array (Nat×Operand),(∀ x∈(ps.toList.map (·.2)).toArray,ev s'.tmps x=ev s.tmps x)->(ps.toList.map fun p=>(p.1,ev s'.tmps p.2))=ps.toList.map fun p=>(p.1,ev s.tmps p.2):=fun ps hps=>
  List.map_congr_left fun p hp=>by rw [hps p.2 (by simpa using ⟨p.1,by simpa using hp⟩)]
 have one:∀ a:AV,Same s.G s'.G ([a].flatMap direct)->Same s.G s'.G (direct a):=fun a h=>h.mono fun q hq=>by simp [hq]
 unfold opA at h ⊢
 cases o<;>simp only [Op.operands,Call.operands] at hev
 case move x=>simp only at h ⊢;rw [hev x (by simp)];exact h
 case assign x=>simp only at h ⊢;rw [hev x (by simp)];exact h
 case pick c a b=>simp only at h ⊢;rw [hev c (by simp),hev a (by simp),hev b (by simp)];exact h
 case alloc t=>exact h
 case box t x=>simp only at h ⊢;rw [hev x (by simp)];exact h
 case build t ps=>simp only at h ⊢;rw [parts ps hev];exact h
 case buildSlice t n ps=>simp only at h ⊢;rw [parts ps hev];exact h
 case makeSlice t l c=>simp only at h ⊢;rw [hev l (by simp),hev c (by simp)];exact h
 case load t a=>simp only at h ⊢;rw [hev a (by simp)];exact aLoad_congr (hrd.mono fun q hq=>by simpa [readsOf,pureOp,Op.operands] using hq) h
 case store t a x=>simp only at h ⊢;rw [hev a (by simp),hev x (by simp)];exact aStore_congr h hwr
 case nilCheck x=>simp only at h ⊢;rw [hev x (by simp)];exact h
 case binOp op t x y z=>simp only at h ⊢;rw [hev x (by simp),hev y (by simp)];exact h
 case unOp op t x=>simp only at h ⊢;rw [hev x (by simp)];exact h
 case convert a b x=>simp only at h ⊢;rw [hev x (by simp)];exact aConvert_congr (hrd.mono fun q hq=>by simpa [readsOf,pureOp,Op.operands] using hq) h
 case makeInterface t x=>simp only at h ⊢;rw [hev x (by simp)];exact h
 case makeFunc f first cap=>
  simp only at h ⊢
  rw [List.map_congr_left fun x hx=>hev x (by simp;right;simpa using hx)]
  exact h
 case makeMap t r=>cases r<;>exact h
 case fieldAddr t x f=>simp only at h ⊢;rw [hev x (by simp)];exact h
 case indexAddr t x ix=>
  simp only at h ⊢;rw [hev x (by simp),hev ix (by simp)]
  exact aIndexAddr_congr (hrd.mono fun q hq=>by simp [readsOf,pureOp,Op.operands];exact .inl hq) h
 case index t x ix=>simp only at h ⊢;rw [hev x (by simp),hev ix (by simp)];exact h
 case lookup t m k ok=>
  simp only at h ⊢;rw [hev m (by simp),hev k (by simp)]
  exact lookA_congr (hrd.mono fun q hq=>by simp [readsOf,pureOp,Op.operands];exact .inl hq) h
 case mapUpdate t m k x=>simp only at h ⊢;rw [hev m (by simp),hev k (by simp),hev x (by simp)];exact aMapUpdate_congr h hwr
 case insert t m k x=>simp only at h ⊢;rw [hev m (by simp),hev k (by simp),hev x (by simp)];exact aMapUpdate_congr h hwr
 case extract x i=>simp only at h ⊢;rw [hev x (by simp)];exact h
 case range t x=>simp only at h ⊢;rw [hev x (by simp)];exact h
 case next x b=>simp only at h ⊢;rw [hev x (by simp)];exact aNext_congr (hrd.mono fun q hq=>by simpa [readsOf,pureOp,Op.operands] using hq) h
 case entry x=>simp only at h ⊢;rw [hev x (by simp)];exact aEntry_congr (hrd.mono fun q hq=>by simpa [readsOf,pureOp,Op.operands] using hq) h
 case slice t x lo hi mx=>
  cases mx with
  |some _=>cases h
  |none=>
   simp only at h ⊢
   have e1:lo.map (ev s'.tmps)=lo.map (ev s.tmps):=by cases lo with
    |none=>rfl
    |some y=>simp only [Option.map_some];rw [hev y (by simp)]
   have e2:hi.map (ev s'.tmps)=hi.map (ev s.tmps):=by cases hi with
    |none=>rfl
    |some y=>simp only [Option.map_some];rw [hev y (by simp)]
   rw [hev x (by simp),e1,e2]
   exact aSlice_congr (hrd.mono fun q hq=>by simpa [readsOf,pureOp] using hq) h
 case typeAssert x t' t ok=>simp only at h ⊢;rw [hev x (by simp)];exact h
 case panic x=>simp only at h;split at h<;>cases h
 case defer c=>simp only at h;(repeat' split at h)<;>cases h
 case call c=>
  obtain ⟨callee,args,ats⟩:=c
  simp only at hev
  have eargs:args.toList.map (ev s'.tmps)=args.toList.map (ev s.tmps):=List.map_congr_left fun x hx=>hev x (by simp;right;simpa using hx)
  cases callee with
  |builtin b=>
   simp only at h ⊢
   rw [eargs]
   exact aBuiltin_congr hpk (hrd.mono fun q hq=>by simpa [readsOf,pureOp,List.flatMap_map] using hq) h hwr
  |value f=>
   simp only at h ⊢
   rw [eargs,hev f (by simp)]
   unfold aCall at h ⊢
   split at h
   ·split at h<;>cases h
   ·rename_i hny
    split at h
    ·rename_i k cap hfn
     have hc:=callA_congr (hrd.mono fun q hq=>by simpa [readsOf,pureOp,hfn] using hq) h
     exact hc
    ·cases h
  |_=>cases h
 all_goals cases h
end Go.Abs

/- The abstract interpreter: operations of a region change places. -/
namespace Go.Abs
variable {G G':Nat->Obj} {C:Cfg} {L:Low} {id:Nat} {s s':St} {v:AV} {ups:List (Nat×U)}
theorem flatMap_same {α β:Type} {f g:α->List β}:∀ {l:List α},(∀ x∈l,f x=g x)->l.flatMap f=l.flatMap g
 |[],_=>rfl
 |x::l,h=>by simp only [List.flatMap_cons];rw [h x (by simp),flatMap_same fun y hy=>h y (by simp [hy])]
theorem readsOf_congr {o:Op} (hev:∀ x∈o.operands,ev s'.tmps x=ev s.tmps x) (hrd:Same s.G s'.G (readsOf s o)):readsOf s' o=readsOf s o:=by
 unfold readsOf at hrd ⊢
 by_cases hp:pureOp o=true
 ·simp only [hp,if_true]
 ·simp only [hp,if_false,Bool.false_eq_true] at hrd ⊢
  have gen:o.operands.toList.flatMap (fun x=>direct (ev s'.tmps x))=o.operands.toList.flatMap (fun x=>direct (ev s.tmps x)):=flatMap_same fun x hx=>by rw [hev x (by simpa using hx)]
  cases o
  case call c=>
   obtain ⟨callee,args,ats⟩:=c
   simp only [Op.operands,Call.operands] at hev
   have eargs:args.toList.map (ev s'.tmps)=args.toList.map (ev s.tmps):=List.map_congr_left fun x hx=>hev x (by simp;right;simpa using hx)
   cases callee with
   |builtin b=>exact flatMap_same fun x hx=>by rw [hev x (by simp;simpa using hx)]
   |value f=>
    simp only at hrd ⊢
    rw [hev f (by simp),eargs]
    split
    ·rename_i k cap hfn
     rw [hfn] at hrd
     exact flatMap_same fun x hx=>touch_congr _ _ (hrd.mono fun q hq=>List.mem_flatMap.2 ⟨x,hx,hq⟩)
    ·rfl
   |invoke r m=>exact gen
  case slice t x lo hi mx=>
   simp only at hrd ⊢
   rw [hev x (by simp [Op.operands])]
   exact touch_congr _ _ hrd
  case store t a x=>simp only;rw [hev a (by simp [Op.operands])]
  case mapUpdate t m k x=>simp only;rw [hev m (by simp [Op.operands])]
  case insert t m k x=>simp only;rw [hev m (by simp [Op.operands])]
  all_goals exact gen
/-! ### what is written -/
theorem updL_pt:∀ (ups:List (Nat×U)) {G G':Nat->Obj} {q:Nat},G q=G' q->updL G ups q=updL G' ups q
 |[],_,_,_,h=>h
 |(o,u)::r,G,G',q,h=>by
  simp only [updL]
  refine updL_pt r ?_
  by_cases hq:q=o
  ·subst hq;simp [upd,h]
  ·simp [upd,hq,h]
theorem updL_out:∀ (ups:List (Nat×U)) {G:Nat->Obj} {q:Nat},q∉wrOf ups->q∉fzOf ups->updL G ups q=G q
 |[],_,_,_,_=>rfl
 |(o, .set x)::r,G,q,h1,h2=>by
  simp only [wrOf,fzOf,List.mem_cons,not_or] at h1 h2
  simp only [updL]
  rw [updL_out r h1.2 h2]
  simp [upd,h1.1]
 |(o, .frz)::r,G,q,h1,h2=>by
  simp only [wrOf,fzOf,List.mem_cons,not_or] at h1 h2
  simp only [updL]
  rw [updL_out r h1 h2.2]
  simp [upd,h2.1]
theorem updL_frzd:∀ (ups:List (Nat×U)) {G:Nat->Obj} {q:Nat},q∉wrOf ups->q∈fzOf ups->updL G ups q=(G q).freeze
 |(o, .set x)::r,G,q,h1,h2=>by
  simp only [wrOf,fzOf,List.mem_cons,not_or] at h1 h2
  simp only [updL]
  rw [updL_frzd r h1.2 h2]
  simp [upd,h1.1]
 |(o, .frz)::r,G,q,h1,h2=>by
  simp only [wrOf,fzOf,List.mem_cons] at h1 h2
  simp only [updL]
  by_cases hr:q∈fzOf r
  ·rw [updL_frzd r h1 hr]
   by_cases hq:q=o
   ·subst hq;simp [upd,U.on,freeze_freeze]
   ·simp [upd,hq]
  ·rw [updL_out r h1 hr]
   have hq:q=o:=by
              rcases h2 with h2|h2
              ·exact h2
              ·exact absurd h2 hr
   subst hq;simp [upd,U.on]
theorem updL_same (ups:List (Nat×U)) {G:Nat->Obj} {q:Nat} (h:q∉wrOf ups):(updL G ups q).freeze=(G q).freeze:=by
 by_cases hf:q∈fzOf ups
 ·rw [updL_frzd ups h hf,freeze_freeze]
 ·rw [updL_out ups h hf]
theorem updL_comm {a b:List (Nat×U)} (h1:∀ q∈wrOf a,q∉wrOf b/\q∉fzOf b) (h2:∀ q∈wrOf b,q∉wrOf a/\q∉fzOf a) (G:Nat->Obj):updL (updL G a) b=updL (updL G b) a:=by
 funext q
 by_cases ha:q∈wrOf a
 ·rw [updL_out b (h1 q ha).1 (h1 q ha).2]
  exact updL_pt a (updL_out b (h1 q ha).1 (h1 q ha).2).symm
 ·by_cases hb:q∈wrOf b
  ·rw [updL_out a (h2 q hb).1 (h2 q hb).2]
   exact updL_pt b (updL_out a (h2 q hb).1 (h2 q hb).2)
  ·by_cases fa:q∈fzOf a<;>by_cases fb:q∈fzOf b
   ·rw [updL_frzd b hb fb,updL_frzd a ha fa,updL_frzd a ha fa,updL_frzd b hb fb]
   ·rw [updL_out b hb fb,updL_frzd a ha fa,updL_frzd a ha fa,updL_out b hb fb]
   ·rw [updL_frzd b hb fb,updL_out a ha fa,updL_out a ha fa,updL_frzd b hb fb]
   ·rw [updL_out b hb fb,updL_out a ha fa,updL_out a ha fa,updL_out b hb fb]
/-! ### one operation -/
def StepIs (C:Cfg) (L:Low) (ops:Array Oper) (id:Nat) (o:Oper) (s:St) (v:AV) (ups:List (Nat×U)) (rd:List Nat):Prop:=
 (wantA ops s.tmps o=some true/\opA C L id s o.op=some (.val v ups)/\rd=readsOf s o.op)\/(wantA ops s.tmps o=some false/\v = .imm (.tup [])/\ups=[]/\rd=[])
theorem stepD_some {nt:Nat} {ops:Array Oper} {base i:Nat} {o:Oper} {s s1:St} {f:Fp} (h:stepD C L nt ops base i o s=some (s1,f)) :
  ∃ v ups rd,f=⟨i,rd,wrOf ups,fzOf ups⟩/\put nt { s with G:=updL s.G ups } o.dst v=some s1/\StepIs C L ops (base+i) o s v ups rd:=by
 unfold stepD at h
 split at h
 ·rename_i hw
  split at h
  ·rename_i v ups hop
   split at h
   ·rename_i s' hp;cases h;exact ⟨v,ups,_,rfl,hp, .inl ⟨hw,hop,rfl⟩⟩
   ·cases h
  ·cases h
 ·rename_i hw
  split at h
  ·rename_i s' hp;cases h;exact ⟨.imm (.tup []),[],[],rfl,hp, .inr ⟨hw,rfl,rfl,rfl⟩⟩
  ·cases h
 ·cases h
theorem stepD_of {nt:Nat} {ops:Array Oper} {base i:Nat} {o:Oper} {s s1:St} {rd:List Nat} (h:StepIs C L ops (base+i) o s v ups rd) (hp:put nt { s with G:=updL s.G ups } o.dst v=some s1) :
  stepD C L nt ops base i o s=some (s1,⟨i,rd,wrOf ups,fzOf ups⟩):=by
 unfold stepD
 rcases h with ⟨h1,h2,rfl⟩|⟨h1,rfl,rfl,rfl⟩
 ·simp only [h1,h2,hp]
 ·have hp:put nt s o.dst (.imm (.tup []))=some s1:=hp
  simp only [h1,hp,wrOf,fzOf]
def updO (f:Nat->AV):Option Nat->AV->Nat->AV
 |some d,v=>upd f d v
 |none,_=>f
theorem put_some {nt:Nat} {s s1:St} {dst:Option Nat} {v:AV} (h:put nt s dst v=some s1):s1.G=s.G/\s1.nx=s.nx/\s1.defers=s.defers/\s1.pk=s.pk/\(∀ d,dst=some d->d < nt)/\s1.tmps=updO s.tmps dst v:=by
 unfold put at h
 cases dst with
 |none=>cases h;simp [updO]
 |some d=>
  simp only at h
  split at h
  ·rename_i hd;cases h;exact ⟨rfl,rfl,rfl,rfl,fun d' e=>by cases e;exact hd,rfl⟩
  ·cases h
theorem put_of {nt:Nat} {s:St} {dst:Option Nat} {v:AV} (h:∀ d,dst=some d->d < nt):put nt s dst v=some { s with tmps:=updO s.tmps dst v }:=by
 unfold put
 cases dst with
 |none=>rfl
 |some d=>simp [h d rfl,updO]
theorem stepIs_congr {ops:Array Oper} {o:Oper} {rd:List Nat} (h:StepIs C L ops id o s v ups rd) (ht:∀ t∈o.looksAt ops,s'.tmps t=s.tmps t) (hrd:Same s.G s'.G rd) (hwr:∀ q∈wrOf ups,s'.G q=s.G q) (hpk:s'.pk=s.pk) :
  StepIs C L ops id o s' v ups rd:=by
 have hev:∀ x∈o.op.operands,ev s'.tmps x=ev s.tmps x:=fun x hx=>by
  cases x with
  |tmp t=>
   refine ht t (List.mem_append_left _ (List.mem_filterMap.2 ⟨.tmp t,by simpa using hx,rfl⟩))
  |_=>rfl
 have hw:wantA ops s'.tmps o=wantA ops s.tmps o:=by
  unfold wantA
  cases hg:o.guard with
  |none=>rfl
  |some p=>
   obtain ⟨j,want⟩:=p
   simp only
   cases hd:(ops[j]?).bind (·.dst) with
   |none=>rfl
   |some d=>
    simp only
    rw [ht d (List.mem_append_right _ (by simp [hg,hd]))]
 rcases h with ⟨h1,h2,rfl⟩|⟨h1,rfl,rfl,rfl⟩
 ·exact .inl ⟨hw.trans h1,opA_congr h2 hev hrd hwr hpk,(readsOf_congr hev hrd).symm⟩
 ·exact .inr ⟨hw.trans h1,rfl,rfl,rfl⟩
theorem not_clash {a b:Fp} (h:clash a b=false):(∀ q∈a.wr,q∉b.rd/\q∉b.wr/\q∉b.fz)/\(∀ q∈b.wr,q∉a.rd/\q∉a.fz):=by
 unfold clash at h
 simp only [Bool.or_eq_false_iff,List.any_eq_false,Bool.or_eq_true,List.contains_iff_mem,not_or,and_assoc] at h
 exact ⟨fun q hq=>h.1 q hq,fun q hq=>h.2 q hq⟩
theorem stepD_swap {nt:Nat} {ops:Array Oper} {base i j:Nat} {oi oj:Oper} {s s1 s2:St} {fi fj:Fp} (h1:stepD C L nt ops base i oi s=some (s1,fi)) (h2:stepD C L nt ops base j oj s1=some (s2,fj)) (hc:clash fi fj=false) (ha:oi.apart ops oj=true) :
  ∃ s1',stepD C L nt ops base j oj s=some (s1',fj)/\stepD C L nt ops base i oi s1'=some (s2,fi):=by
 obtain ⟨vi,ui,ri,rfl,pi,si⟩:=stepD_some h1
 obtain ⟨vj,uj,rj,rfl,pj,sj⟩:=stepD_some h2
 obtain ⟨c1,c2⟩:=not_clash hc
 simp only at c1 c2
 obtain ⟨a1,a2,a3⟩:=Oper.apart_spec ha
 obtain ⟨gi,ni,di,ki,li,ti⟩:=put_some pi
 obtain ⟨gj,nj,dj,kj,lj,tj⟩:=put_some pj
 simp only at gi ni di ki ti gj nj dj kj tj
 -- j, where i has not been
 have sj':StepIs C L ops (base+j) oj s vj uj rj:=by
  refine stepIs_congr sj (fun t ht=>?_) (fun q hq=>?_) (fun q hq=>?_) ki.symm
  ·rw [ti]
   cases hd:oi.dst with
   |none=>rfl
   |some d=>simp only [updO,upd];rw [if_neg (fun e:t=d=>a1 d hd (by rw [<-e];exact ht))]
  ·rw [gi]
   exact updL_same ui (fun e=>(c1 q e).1 hq)
  ·rw [gi,updL_out ui (fun e=>(c1 q e).2.1 hq) (c2 q hq).2]
 have pj':=put_of (s:={ s with G:=updL s.G uj }) (v:=vj) lj
 refine ⟨_,stepD_of sj' pj',?_⟩
 have si':StepIs C L ops (base+i) oi { { s with G:=updL s.G uj } with tmps:=updO s.tmps oj.dst vj } vi ui ri:=by
  refine stepIs_congr si (fun t ht=>?_) (fun q hq=>?_) (fun q hq=>?_) rfl
  ·cases hd:oj.dst with
   |none=>rfl
   |some d=>simp only [updO,upd];rw [if_neg (fun e:t=d=>a3 d hd (by rw [<-e];exact ht))]
  ·exact (updL_same uj (fun e=>(c2 q e).1 hq)).symm
  ·exact updL_out uj (c1 q hq).2.1 (c1 q hq).2.2
 refine stepD_of si' ?_
 rw [put_of li]
 congr 1
 cases s2
 simp only at gj nj dj kj tj
 simp only [St.mk.injEq]
 subst gj nj dj kj tj
 refine ⟨?_,?_,ni.symm,di.symm,ki.symm⟩
 ·rw [ti]
  cases hi:oi.dst with
  |none=>cases hj:oj.dst<;>rfl
  |some d=>
   cases hj:oj.dst with
   |none=>rfl
   |some e=>
    simp only [updO]
    have hne:d≠e:=fun x=>a2 d hi (x▸hj)
    funext t
    simp only [upd]
    by_cases h1:t=d<;>by_cases h2:t=e<;>simp_all
 ·rw [gi]
  exact (updL_comm (fun q hq=>(c1 q hq).2) (fun q hq=>⟨fun e=>(c1 q e).2.1 hq,(c2 q hq).2⟩) s.G).symm
end Go.Abs

/- The abstract interpreter: the orders that a region may draw. -/
namespace Go.Abs
variable {ops:Array Oper}
theorem edges_lt (h:edgesOK ops=true) {i:Nat} {o:Oper} (ho:ops[i]? = some o) {e:Edge} (he:e∈o.after) (hb:Region.binds .any e=true):e.on < i:=by
 unfold edgesOK at h
 have:=List.all_eq_true.1 h (o,i) (by rw [List.mem_zipIdx_iff_getElem?];simpa using ho)
 have:=Array.all_eq_true_iff_forall_mem.1 this e he
 simpa [hb] using this
/-! ### what comes before what -/
def bef (acc:Array Nat) (o:Oper):Nat:=o.after.foldl (fun s e=>if Region.binds .any e then s ||| 2 ^ e.on ||| acc.getD e.on 0 else s) 0
theorem befs_size:∀ (l:List Oper) (acc:Array Nat),(l.foldl (fun acc o=>acc.push (bef acc o)) acc).size=acc.size+l.length
 |[],acc=>rfl
 |o::l,acc=>by simp only [List.foldl_cons];rw [befs_size l];simp;omega
theorem befs_keep:∀ (l:List Oper) (acc:Array Nat) (k:Nat),k < acc.size->(l.foldl (fun acc o=>acc.push (bef acc o)) acc).getD k 0=acc.getD k 0
 |[],acc,k,h=>rfl
 |o::l,acc,k,h=>by
  simp only [List.foldl_cons]
  rw [befs_keep l _ k (by simp;omega)]
  simp [Array.getD_eq_getD_getElem?,Array.getElem?_push,Nat.ne_of_lt h]
theorem bef_bit {acc:Array Nat} {o:Oper} {j:Nat} (h:(bef acc o).testBit j=true):∃ e∈o.after,Region.binds .any e=true/\(e.on=j\/(acc.getD e.on 0).testBit j=true):=by
 unfold bef at h
 rw [<-Array.foldl_toList] at h
 have key:∀ (l:List Edge) (s:Nat),(l.foldl (fun s e=>if Region.binds .any e then s ||| 2 ^ e.on ||| acc.getD e.on 0 else s) s).testBit j=true->s.testBit j=true\/∃ e∈l,Region.binds .any e=true/\(e.on=j\/(acc.getD e.on 0).testBit j=true):=by
  intro l
  induction l with
  |nil=>intro s h;exact .inl h
  |cons e l ih=>
   intro s h
   simp only [List.foldl_cons] at h
   rcases ih _ h with h1|⟨e',he',h1⟩
   ·split at h1
    ·rename_i hb
     simp only [Nat.testBit_or,Bool.or_eq_true,Nat.testBit_two_pow,decide_eq_true_eq] at h1
     rcases h1 with (h1|h1)|h1
     ·exact .inl h1
     ·exact .inr ⟨e,by simp,hb, .inl h1⟩
     ·exact .inr ⟨e,by simp,hb, .inr h1⟩
    ·exact .inl h1
   ·exact .inr ⟨e',by simp [he'],h1⟩
 rcases key o.after.toList 0 h with h1|⟨e,he,h1⟩
 ·simp at h1
 ·exact ⟨e,by simpa using he,h1⟩
theorem before_at {i:Nat} {o:Oper} (ho:ops[i]? = some o):∃ acc:Array Nat,(Region.before ops).getD i 0=bef acc o/\∀ k j,(acc.getD k 0).testBit j=true->((Region.before ops).getD k 0).testBit j=true:=by
 have hb:Region.before ops=ops.toList.foldl (fun acc o=>acc.push (bef acc o)) #[]:=by
  unfold Region.before bef;rw [Array.foldl_toList]
 have hi:i < ops.toList.length:=by have:=(Array.getElem?_eq_some_iff.1 ho).1;simpa using this
 have hsplit:ops.toList=ops.toList.take i++o::ops.toList.drop (i+1):=by
  have e:ops.toList[i]=o:=by have:=(Array.getElem?_eq_some_iff.1 ho).2;simpa using this
  rw [<-e,List.getElem_cons_drop,List.take_append_drop]
 have hlen:(ops.toList.take i).length=i:=by rw [List.length_take];omega
 refine ⟨(ops.toList.take i).foldl (fun acc o=>acc.push (bef acc o)) #[],?_,fun k j h=>?_⟩
 ·rw [hb,hsplit,List.foldl_append,List.foldl_cons]
  have hs:=befs_size (ops.toList.take i) #[]
  rw [hlen] at hs
  simp only [List.size_toArray,List.length_nil,Nat.zero_add] at hs
  rw [befs_keep _ _ i (by simp [hs])]
  simp only [List.take_append_of_le_length (Nat.le_of_eq hlen.symm)]
  rw [List.take_of_length_le (Nat.le_of_eq hlen)]
  rw [Array.getD_eq_getD_getElem?,Array.getElem?_push,if_pos hs.symm]
  rfl
 ·have hs:=befs_size (ops.toList.take i) #[]
  by_cases hk:k < ((ops.toList.take i).foldl (fun acc o=>acc.push (bef acc o)) #[]).size
  ·rw [hb,hsplit,List.foldl_append,befs_keep _ _ k hk];exact h
  ·rw [Array.getD_eq_getD_getElem?,Array.getElem?_eq_none (by omega)] at h
   simp at h
/-! ### the orders -/
def Closed (ops:Array Oper) (listed:Array Bool):Prop:=∀ i,listed.getD i false=true->∀ j,((Region.before ops).getD i 0).testBit j=true->listed.getD j false=true
theorem ready_before {listed:Array Bool} (hc:Closed ops listed) {i:Nat} (hi:i∈Region.ready .any ops listed) {j:Nat} (h:ordered ops j i=true):listed.getD j false=true:=by
 obtain ⟨_,o,ho,hall⟩:=mem_ready.1 hi
 obtain ⟨acc,h1,h2⟩:=before_at ho
 unfold ordered at h
 rw [h1] at h
 obtain ⟨e,he,hb,hj⟩:=bef_bit h
 have hl:=hall e he hb
 rcases hj with rfl|hj
 ·exact hl
 ·exact hc _ hl j (h2 _ _ hj)
theorem countP_one {p p':Nat->Bool} {i:Nat} (hp:p i=true) (hp':p' i=false) (hne:∀ k,k≠i->p' k=p k):∀ n,i < n->(List.range n).countP p'+1=(List.range n).countP p:=by
 intro n
 induction n with
 |zero=>intro h;omega
 |succ n ih=>
  intro h
  rw [List.range_succ,List.countP_append,List.countP_append]
  by_cases hin:i=n
  ·subst hin
   have:(List.range i).countP p'=(List.range i).countP p:=List.countP_congr fun k hk=>by
    rw [hne k (by have:=List.mem_range.1 hk;omega)]
   simp [this,hp,hp']
  ·have:=ih (by omega)
   have e:p' n=p n:=hne n (fun e=>hin e.symm)
   simp only [List.countP_singleton,e]
   omega
theorem least {p:Nat->Bool}:∀ n,(∃ k,k < n/\p k=true)->∃ k,k < n/\p k=true/\∀ j,j < k->p j=false:=by
 intro n
 induction n with
 |zero=>intro ⟨k,h,_⟩;omega
 |succ n ih=>
  intro ⟨k,hk,hp⟩
  by_cases h:∃ k,k < n/\p k=true
  ·obtain ⟨k',h1,h2,h3⟩:=ih h;exact ⟨k',by omega,h2,h3⟩
  ·have hkn:k=n:=by
    rcases Nat.lt_or_ge k n with h1|h1
    ·exact absurd ⟨k,h1,hp⟩ h
    ·omega
   subst hkn
   refine ⟨k,hk,hp,fun j hj=>?_⟩
   cases e:p j with
   |false=>rfl
   |true=>exact absurd ⟨j,hj,e⟩ h
theorem set_getD {listed:Array Bool} {i j:Nat} (d:Bool) (hi:i < listed.size):(listed.setIfInBounds i true).getD j d=if j=i then true else listed.getD j d:=by
 rw [Array.getD_eq_getD_getElem?,Array.getD_eq_getD_getElem?,Array.getElem?_setIfInBounds]
 by_cases h:i=j
 ·subst h;simp [hi]
 ·simp [h,Ne.symm h]
theorem sched_go (he:edgesOK ops=true):∀ (fuel t:Nat) (listed:Array Bool),listed.size=ops.size->Closed ops listed->(List.range ops.size).countP (fun i => !listed.getD i true)=fuel ->
  (Region.linearise.go .any ops fuel t listed []).Nodup/\(∀ i,i∈Region.linearise.go .any ops fuel t listed []↔listed.getD i true=false)/\List.Pairwise (fun i j=>ordered ops j i=false) (Region.linearise.go .any ops fuel t listed []):=by
 intro fuel
 induction fuel with
 |zero=>
  intro t listed hs hc hn
  simp only [Region.linearise.go,List.reverse_nil]
  refine ⟨List.nodup_nil,fun i=>⟨fun h=>(by cases h),fun h=>?_⟩,List.Pairwise.nil⟩
  have hlt:i < ops.size:=by
   rcases Nat.lt_or_ge i ops.size with h1|h1
   ·exact h1
   ·rw [Array.getD_eq_getD_getElem?,Array.getElem?_eq_none (by omega)] at h;simp at h
  have:=List.countP_eq_zero.1 hn i (List.mem_range.2 hlt)
  rw [h] at this;simp at this
 |succ fuel ih=>
  intro t listed hs hc hn
  simp only [Region.linearise.go]
  change List.Nodup (match (Region.ready .any ops listed)[t % (Region.ready .any ops listed).length]? with
   |some i=>Region.linearise.go .any ops fuel (t / (Region.ready .any ops listed).length) (listed.setIfInBounds i true) [i]
   |none=>[].reverse)/\(∀ i,i∈(match (Region.ready .any ops listed)[t % (Region.ready .any ops listed).length]? with
   |some i=>Region.linearise.go .any ops fuel (t / (Region.ready .any ops listed).length) (listed.setIfInBounds i true) [i]
   |none=>[].reverse)↔listed.getD i true=false)/\List.Pairwise (fun i j=>ordered ops j i=false) (match (Region.ready .any ops listed)[t % (Region.ready .any ops listed).length]? with
   |some i=>Region.linearise.go .any ops fuel (t / (Region.ready .any ops listed).length) (listed.setIfInBounds i true) [i]
   |none=>[].reverse)
  -- something is ready
  obtain ⟨k0,hk0,hp0⟩:∃ k,k < ops.size/\(!listed.getD k true)=true:=by
   have hpos:0 < (List.range ops.size).countP (fun i => !listed.getD i true):=by omega
   obtain ⟨k,hk,hp⟩:=List.countP_pos_iff.1 hpos
   exact ⟨k,List.mem_range.1 hk,hp⟩
  obtain ⟨k,hk,hp,hmin⟩:=least (p:=fun k => !listed.getD k true) ops.size ⟨k0,hk0,hp0⟩
  have hkr:k∈Region.ready .any ops listed:=by
   refine mem_ready.2 ⟨by simpa using hp,ops[k],Array.getElem?_eq_getElem hk,fun e he' hb=>?_⟩
   have hlt:=edges_lt he (Array.getElem?_eq_getElem hk) he' hb
   have:=hmin _ hlt
   have h2:e.on < listed.size:=by omega
   simpa [Array.getD_eq_getD_getElem?,h2] using this
  have hpos:0 < (Region.ready .any ops listed).length:=List.length_pos_of_mem hkr
  have hlt:t % (Region.ready .any ops listed).length < (Region.ready .any ops listed).length:=Nat.mod_lt _ hpos
  rw [List.getElem?_eq_getElem hlt]
  simp only []
  generalize hi:(Region.ready .any ops listed)[t % (Region.ready .any ops listed).length]=i
  have hir:i∈Region.ready .any ops listed:=hi▸List.getElem_mem hlt
  obtain ⟨hun,o,ho,hall⟩:=mem_ready.1 hir
  have hio:i < listed.size:=by have:=(Array.getElem?_eq_some_iff.1 ho).1;omega
  have hc':Closed ops (listed.setIfInBounds i true):=by
   intro x hx j hj
   rw [set_getD _ hio] at hx ⊢
   by_cases hji:j=i
   ·rw [if_pos hji]
   ·rw [if_neg hji]
    by_cases hxi:x=i
    ·subst hxi
     exact ready_before hc hir hj
    ·rw [if_neg hxi] at hx
     exact hc x hx j hj
  have hcount:(List.range ops.size).countP (fun j => !(listed.setIfInBounds i true).getD j true)=fuel:=by
   have:=countP_one (p:=fun j => !listed.getD j true) (p':=fun j => !(listed.setIfInBounds i true).getD j true) (i:=i) (by simpa using hun) (by simp only [set_getD _ hio,if_true];rfl) (fun k hk=>by simp only [set_getD _ hio];rw [if_neg hk]) ops.size (by omega)
   omega
  obtain ⟨h1,h2,h3⟩:=ih (t / (Region.ready .any ops listed).length) (listed.setIfInBounds i true) (by simpa using hs) hc' hcount
  rw [linearise_go_acc,List.reverse_singleton,List.singleton_append]
  refine ⟨List.nodup_cons.2 ⟨fun hm=>?_,h1⟩,fun j=>?_,List.pairwise_cons.2 ⟨fun j hj=>?_,h3⟩⟩
  ·have:=(h2 i).1 hm
   rw [set_getD _ hio,if_pos rfl] at this;cases this
  ·rw [List.mem_cons,h2,set_getD _ hio]
   by_cases hji:j=i
   ·subst hji;simp [hun]
   ·simp [hji]
  ·cases hor:ordered ops j i with
   |false=>rfl
   |true=>
    have hl:=ready_before hc hir hor
    have hj':=(h2 j).1 hj
    rw [set_getD _ hio] at hj'
    split at hj'
    ·cases hj'
    ·rename_i hne
     rcases Nat.lt_or_ge j listed.size with h4|h4
     ·rw [Array.getD_eq_getD_getElem?] at hl hj';simp [h4] at hl hj';rw [hl] at hj';cases hj'
     ·rw [Array.getD_eq_getD_getElem?,Array.getElem?_eq_none h4] at hl;simp at hl
theorem sched_ok (he:edgesOK ops=true) (t:Nat) :
  (Region.schedule true ops t).Nodup/\(∀ i,i∈Region.schedule true ops t↔i < ops.size)/\List.Pairwise (fun i j=>ordered ops j i=false) (Region.schedule true ops t):=by
 have hg:∀ i,(Array.replicate ops.size false).getD i false=false:=fun i=>by
  rw [Array.getD_eq_getD_getElem?,Array.getElem?_replicate];split<;>rfl
 have h:=sched_go he ops.size t (Array.replicate ops.size false) (by simp) (fun i hi=>by rw [hg i] at hi;cases hi) (by
  rw [List.countP_eq_length.2 (fun i hi=>by
   have:=List.mem_range.1 hi
   simp [Array.getD_eq_getD_getElem?,this])]
  simp)
 simp only [Region.schedule,Bool.true_or,if_true,Region.linearise]
 refine ⟨h.1,fun i=>(h.2.1 i).trans ?_,h.2.2⟩
 rw [Array.getD_eq_getD_getElem?,Array.getElem?_replicate]
 by_cases hi:i < ops.size<;>simp [hi]
end Go.Abs

/- The abstract interpreter: operations that fail in a region that draws its order. -/
namespace Go.Abs
variable {G G':Nat->Obj} {C:Cfg} {L:Low} {id:Nat} {s s':St} {v:AV} {ups:List (Nat×U)}
theorem opA_pan {o:Op} {x:IV} {s1:St} (h:opA C L id s o=some (.pan x s1)) (hp:panOK C s o=true):s1=s:=by
 unfold opA at h
 cases o<;>simp only [panOK,Bool.false_eq_true] at hp
 case panic y=>simp only at h;split at h<;>cases h;rfl
 case call c=>
  obtain ⟨callee,args,ats⟩:=c
  cases callee with
  |value f=>
   simp only at h hp
   split at hp
   ·rename_i k cap hfn
    unfold aCall at h
    split at h
    ·rename_i q hq;rw [hq] at hfn;cases hfn
    ·rw [hfn] at h
     simp only at h
     unfold callA at h
     rw [if_neg (by simpa using hp)] at h
     (repeat' split at h)<;>first|(unfold give at h;(repeat' split at h)<;>cases h)|(cases h;done)|(cases h;rfl)
   ·cases hp
  |_=>simp at hp
theorem opA_congr_pan {o:Op} {x:IV} {s1:St} (h:opA C L id s o=some (.pan x s1)) (hp:panOK C s o=true) (hev:∀ y∈o.operands,ev s'.tmps y=ev s.tmps y) (hrd:Same s.G s'.G (readsOf s o)) :
  opA C L id s' o=some (.pan x s')/\panOK C s' o=true:=by
 unfold opA at h ⊢
 cases o<;>simp only [panOK,Bool.false_eq_true] at hp<;>simp only [Op.operands,Call.operands] at hev
 case panic y=>
  simp only at h ⊢
  rw [hev y (by simp)]
  split at h
  ·cases h;exact ⟨rfl,rfl⟩
  ·cases h
 case call c=>
  obtain ⟨callee,args,ats⟩:=c
  simp only at hev
  have eargs:args.toList.map (ev s'.tmps)=args.toList.map (ev s.tmps):=List.map_congr_left fun x hx=>hev x (by simp;right;simpa using hx)
  cases callee with
  |value f=>
   simp only at h hp ⊢
   have ef:=hev f (by simp)
   rw [eargs,ef]
   split at hp
   ·rename_i k cap hfn
    refine ⟨?_,by simp only [panOK,ef,hfn];exact hp⟩
    have hrd':Same s.G s'.G ((args.toList.map (ev s.tmps)++cap).flatMap (touch s.G pkDepth)):=hrd.mono fun q hq=>by simpa [readsOf,pureOp,hfn] using hq
    unfold aCall at h ⊢
    split at h
    ·rename_i q hq;rw [hq] at hfn;cases hfn
    ·rename_i hny
     rw [hfn] at h
     simp only at h
     have key:callA C L id s' k (args.toList.map (ev s.tmps)++cap)=some (.pan x s'):=by
      unfold callA at h ⊢
      have hb:¬ C.byref k=true:=by simpa using hp
      rw [if_neg hb] at h ⊢
      split at h
      ·cases h
      ·rename_i ivs ids hpk
       have:peeks s'.G (args.toList.map (ev s.tmps)++cap)=some (ivs,ids):=peekL_congr (fun x hx z hz=>peek_congr _ _ _ (hrd'.mono fun q hq=>List.mem_flatMap.2 ⟨x,hx,hq⟩) hz) hpk
       rw [this]
       dsimp only
       split at h
       ·unfold give at h;split at h<;>cases h
       ·cases h
       ·split at h
        ·split at h
         ·unfold give at h;split at h<;>cases h
         ·cases h
        ·split at h
         ·rename_i hsc;cases h;rw [if_pos hsc]
         ·cases h
        ·cases h
     simp only [hfn]
     exact key
   ·cases hp
  |_=>simp at hp
/-! ### changing places -/
variable {nt base i j:Nat} {ops:Array Oper} {o oi oj:Oper} {s1 s2:St} {fi fj f:Fp} {p pi pj:Option IV}
theorem stepX_none:stepX C L nt ops base i o s=some (s1,f,none)↔stepD C L nt ops base i o s=some (s1,f):=by
 unfold stepX stepD
 cases wantA ops s.tmps o with
 |none=>simp
 |some t=>
  cases t with
  |false=>
   simp only
   cases put nt s o.dst (.imm (.tup []))<;>simp
  |true=>
   simp only
   cases opA C L (base+i) s o.op with
   |none=>simp
   |some ef=>
    cases ef with
    |val v ups=>simp only;cases put nt { s with G:=updL s.G ups } o.dst v<;>simp
    |wr v s1=>simp
    |pan v s1=>simp only;split<;>simp
def PanIs (C:Cfg) (L:Low) (ops:Array Oper) (id:Nat) (o:Oper) (s:St) (x:IV) (rd:List Nat):Prop:=
 wantA ops s.tmps o=some true/\(∃ s1,opA C L id s o.op=some (.pan x s1))/\panOK C s o.op=true/\rd=readsOf s o.op
theorem stepX_pan {x:IV}:stepX C L nt ops base i o s=some (s1,f,some x)↔s1=s/\∃ rd,f=⟨i,rd,[],[]⟩/\PanIs C L ops (base+i) o s x rd:=by
 unfold stepX PanIs
 cases hw:wantA ops s.tmps o with
 |none=>simp
 |some t=>
  cases t with
  |false=>simp only;cases put nt s o.dst (.imm (.tup []))<;>simp
  |true=>
   simp only
   cases hop:opA C L (base+i) s o.op with
   |none=>simp
   |some ef=>
    cases ef with
    |val v ups=>simp only;cases put nt { s with G:=updL s.G ups } o.dst v<;>simp
    |wr v s1=>simp
    |pan v s3=>
     simp only
     by_cases hp:panOK C s o.op=true
     ·simp only [hp,if_true,Option.some.injEq,Prod.mk.injEq,Ef.pan.injEq]
      constructor
      ·rintro ⟨rfl,rfl,rfl⟩;exact ⟨rfl,_,rfl,trivial,⟨s3,rfl,rfl⟩,trivial,rfl⟩
      ·rintro ⟨rfl,rd,rfl,_,⟨s4,rfl,_⟩,_,rfl⟩;exact ⟨rfl,rfl,rfl⟩
     ·simp [hp]
theorem looks_ev (ht:∀ t∈o.looksAt ops,s'.tmps t=s.tmps t):(∀ x∈o.op.operands,ev s'.tmps x=ev s.tmps x)/\wantA ops s'.tmps o=wantA ops s.tmps o:=by
 refine ⟨fun x hx=>?_,?_⟩
 ·cases x with
  |tmp t=>exact ht t (List.mem_append_left _ (List.mem_filterMap.2 ⟨.tmp t,by simpa using hx,rfl⟩))
  |_=>rfl
 ·unfold wantA
  cases hg:o.guard with
  |none=>rfl
  |some p=>
   obtain ⟨j,want⟩:=p
   simp only
   cases hd:(ops[j]?).bind (·.dst) with
   |none=>rfl
   |some d=>
    simp only
    rw [ht d (List.mem_append_right _ (by simp [hg,hd]))]
theorem panIs_congr {x:IV} {rd:List Nat} (h:PanIs C L ops id o s x rd) (ht:∀ t∈o.looksAt ops,s'.tmps t=s.tmps t) (hrd:Same s.G s'.G rd):PanIs C L ops id o s' x rd:=by
 obtain ⟨h1,⟨s1,h2⟩,h3,rfl⟩:=h
 obtain ⟨hev,hw⟩:=looks_ev ht
 obtain ⟨h4,h5⟩:=opA_congr_pan h2 h3 hev hrd
 exact ⟨hw.trans h1,⟨s',h4⟩,h5,(readsOf_congr hev hrd).symm⟩
theorem stepX_swap (h1:stepX C L nt ops base i oi s=some (s1,fi,pi)) (h2:stepX C L nt ops base j oj s1=some (s2,fj,pj)) (hc:clash fi fj=false) (ha:oi.apart ops oj=true) :
  ∃ s1',stepX C L nt ops base j oj s=some (s1',fj,pj)/\stepX C L nt ops base i oi s1'=some (s2,fi,pi):=by
 obtain ⟨c1,c2⟩:=not_clash hc
 obtain ⟨a1,a2,a3⟩:=Oper.apart_spec ha
 have upd_out:∀ {t d:Nat} {f:Nat->AV} {v:AV},t≠d->upd f d v t=f t:=fun h=>by simp [upd,h]
 cases pi with
 |some x=>
  obtain ⟨rfl,rd,rfl,hp⟩:=stepX_pan.1 h1
  refine ⟨s2,h2,stepX_pan.2 ?_⟩
  cases pj with
  |some y=>
   obtain ⟨rfl,_⟩:=stepX_pan.1 h2
   exact ⟨rfl,rd,rfl,hp⟩
  |none=>
   -- j has a value: i panics behind it as well; but then the state is that behind j
   obtain ⟨vj,uj,rj,rfl,pj,sj⟩:=stepD_some (stepX_none.1 h2)
   obtain ⟨gj,nj,dj,kj,lj,tj⟩:=put_some pj
   simp only at gj nj dj kj tj c1 c2
   refine ⟨rfl,rd,rfl,panIs_congr hp (fun t ht=>?_) (fun q hq=>?_)⟩
   ·rw [tj]
    cases hd:oj.dst with
    |none=>rfl
    |some d=>exact upd_out (fun e=>a3 d hd (by rw [<-e];exact ht))
   ·rw [gj]
    exact (updL_same uj (fun e=>(c2 q e).1 hq)).symm
 |none=>
  cases pj with
  |none=>
   obtain ⟨s1',h3,h4⟩:=stepD_swap (stepX_none.1 h1) (stepX_none.1 h2) hc ha
   exact ⟨s1',stepX_none.2 h3,stepX_none.2 h4⟩
  |some y=>
   obtain ⟨rfl,rd,rfl,hp⟩:=stepX_pan.1 h2
   obtain ⟨vi,ui,ri,rfl,pi,si⟩:=stepD_some (stepX_none.1 h1)
   obtain ⟨gi,ni,di,ki,li,ti⟩:=put_some pi
   simp only at gi ni di ki ti c1 c2
   refine ⟨s,stepX_pan.2 ⟨rfl,rd,rfl,panIs_congr hp (fun t ht=>?_) (fun q hq=>?_)⟩,h1⟩
   ·rw [ti]
    cases hd:oi.dst with
    |none=>rfl
    |some d=>exact (upd_out (fun e=>a1 d hd (by rw [<-e];exact ht))).symm
   ·rw [gi]
    exact updL_same ui (fun e=>(c1 q e).1 hq)
end Go.Abs
