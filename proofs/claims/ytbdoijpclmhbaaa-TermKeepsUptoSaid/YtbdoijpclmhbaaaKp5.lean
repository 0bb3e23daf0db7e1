/- The abstract interpreter: code. -/
import Derived.Test.YtbdoijpclmhbaaaKp4
import Derived.RangeFuncRecord
import Derived.Ground.NamesProg
import Derived.Ground.Names2Prog
import Derived.Shelf.Slices.Clone
import Derived.Shelf.Sort.Plain
import Derived.Shelf.Slices.In.SortNone
import Derived.Test.YtbdoijpclmhbaaaProg
import Derived.Lib.SmallJoins
import Derived.WalkKit
import Derived.Maps.RangeRun
import Derived.Sort.OwnSortedInts
namespace Go.Abs
variable {M M' M'':Mem} {ρ ρ' ρ'':Ref} {G G' G'':Nat->Obj} {w w' w'':World} {nx nx':Nat} {Q Q' Q'' Q0:Nat->Prop} {P:Program} {C:Cfg} {L:Low}
variable {nt fid lf:Nat} {b:Frame} {cs:List Frame} {k:List Item} {ops:Array Oper} {i:Nat} {rest:List Nat} {o:Oper} {id:Nat} {s s':St} {a:Act}
def CodeEnd (P:Program) (nt:Nat) (b:Frame) (cs:List Frame) (k:List Item) (Q0 N Q:Nat->Prop) (w:World) (M:Mem) (ρ:Ref) (G0:Nat->Obj) (nx0:Nat) (m:Machine):Out->Prop
 | .norm s'=>∃ a' Q' w' M' ρ',Goes nt b cs Q0 N Q w M ρ G0 nx0 s' a' Q' w' M' ρ'/\Steps P m (lone (b.atR a' k) (csM s'.pk cs) w')
 | .exit id s'=>∃ a' Q' w' M' ρ' todo,Goes nt b cs Q0 N Q w M ρ G0 nx0 s' a' Q' w' M' ρ'/\exitTo id todo=exitTo id k/\Steps P m (lone (b.atR a' (.code (.exit id)::todo)) (csM s'.pk cs) w')
 | .ret s'=>∃ a' Q' w' M' ρ' todo,Goes nt b cs Q0 N Q w M ρ G0 nx0 s' a' Q' w' M' ρ'/\Steps P m (lone (b.atR a' (.code .ret::todo)) (csM s'.pk cs) w')
 | .pan v s'=>∃ a' Q' w' M' ρ' todo x,Goes nt b cs Q0 N Q w M ρ G0 nx0 s' a' Q' w' M' ρ'/\VI M' v x/\Steps P m (lone { b.atR a' todo with mode := .panicking [{ v:=x,recovered:=false }] } (csM s'.pk cs) w')
theorem CodeEnd.after {N N1 N2:Nat->Prop} {G1:Nat->Obj} {n0 n1:Nat} {m m1:Machine} {out:Out} (t:Tr N1 Q w M ρ G Q' w' M' ρ' G1) (hn:n0<=n1) (hs:Steps P m m1) (h:CodeEnd P nt b cs k Q0 N2 Q' w' M' ρ' G1 n1 m1 out) (h1:∀ o,N1 o->N o) (h2:∀ o,N2 o->N o) :
  CodeEnd P nt b cs k Q0 N Q w M ρ G n0 m out:=by
 cases out with
 |norm s'=>obtain ⟨a',Q',w',M',ρ',g,st⟩:=h;exact ⟨a',Q',w',M',ρ',g.after t hn h1 h2,hs.trans st⟩
 |pan v s'=>obtain ⟨a',Q',w',M',ρ',todo,x,g,hx,st⟩:=h;exact ⟨a',Q',w',M',ρ',todo,x,g.after t hn h1 h2,hx,hs.trans st⟩
 |exit id s'=>obtain ⟨a',Q',w',M',ρ',todo,g,hx,st⟩:=h;exact ⟨a',Q',w',M',ρ',todo,g.after t hn h1 h2,hx,hs.trans st⟩
 |ret s'=>obtain ⟨a',Q',w',M',ρ',todo,g,st⟩:=h;exact ⟨a',Q',w',M',ρ',todo,g.after t hn h1 h2,hs.trans st⟩
theorem CodeEnd.head {N:Nat->Prop} {n0:Nat} {m m1:Machine} {out:Out} (hs:step P m = .next m1) (h:CodeEnd P nt b cs k Q0 N Q w M ρ G n0 m1 out):CodeEnd P nt b cs k Q0 N Q w M ρ G n0 m out:=
 h.after (Tr.refl N _ _ _ _ _) (Nat.le_refl _) (.one hs) (fun _ h=>h) (fun _ h=>h)
theorem CodeEnd.of_line {N:Nat->Prop} {n0:Nat} {m:Machine} {out:Out} (h:LineEnd P nt b cs k Q0 N Q w M ρ G n0 m out):CodeEnd P nt b cs k Q0 N Q w M ρ G n0 m out:=by
 cases out with
 |norm s'=>exact h
 |pan v s'=>exact h
 |exit=>exact h.elim
 |ret=>exact h.elim
theorem CodeEnd.thru {N:Nat->Prop} {n0:Nat} {m:Machine} {out:Out} {k':List Item} (h:CodeEnd P nt b cs k' Q0 N Q w M ρ G n0 m out) (hn:∀ s,out ≠ .norm s) (hk:∀ id,(∃ s,out = .exit id s)->exitTo id k'=exitTo id k) :
  CodeEnd P nt b cs k Q0 N Q w M ρ G n0 m out:=by
 cases out with
 |norm s'=>exact absurd rfl (hn s')
 |pan v s'=>exact h
 |exit id s'=>obtain ⟨a',Q',w',M',ρ',todo,g,hx,st⟩:=h;exact ⟨a',Q',w',M',ρ',todo,g,hx.trans (hk id ⟨_,rfl⟩),st⟩
 |ret s'=>exact h
theorem region_ok (hC:CfgOK C) (hL:CallOK C.P L) (hR:RoundOK C.P L) {draw:Bool} {out:Out} (h:regionA C L nt ops draw s=some out) (hS:SR nt Q0 Q w M ρ s a) (hpk:PkOK M b cs s.pk) :
  LineEnd C.P nt b cs k Q0 (s.nx <= ·) Q w M ρ s.G s.nx (lone (b.atR a (.code (.region id ops draw)::k)) (csM s.pk cs) w) out:=by
 cases draw with
 |true=>exact drawn_ok hC hL hR h hS hpk
 |false=>
  unfold regionA at h
  simp only [Bool.false_eq_true,if_false] at h
  have hS':SR nt Q0 Q w M ρ { s with nx:=s.nx+ops.size } a:=⟨hS.inv.later (by simp),hS.tmps,hS.size,hS.sub,hS.dfr⟩
  have:=runA_ok hC hL hR (k:=k) (cs:=cs) (b:=b) _ h List.nodup_range (fun i hi=>⟨by simpa using hi,hS.inv.free _ (by omega)⟩) (Nat.le_refl _) hS' hpk
  exact LineEnd.after (Tr.refl (fun o=>s.nx<=o) _ _ _ _ _) (by simp) (.one stepR_region) this (fun _ h=>h) (fun _ h=>h)
theorem upd_self {ρ:Ref} {q:Nat} {v:Value} (h:ρ q=some v):upd ρ q (some v)=ρ:=by
 funext o;by_cases e:o=q<;>simp [upd,e,h]
theorem Inv.drop (h:Inv Q w M ρ G nx) {q l:Nat} {v:Value} (hl:(G q).live=true) (hf:(G q).frozen=false) (hq:ρ q=some v) (hb:blk v=some l) (hw:∀ b,b≠l->w'.heap[b]? = w.heap[b]?) (hsz:w.heap.size<=w'.heap.size) :
  Inv Q w' M ρ (upd G q .gone) nx/\Ev M ρ G M ρ (upd G q .gone):=by
 have hlt:q < nx:=by
  rcases Nat.lt_or_ge q nx with h1|h1
  ·exact h1
  ·rw [h.free q h1] at hq;cases hq
 have hv:Ev M ρ G M (upd ρ q (some v)) (upd G q .gone):=Ev.same hq (fun _ _ _ _ e=>by cases e)
 have:=h.put (x := .gone) (r:=v) (w':=w') hlt hv (fun b=>by
  by_cases e:b=l
  ·exact .inr (.inr ⟨hl,hf,v,hq,by rw [e];exact hb⟩)
  ·exact .inl (hw b e)) hsz (by unfold ObjOK;simp [upd]) (fun b hb => .inr ⟨hl,hf,v,hq,hb⟩)
 rw [upd_self hq] at this hv
 exact ⟨this,hv⟩
theorem WS.two (h:∀ b,w.heap.size<=b->Q b) (x y:Go.Obj):WS Q w ((w.alloc x).alloc y):=
 (WS.alloc h x).trans (WS.alloc (fun b hb=>h b (by simp at hb;omega)) y)
theorem DR.lt {ds:List (AV×List AV)} {dcs:List Deferred} (h:DR Q0 Q w M ρ G ds dcs):∀ x∈dcs,∀ r,x.target = .collected r->r < w.heap.size:=by
 induction h with
 |nil=>intro x hx;cases hx
 |cons f cap ht hg ha h ih=>
  intro x hx r e
  rcases List.mem_cons.1 hx with rfl|hx
  ·rw [ht] at e;cases e
  ·exact ih x hx r e
 |mark r' ht q0 q hm hr hn h ih=>
  intro x hx r e
  rcases List.mem_cons.1 hx with rfl|hx
  ·rw [ht] at e;cases e;exact (Array.getElem?_eq_some_iff.1 hr).1
  ·exact ih x hx r e
theorem rangeA_ok (hC:CfgOK C) (hL:CallOK C.P L) {f:Operand} {params:Array Tmp} {assign body:Code} {out:Out} (h:rangeA C L fid nt (ev s.tmps f) params.toList assign body s=some out) (hS:SR nt Q0 Q w M ρ s a)
  (hpk:PkOK M b cs s.pk) (hnr:s.pk ≠ .rnd) (hb:b.fn=fid):CodeEnd C.P nt b cs k Q0 (s.nx <= ·) Q w M ρ s.G s.nx (lone (b.atR a (.code (.rangeFunc f params assign body)::k)) (csM s.pk cs) w) out:=by
 have hro:b.roundOf=none:=by
  cases e:s.pk with
  |no=>rw [e] at hpk;exact hpk.2
  |rnd=>exact absurd e hnr
  |dfr m r=>rw [e] at hpk;cases m with
   |none=>exact hpk.2.1
   |some v=>exact hpk.2.1
 unfold rangeA at h
 split at h
 ·rename_i kf cap hfn
  obtain ⟨cv,hcv,hcap⟩:=fnOf_ok hfn (hS.tmps.ev f)
  have he:=run_enterLoop_outer (P:=C.P) (w:=w) b.fn a.tmps params assign body
  generalize hRec:({ state := .ready,pending:=none,fn:=b.fn,tmps:=a.tmps,params:=params,assign:=assign,body:=body,defers:=w.heap.size }:Loop)=R at he
  generalize hw1:(w.alloc (.deferred (some []))).alloc (.loop R)=w1 at he
  have hsz1:w1.heap.size=w.heap.size+2:=by rw [<-hw1];simp
  have hold:∀ b,b < w.heap.size->w1.heap[b]? = w.heap[b]? := fun b hb=>by
   rw [<-hw1,Go.RowKit.Below.heap_alloc _ _ b (by simp;omega),Go.RowKit.Below.heap_alloc _ _ b hb]
  have hD:w1.heap[w.heap.size]? = some (.deferred (some [])):=by
   rw [<-hw1,Go.RowKit.Below.heap_alloc _ _ _ (by simp)];exact heap_alloc_new w _
  have hLp:w1.heap[w.heap.size+1]? = some (.loop R):=by
   rw [<-hw1];have:=heap_alloc_new (w.alloc (.deferred (some []))) (.loop R);simpa using this
  -- the object
  have hfree:ρ s.nx=none:=hS.inv.free _ (Nat.le_refl _)
  let lp:Obj := .lp s.tmps nt params.toList assign body fid 0 none
  let yv:Value := .func (.yield (w.heap.size+1)) #[] #[]
  have hev:Ev M ρ s.G M (upd ρ s.nx (some yv)) (upd s.G s.nx lp):=Ev.new hfree
  have hInv1:Inv Q w1 M (upd ρ s.nx (some yv)) (upd s.G s.nx lp) (s.nx+2):=by
   refine (hS.inv.later (nx':=s.nx+2) (by omega)).put (by omega) hev (fun b=>?_) (by omega) ?_ (fun b hb => .inl ?_)
   ·rcases Nat.lt_or_ge b w.heap.size with h1|h1
    ·exact .inl (hold b h1)
    ·exact .inr (.inl h1)
   ·unfold ObjOK
    simp only [upd,if_true,lp]
    refine ⟨w.heap.size+1,R,rfl,hLp,?_⟩
    subst hRec
    exact ⟨fun t=>(hS.tmps t).mono hev,hS.size,rfl,rfl,rfl,hb, .inl ⟨rfl,rfl⟩,rfl⟩
   ·simp only [yv,blk,Option.some.injEq] at hb;omega
  let Q1:Nat->Prop:=fun x=>Q x/\x≠w.heap.size
  have hlive:∀ o v b,(upd s.G s.nx lp o).live=true->upd ρ s.nx (some yv) o=some v->blk v=some b->b≠w.heap.size:=by
   intro o v b hl hv hb
   by_cases ho:o=s.nx
   ·subst ho
    simp only [upd,if_true,Option.some.injEq] at hv
    subst hv
    simp only [yv,blk,Option.some.injEq] at hb
    omega
   ·simp only [upd,if_neg ho] at hl hv
    have:=hS.inv.lt hl hv hb
    omega
  have hInv2:Inv Q1 w1 M (upd ρ s.nx (some yv)) (upd s.G s.nx lp) (s.nx+2):=
   { hInv1 with own:=fun o v b h1 h2 h3 h4=>⟨(hInv1.own o v b h1 h2 h3 h4).1,(hInv1.own o v b h1 h2 h3 h4).2,hlive o v b h1 h3 h4⟩,new:=fun b hb=>⟨hInv1.new b hb,by omega⟩ }
  have hws:WS Q w w1:=by rw [<-hw1];exact WS.two hS.inv.new _ _
  have t1:Tr (s.nx <= ·) Q w M ρ s.G Q1 w1 M (upd ρ s.nx (some yv)) (upd s.G s.nx lp):=
   ⟨fun _ h=>h.1,hev,hws,MQ.refl _ _,fun o ho e=>by simp only [upd];rw [if_neg (by omega)];exact e⟩
  have hMnew:M w.heap.size=none:=by
   cases e:M w.heap.size with
   |none=>rfl
   |some x=>have:=(Array.getElem?_eq_some_iff.1 (hS.inv.mem _ _ e)).1;omega
  have hdr:DR Q0 Q1 w1 M (upd ρ s.nx (some yv)) (upd s.G s.nx lp) s.defers ([{ target := .collected w.heap.size,args := #[] }]++a.defers):=by
   refine .mark w.heap.size rfl (hS.sub _ (hS.inv.new _ (Nat.le_refl _))) (fun e=>e.2 rfl) hMnew hD ?_ (hS.dfr.mono t1)
   exact fun x hx e=>by have:=hS.dfr.lt x hx _ e;omega
  let s1:St:={ s with nx:=s.nx+2,G:=upd s.G s.nx lp }
  let a1:Act:={ a with defers:=[{ target := .collected w.heap.size,args := #[] }]++a.defers }
  have hS1:SR nt Q0 Q1 w1 M (upd ρ s.nx (some yv)) s1 a1:=⟨hInv2,hS.tmps.mono hev,hS.size,fun b hb=>hS.sub b hb.1,hdr⟩
  have hyq:upd ρ s.nx (some yv) s.nx=some yv:=by simp [upd]
  have hargs:VL (VA M (upd ρ s.nx (some yv)) s1.G) (.yld s.nx::cap) (#[yv]++cv):=
   VL_append (l:=[.yld s.nx]) ⟨rfl,fun i x hx=>by
    match i,hx with
    |0,hx=>simp at hx;subst hx;exact .yld _ _ hyq
    |i+1,hx=>simp at hx⟩ (hcap.imp fun _ _=>VA.mono hev)
  have hN:∀ o,(o=s.nx+1\/s.nx+2<=o)->s.nx<=o:=fun o e=>by omega
  have hstep:∀ h1:PInv C.P kf,step C.P (lone (b.atR a (.code (.rangeFunc f params assign body)::k)) (csM s.pk cs) w) =
    .next (lone (Frame.enter C.P kf (#[yv]++cv) .normal) (b.atR a1 (.inRangeFunc (w.heap.size+1)::k)::csM s.pk cs) w1):=fun h1=>by
   rw [<-hro] at he
   refine stepR_rangeFunc he (d:={ target := .fn (.func kf) cv,args := #[yv] }) (w₁':=w1) ?_ ?_
   ·simp [resolve,eval_evV,hcv,Deferred.ofValue];simp [evV,yv]
   ·simp [invoke,run_callFunc hC h1]
  split at h
  ·rename_i v s2 hcall
   obtain ⟨h1,e2,hn2,Q2,w2,M2,ρ2,cv2,t2,hi2,st2,hv2⟩:=callA_ok hC hL hcall (vs := #[yv]++cv) (c:=b.atR a1 (.inRangeFunc (w.heap.size+1)::k)) (cs:=csM s.pk cs) hS1.inv
    (by simp only [upd];rw [if_neg (by omega)];exact hS.inv.free _ (by omega)) (by simp) hargs
   have hS2:=hS1.turn t2 hi2
   rw [<-e2] at hS2
   rw [finish_atR_inRangeFunc] at st2
   have hq2:ρ2 s.nx=some yv:=by
    rcases t2.ev.ref _ _ hyq with h3|⟨⟨_,_,_,h3⟩,_⟩
    ·exact h3
    ·simp [yv] at h3
   split at h
   ·rename_i tm nt' pr as' bd' fn' st pending hG
    split at h
    ·cases h
    ·rename_i hst1
     have hobj:=hi2.obj s.nx
     unfold ObjOK at hobj
     rw [hG] at hobj
     obtain ⟨l',r',hq3,hheap,hLI⟩:=hobj
     rw [hq2] at hq3
     have hl':l'=w.heap.size+1:=by simp only [yv,Option.some.injEq,Value.func.injEq,Fn.yield.injEq] at hq3;exact hq3.1.symm
     subst hl'
     have hbusy:r'.state ≠ .busy:=by
      rcases hLI.state with ⟨_,h3⟩|⟨h3,_⟩|⟨_,h3⟩
      ·rw [h3];simp
      ·exact absurd h3 hst1
      ·rw [h3];simp
     have hend:=run_endLoop (P:=C.P) hheap hbusy
     have hlt2:w.heap.size+1 < w2.heap.size:=(Array.getElem?_eq_some_iff.1 hheap).1
     obtain ⟨hi3,hev3⟩:=hi2.drop (q:=s.nx) (l:=w.heap.size+1) (v:=yv) (w':=w2.putObj (w.heap.size+1) (.loop { r' with state := .exhausted })) (by rw [hG];rfl) (by rw [hG];rfl) hq2 rfl
      (fun b hb=>World.putObj_heap_other hb) (by simp [World.putObj])
     have hQ2:Q2 (w.heap.size+1):=(hi2.own s.nx yv _ (by rw [hG];rfl) (by rw [hG];rfl) hq2 rfl).2
     have t3:Tr (s.nx <= ·) Q2 w2 M2 ρ2 s2.G Q2 (w2.putObj (w.heap.size+1) (.loop { r' with state := .exhausted })) M2 ρ2 (upd s2.G s.nx .gone):=
      ⟨fun _ h=>h,hev3,⟨rfl,rfl,rfl,by simp [World.putObj],fun b hb=>World.putObj_heap_other (fun e=>hb (e▸hQ2))⟩,MQ.refl _ _,fun _ _ h=>h⟩
     have hS3:=hS2.turn t3 hi3
     have epk:s2.pk=s.pk:=by rw [e2]
     have g:Goes nt b cs Q0 (s.nx <= ·) Q w M ρ s.G s.nx { s2 with G:=upd s2.G s.nx .gone } a1 Q2 (w2.putObj (w.heap.size+1) (.loop { r' with state := .exhausted })) M2 ρ2:=
      ⟨(t1.trans t2 (N:=fun o=>s.nx<=o) (fun _ h=>h) hN).trans t3 (fun _ h=>h) (fun _ h=>h),by have:s.nx+2<=s2.nx:=hn2;show s.nx<=s2.nx;omega,hS3,
       by show PkOK M2 b cs s2.pk;rw [epk];exact hpk.mono (Mem.le_trans t1.ev.mem t2.ev.mem)⟩
     have st3:=stepR_endRangeFunc (P:=C.P) (b:=b) (a:=a1) (k:=k) (cs:=csM s.pk cs) hend
     generalize w2.putObj (w.heap.size+1) (.loop { r' with state := .exhausted })=w3 at g st3
     have stAll:=(Steps.one (hstep h1)).trans (st2.trans (.one st3))
     rw [hLI.pending] at stAll
     split at h
     ·cases h
      exact ⟨a1,Q2,_,M2,ρ2,g,by show Steps _ _ (lone _ (csM s2.pk cs) _);rw [epk];exact stAll⟩
     ·rename_i id'
      cases h
      exact ⟨a1,Q2,_,M2,ρ2,k,g,rfl,by show Steps _ _ (lone _ (csM s2.pk cs) _);rw [epk];exact stAll⟩
     ·cases h
      exact ⟨a1,Q2,_,M2,ρ2,k,g,by show Steps _ _ (lone _ (csM s2.pk cs) _);rw [epk];exact stAll⟩
     ·cases h
   ·cases h
  ·rename_i v s2 hcall
   cases h
   obtain ⟨h1,e2,hn2,Q2,w2,M2,ρ2,x,t2,hi2,st2,hx⟩:=callA_ok hC hL hcall (vs := #[yv]++cv) (c:=b.atR a1 (.inRangeFunc (w.heap.size+1)::k)) (cs:=csM s.pk cs) hS1.inv
    (by simp only [upd];rw [if_neg (by omega)];exact hS.inv.free _ (by omega)) (by simp) hargs
   have hS2:=hS1.turn t2 hi2
   rw [<-e2] at hS2
   have epk:s2.pk=s.pk:=by rw [e2]
   refine ⟨a1,Q2,w2,M2,ρ2, .inRangeFunc (w.heap.size+1)::k,x,⟨t1.trans t2 (fun _ h=>h) hN,by have:s.nx+2<=s2.nx:=hn2;omega,hS2,?_⟩,hx,?_⟩
   ·rw [epk];exact hpk.mono (Mem.le_trans t1.ev.mem t2.ev.mem)
   ·rw [epk];exact (Steps.one (hstep h1)).trans st2
  ·cases h
 ·cases h
theorem stepR_scope {c:Code}:step P (lone (b.atR a (.code (.scope c)::k)) cs w) = .next (lone (b.atR a (.code c :: .inScope c::k)) cs w):=
 step_lone_go (by simp [stepG,stepG.exec,Frame.atR])
theorem stepR_inScope {c:Code}:step P (lone (b.atR a (.inScope c::k)) cs w) = .next (lone (b.atR a k) cs w):=
 step_lone_go (by simp [stepG,stepG.exec,Frame.atR])
def CodeOK (P:Program) (nt:Nat) (b:Frame) (cs:List Frame) (Q0:Nat->Prop) (c:Code) (s:St) (out:Out):Prop:=
 ∀ (Q:Nat->Prop) (w:World) (M:Mem) (ρ:Ref) (a:Act) (k:List Item),SR nt Q0 Q w M ρ s a->PkOK M b cs s.pk ->
  CodeEnd P nt b cs k Q0 (s.nx <= ·) Q w M ρ s.G s.nx (lone (b.atR a (.code c::k)) (csM s.pk cs) w) out
theorem loop_ok {c:Code} {f:St->Option Out} (hc:∀ s out,f s=some out->CodeOK P nt b cs Q0 c s out):∀ (n:Nat) (s:St) (out:Out),iter f n s=some out->CodeOK P nt b cs Q0 (.loop c) s out /\
  ∀ (Q:Nat->Prop) (w:World) (M:Mem) (ρ:Ref) (a:Act) (k:List Item),SR nt Q0 Q w M ρ s a->PkOK M b cs s.pk->CodeEnd P nt b cs k Q0 (s.nx <= ·) Q w M ρ s.G s.nx (lone (b.atR a (.code c :: .inLoop c::k)) (csM s.pk cs) w) out
 |0,s,out,h=>by cases h
 |n+1,s,out,h=>by
  have key:∀ (Q:Nat->Prop) (w:World) (M:Mem) (ρ:Ref) (a:Act) (k:List Item),SR nt Q0 Q w M ρ s a->PkOK M b cs s.pk->CodeEnd P nt b cs k Q0 (s.nx <= ·) Q w M ρ s.G s.nx (lone (b.atR a (.code c :: .inLoop c::k)) (csM s.pk cs) w) out:=by
   intro Q w M ρ a k hS hpk
   simp only [iter] at h
   split at h
   ·rename_i s1 h1
    obtain ⟨a1,Q1,w1,M1,ρ1,g,st⟩:=hc _ _ h1 Q w M ρ a (.inLoop c::k) hS hpk
    have:=(loop_ok hc n s1 out h).2 Q1 w1 M1 ρ1 a1 k g.sr g.pk
    exact CodeEnd.after g.tr g.nx (st.trans (.one stepR_inLoop)) this (fun _ h=>h) (fun o h=>Nat.le_trans g.nx h)
   ·rename_i x hx
    have h1:=hc _ _ h Q w M ρ a (.inLoop c::k) hS hpk
    exact h1.thru (fun s' e=>hx s' (by rw [h,e])) (fun id _=>rfl)
  exact ⟨fun Q w M ρ a k hS hpk => .head stepR_loop (key Q w M ρ a k hS hpk),key⟩
theorem code_ok (hC:CfgOK C) (hL:CallOK C.P L) (hR:RoundOK C.P L) (hb:b.fn=fid):∀ (c:Code) (s:St) (out:Out),code C L lf fid nt c s=some out->CodeOK C.P nt b cs Q0 c s out:=by
 intro c
 induction c with
 |skip=>
  intro s out h Q w M ρ a k hS hpk
  cases h
  exact ⟨a,Q,w,M,ρ,⟨Tr.refl _ _ _ _ _ _,Nat.le_refl _,hS,hpk⟩, .one stepR_skip⟩
 |region id ops draw=>
  intro s out h Q w M ρ a k hS hpk
  exact .of_line (region_ok hC hL hR h hS hpk)
 |seq x y ihx ihy=>
  intro s out h Q w M ρ a k hS hpk
  simp only [code] at h
  refine .head stepR_seq ?_
  split at h
  ·rename_i s1 h1
   obtain ⟨a1,Q1,w1,M1,ρ1,g,st⟩:=ihx _ _ h1 Q w M ρ a (.code y::k) hS hpk
   exact CodeEnd.after g.tr g.nx st (ihy _ _ h Q1 w1 M1 ρ1 a1 k g.sr g.pk) (fun _ h=>h) (fun o h=>Nat.le_trans g.nx h)
  ·rename_i z hz
   exact (ihx _ _ h Q w M ρ a (.code y::k) hS hpk).thru (fun s' e=>hz s' (by rw [h,e])) (fun id _=>rfl)
 |cond c x y ihx ihy=>
  intro s out h Q w M ρ a k hS hpk
  simp only [code] at h
  split at h
  ·rename_i t ht
   have hv:=hS.tmps.ev c
   rw [ht] at hv
   refine .head (stepR_cond (t:=t) (by rw [eval_evV];exact hv.bool_inv)) ?_
   cases t
   ·exact ihy _ _ h Q w M ρ a k hS hpk
   ·exact ihx _ _ h Q w M ρ a k hS hpk
  ·cases h
 |block id x ih=>
  intro s out h Q w M ρ a k hS hpk
  simp only [code] at h
  refine .head stepR_block ?_
  split at h
  ·rename_i id' s1 h1
   obtain ⟨a1,Q1,w1,M1,ρ1,todo,g,he,st⟩:=ih _ _ h1 Q w M ρ a (.inBlock id::k) hS hpk
   split at h
   ·rename_i hid
    cases h
    subst hid
    exact ⟨a1,Q1,w1,M1,ρ1,g,st.trans (.one (stepR_exit (by rw [he];simp [exitTo])))⟩
   ·rename_i hid
    cases h
    exact ⟨a1,Q1,w1,M1,ρ1,todo,g,by rw [he];simp [exitTo,Ne.symm hid],st⟩
  ·rename_i z hz
   cases out with
   |norm s'=>
    obtain ⟨a1,Q1,w1,M1,ρ1,g,st⟩:=ih _ _ h Q w M ρ a (.inBlock id::k) hS hpk
    exact ⟨a1,Q1,w1,M1,ρ1,g,st.trans (.one stepR_inBlock)⟩
   |exit id' s'=>exact absurd h (hz id' s')
   |_=>exact (ih _ _ h Q w M ρ a (.inBlock id::k) hS hpk).thru (fun s' e=>by cases e) (fun id e=>by obtain ⟨_,e⟩:=e;cases e)
 |loop x ih=>
  intro s out h
  exact (loop_ok ih lf s out h).1
 |label l=>
  intro s out h Q w M ρ a k hS hpk
  cases h
  exact ⟨a,Q,w,M,ρ,⟨Tr.refl _ _ _ _ _ _,Nat.le_refl _,hS,hpk⟩, .one stepR_label⟩
 |scope x ih=>
  intro s out h Q w M ρ a k hS hpk
  simp only [code] at h
  refine .head (stepR_scope) ?_
  have hB:=ih _ _ h Q w M ρ a (.inScope x::k) hS hpk
  cases out with
  |norm s'=>
   obtain ⟨a1,Q1,w1,M1,ρ1,g,st⟩:=hB
   exact ⟨a1,Q1,w1,M1,ρ1,g,st.trans (.one stepR_inScope)⟩
  |_=>exact hB.thru (fun s' e=>by cases e) (fun id _=>by simp [exitTo])
 |exit id=>
  intro s out h Q w M ρ a k hS hpk
  cases h
  exact ⟨a,Q,w,M,ρ,k,⟨Tr.refl _ _ _ _ _ _,Nat.le_refl _,hS,hpk⟩,rfl,Steps.refl _ _⟩
 |ret=>
  intro s out h Q w M ρ a k hS hpk
  cases h
  exact ⟨a,Q,w,M,ρ,k,⟨Tr.refl _ _ _ _ _ _,Nat.le_refl _,hS,hpk⟩,Steps.refl _ _⟩
 |rangeFunc f params assign body=>
  intro s out h Q w M ρ a k hS hpk
  simp only [code] at h
  split at h
  ·cases h
  ·rename_i hnr
   exact rangeA_ok hC hL h hS hpk hnr hb
 |_=>intro s out h;cases h
/-! ### leaving -/
theorem load_as {t:TypeId} {c u:Value} (h:(Instr.loadAt t c).run P w = .ok u w):(do loadVar t (<-asAddr c):Sem Value).run P w = .ok u w:=by
 unfold Instr.loadAt at h
 cases c with
 |pointer p=>
  cases p with
  |some a=>simpa [Instr.sureAddr,asAddr] using h
  |none=>simp [Instr.sureAddr,stuck] at h
 |_=>simp [Instr.sureAddr,stuck] at h
theorem resultsL_ok {arr:Array Value} {f:ResultVar->Sem Value} (f1:∀ t,f (.tmp t)=pure (arr.getD t undef)) (f2:∀ a t,f (.cell a t)=(do loadVar t (<-asAddr (arr.getD a undef)))):∀ (rs:List ResultVar) (l:List AV),resultsL C s rs=some l->Inv Q w M ρ s.G s.nx->TR M ρ s.G s.tmps arr ->
  ∃ vs:List Value,(rs.mapM f).run C.P w = .ok vs w/\VL (VA M ρ s.G) l vs.toArray
 |[],l,h,hI,hT=>by cases h;exact ⟨[],by simp,rfl,by simp⟩
 |r::rs,l,h,hI,hT=>by
  simp only [resultsL] at h
  split at h
  ·rename_i v l' h1 h2
   cases h
   obtain ⟨vs,h3,h4⟩:=resultsL_ok f1 f2 rs l' h2 hI hT
   have:∃ c,(f r).run C.P w = .ok c w/\VA M ρ s.G v c:=by
    cases r with
    |tmp t=>simp only [resultA,Option.some.injEq] at h1;subst h1;rw [f1];exact ⟨_,rfl,hT t⟩
    |cell a t=>
     simp only [resultA] at h1
     split at h1
     ·rename_i v' ups hld
      cases h1
      obtain ⟨_,u,h5,h6⟩:=aLoad_ok (w:=w) hld hI (hT a)
      rw [f2];exact ⟨u,load_as h5,h6⟩
     ·cases h1
   obtain ⟨c,h5,h6⟩:=this
   refine ⟨c::vs,?_,?_⟩
   ·simp only [List.mapM_cons,Sem.run_bind,h5,Result.andThen_ok,h3,Sem.run_pure]
   ·refine ⟨by simp [h4.1],fun i x hx=>?_⟩
    cases i with
    |zero=>simp at hx;subst hx;simpa [at_,Array.getD_eq_getD_getElem?] using h6
    |succ i=>
     have:=h4.2 i x (by simpa using hx)
     simpa [at_,Array.getD_eq_getD_getElem?] using this
  ·cases h
end Go.Abs

/- The abstract interpreter: functions. -/
namespace Go.Abs
variable {M M' M'':Mem} {ρ ρ' ρ'':Ref} {G G' G'':Nat->Obj} {w w' w'':World} {nx nx':Nat} {Q Q' Q'' Q0:Nat->Prop} {P:Program} {C:Cfg} {L:Low}
variable {nt fid lf:Nat} {b:Frame} {cs:List Frame} {k:List Item} {ops:Array Oper} {i:Nat} {rest:List Nat} {o:Oper} {id:Nat} {s s':St} {a:Act}
theorem results_ok {fn:Func} {v:AV} {arr:Array Value} (h:resultsA C s fn.results.toList=some v) (hI:Inv Q w M ρ s.G s.nx) (hT:TR M ρ s.G s.tmps arr):∃ cv,(results fn arr).run C.P w = .ok cv w/\VA M ρ s.G v cv:=by
 have key:∀ l,resultsL C s fn.results.toList=some l->∃ vs:Array Value,(results fn arr).run C.P w = .ok (if h:vs.size=1 then vs[0] else .tuple vs) w/\VL (VA M ρ s.G) l vs:=by
  intro l hl
  unfold results
  rw [Array.mapM_eq_mapM_toList]
  generalize hf:(fun x:ResultVar=>_)=f
  obtain ⟨vs,h1,h2⟩:=resultsL_ok (w:=w) (f:=f) (by subst hf;intro t;rfl) (by subst hf;intro a t;rfl) _ l hl hI hT
  refine ⟨vs.toArray,?_,h2⟩
  simp only [Sem.run_bind,map_eq_pure_bind,h1,Result.andThen_ok,Sem.run_pure]
 unfold resultsA at h
 split at h
 ·rename_i v' hv
  cases h
  obtain ⟨vs,h1,h2⟩:=key _ hv
  have hs:vs.size=1:=by have:=h2.1;simpa using this.symm
  refine ⟨vs[0],?_,?_⟩
  ·rw [h1,dif_pos hs]
  ·have:=h2.2 0 v rfl
   simpa [at_,Array.getD_eq_getD_getElem?,hs] using this
 ·rename_i l hne hl
  cases h
  obtain ⟨vs,h1,h2⟩:=key _ hl
  have hs:vs.size≠1:=fun e=>by
   have:=h2.1
   rw [e] at this
   match l,this with
   |[x],_=>exact hne x rfl
  exact ⟨.tuple vs,by rw [h1,dif_neg hs],VA_mkTup h2⟩
 ·cases h
theorem Tr.trans0 {N:Nat->Prop} (h:Tr N Q w M ρ G Q' w' M' ρ' G') (k:Tr N Q w' M' ρ' G' Q'' w'' M'' ρ'' G''):Tr N Q w M ρ G Q'' w'' M'' ρ'' G'':=
 ⟨k.sub,h.ev.trans k.ev,h.ws.trans k.ws,h.mq.trans k.mq,fun o ho hr=>k.born o ho (h.born o ho hr)⟩
theorem DR.put {r:Nat} {x:Go.Obj} {ds:List (AV×List AV)} {dcs:List Deferred} (h:DR Q0 Q w M ρ G ds dcs) (hn:∀ x∈dcs,x.target ≠ .collected r):DR Q0 Q (w.putObj r x) M ρ G ds dcs:=by
 induction h with
 |nil=>exact .nil
 |cons f cap ht hg ha h ih=>exact .cons f cap ht hg ha (ih fun x hx=>hn x (by simp [hx]))
 |mark r' ht q0 q hm hr hn' h ih=>
  have:r'≠r:=fun e=>hn _ (List.Mem.head _) (by rw [ht,e])
  exact .mark r' ht q0 q hm ((World.putObj_heap_other this).trans hr) hn' (ih fun x hx=>hn x (by simp [hx]))
def ModeOK (M:Mem) (fr:Frame):Option IV->Prop
 |none=>fr.mode = .returning
 |some v=>∃ x,fr.mode = .panicking [{ v:=x,recovered:=false }]/\VI M v x
theorem ModeOK.ne {fr:Frame} {m:Option IV} (h:ModeOK M fr m):fr.mode ≠ .run:=by
 cases m with
 |none=>rw [show fr.mode = .returning from h];simp
 |some v=>obtain ⟨x,h,_⟩:=h;rw [h];simp
theorem ModeOK.mono {fr fr':Frame} {m:Option IV} (h:ModeOK M fr m) (hm:M.le M') (hf:fr'.mode=fr.mode):ModeOK M' fr' m:=by
 cases m with
 |none=>exact hf.trans h
 |some v=>obtain ⟨x,h,hv⟩:=h;exact ⟨x,hf.trans h,hv.mono hm⟩
def Left (C:Cfg) (N Q0:Nat->Prop) (w:World) (M:Mem) (ρ:Ref) (G:Nat->Obj) (nx:Nat) (fr:Frame) (cs:List Frame) (res:CR):Prop:=
 ∃ Q' w' M' ρ' fr',Tr N Q0 w M ρ G Q' w' M' ρ' res.mem/\Inv Q' w' M' ρ' res.mem res.lim/\nx<=res.lim/\Steps C.P (lone fr cs w) (lone fr' cs w')/\fr'.defers=[]/\fr'.kind=fr.kind/\fr'.fn=fr.fn /\
  match res with
  | .ret v G' _=>∃ cv fn,fr'.mode = .returning/\C.P.funcs[fr.fn]? = some fn/\(results fn fr'.tmps).run C.P w' = .ok cv w'/\VA M' ρ' G' v cv
  | .pan v _ _=>∃ x,fr'.mode = .panicking [{ v:=x,recovered:=false }]/\VI M' v x
theorem leave_ok (hC:CfgOK C) (hL:CallOK C.P L) {rs:List ResultVar} {N:Nat->Prop}:∀ (dcs:List Deferred) (ds:List (AV×List AV)) (m:Option IV) (s:St) (Q:Nat->Prop) (w:World) (M:Mem) (ρ:Ref) (fr:Frame) (cs:List Frame) (fn:Func) (res:CR) (pk':Pk),
  leaveA C L rs ds m s=some (res,pk')->fr.defers=dcs->DR Q0 Q w M ρ s.G ds dcs->Inv Q w M ρ s.G s.nx->(∀ b,Q b->Q0 b)->TR M ρ s.G s.tmps fr.tmps->ModeOK M fr m->C.P.funcs[fr.fn]? = some fn->(m=none->fn.results.toList=rs)->(∀ v,m=some v->fn.results.toList=rs\/ds=[]) ->
  (∀ o,s.nx<=o->N o)->pk'=s.pk/\Left C N Q0 w M ρ s.G s.nx fr cs res:=by
 intro dcs
 induction dcs with
 |nil=>
  intro ds m s Q w M ρ fr cs fn res pk' h hd hD hI hsub hT hm hf hrs hrs' hN
  cases hD
  cases m with
  |none=>
   simp only [leaveA] at h
   split at h
   ·rename_i v hv
    cases h
    rw [<-hrs rfl] at hv
    obtain ⟨cv,h1,h2⟩:=results_ok (w:=w) hv hI hT
    exact ⟨rfl,Q,w,M,ρ,fr,⟨hsub,Ev.refl _ _ _,WS.refl _ _,MQ.refl _ _,fun _ _ h=>h⟩,hI,Nat.le_refl _,Steps.refl _ _,hd,rfl,rfl,cv,fn,hm,hf,h1,h2⟩
   ·cases h
  |some v=>
   cases h
   obtain ⟨x,h1,h2⟩:=hm
   exact ⟨rfl,Q,w,M,ρ,fr,⟨hsub,Ev.refl _ _ _,WS.refl _ _,MQ.refl _ _,fun _ _ h=>h⟩,hI,Nat.le_refl _,Steps.refl _ _,hd,rfl,rfl,x,h1,h2⟩
 |cons d dcs ih=>
  intro ds m s Q w M ρ fr cs fn res pk' h hd hD hI hsub hT hm hf hrs hrs' hN
  cases hD with
  |mark r ht q0 q hMr hr hn hD'=>
   have hst:=step_collected (cs:=cs) (P:=C.P) hm.ne hd ht (run_takeDeferred hr)
   have hlt:=(Array.getElem?_eq_some_iff.1 hr).1
   have hsz:w.heap.size<=(w.putObj r (.deferred none)).heap.size:=by simp [World.putObj]
   have hI':Inv Q (w.putObj r (.deferred none)) M ρ s.G s.nx:=hI.turn (fun b=>by
    by_cases e:b=r
    ·exact .inr ⟨e▸q,e▸hMr⟩
    ·exact .inl (World.putObj_heap_other e)) hsz
   have t0:Tr N Q0 w M ρ s.G Q0 (w.putObj r (.deferred none)) M ρ s.G:=
    ⟨fun _ h=>h,Ev.refl _ _ _,⟨rfl,rfl,rfl,hsz,fun b hb=>World.putObj_heap_other fun e=>hb (e▸q0)⟩,MQ.refl _ _,fun _ _ h=>h⟩
   obtain ⟨hp,Q',w',M',ρ',fr',t,i',n',st,h1,h2,h3,h4⟩:=ih ds m s Q (w.putObj r (.deferred none)) M ρ { fr with defers:=[]++dcs } cs fn res pk' h rfl (hD'.put hn) hI' hsub hT (hm.mono (Mem.le_refl M) rfl) hf hrs hrs' hN
   exact ⟨hp,Q',w',M',ρ',fr',t0.trans0 t,i',n', .head hst st,h1,h2,h3,h4⟩
  |cons f cap ht hg ha hD'=>
   rename_i g ars ds
   simp only [leaveA] at h
   split at h
   ·rename_i kf cap' hfn
    obtain ⟨cv,hcv,hcap⟩:=fnOf_ok hfn hg
    simp only [Value.func.injEq] at hcv
    obtain ⟨rfl, -,rfl⟩:=hcv
    split at h
    ·rename_i v2 G2 n2 m2 recd hcall
     obtain ⟨hP,hcontract⟩:=hL _ _ _ _ _ _ _ hcall
     have hinv:(invoke d.target d.args).run C.P w = .ok (.enter kf (d.args++cap)) w:=by rw [ht];simp [invoke,run_callFunc hC hP]
     have hst:=step_defer (cs:=cs) hm.ne hd ht hinv
     have hpk0:PkOK M (Frame.enter C.P kf (d.args++cap) .deferred) ({ fr with defers:=dcs }::cs) (.dfr m false):=by
      cases m with
      |none=>exact ⟨rfl,rfl,_,_,rfl,hm⟩
      |some v=>obtain ⟨x,h1,h2⟩:=hm;exact ⟨rfl,rfl,_,_,x,rfl,h1,h2⟩
     obtain ⟨Q2,w2,M2,ρ2,t2,i2,le2,pk2,e2⟩:=hcontract Q w M ρ (d.args++cap) .deferred ({ fr with defers:=dcs }::cs) hI (VL_append ha hcap) hpk0
     obtain ⟨fr2,cv2,fn2,st2,hm2,hd2,hk2,hfn2,hf2,hr2,hv2⟩:=e2
     have hcs0:csM (.dfr m false) ({ fr with defers:=dcs }::cs)={ fr with defers:=dcs }::cs:=by cases m<;>rfl
     rw [hcs0] at st2
     have key:∀ (c':Frame),csM (.dfr m2 recd) ({ fr with defers:=dcs }::cs)=c'::cs->step C.P (lone fr2 (csM (.dfr m2 recd) ({ fr with defers:=dcs }::cs)) w2) = .next (lone { c' with mode:=settle c'.mode } cs w2):=by
      intro c' hc'
      rw [hc']
      exact step_going_returned hk2 ⟨hm2,hd2,fn2,by rw [hfn2];exact hf2,hr2⟩
     have hmode:∃ c':Frame,csM (.dfr m2 recd) ({ fr with defers:=dcs }::cs)=c'::cs/\c'.fn=fr.fn/\c'.kind=fr.kind/\c'.tmps=fr.tmps/\c'.defers=dcs/\ModeOK M2 { c' with mode:=settle c'.mode } (if recd then none else m):=by
      cases m with
      |none=>
       have hm:fr.mode = .returning:=hm
       cases m2 with
       |some v'=>obtain ⟨_,_,c,rest,x,e,h4,_⟩:=pk2;cases e;rw [show ({ fr with defers:=dcs }:Frame).mode=fr.mode from rfl,hm] at h4;cases h4
       |none=>
        refine ⟨{ fr with defers:=dcs },rfl,rfl,rfl,rfl,rfl,?_⟩
        cases recd<;>(show settle fr.mode = .returning;rw [hm];rfl)
      |some v=>
       obtain ⟨x,hmx,hvx⟩:=hm
       cases m2 with
       |none=>obtain ⟨_,_,c,rest,e,h4⟩:=pk2;cases e;rw [show ({ fr with defers:=dcs }:Frame).mode=fr.mode from rfl,hmx] at h4;cases h4
       |some v'=>
        cases recd with
        |false=>
         refine ⟨{ fr with defers:=dcs },rfl,rfl,rfl,rfl,rfl,x,?_,hvx.mono t2.ev.mem⟩
         show settle fr.mode=_
         rw [hmx];rfl
        |true=>
         refine ⟨{ fr with defers:=dcs,mode := .panicking [{ v:=x,recovered:=true }] },?_,rfl,rfl,rfl,rfl,rfl⟩
         simp [csM,hmx]
     obtain ⟨c',hc',hcf,hck,hct,hcd,hcm⟩:=hmode
     have hD2:=hD'.mono t2
     have hT2:TR M2 ρ2 G2 s.tmps ({ c' with mode:=settle c'.mode }:Frame).tmps:=by show TR M2 ρ2 G2 s.tmps c'.tmps;rw [hct];exact hT.mono t2.ev
     have hrs2:fn.results.toList=rs:=by
      cases m with
      |none=>exact hrs rfl
      |some v=>
            rcases hrs' v rfl with h|h
            ·exact h
            ·cases h
     obtain ⟨hp,Q',w',M',ρ',fr',t,i',n',st,h1,h2,h3,h4⟩:=ih ds (if recd then none else m) { s with G:=G2,nx:=n2 } Q2 w2 M2 ρ2 { c' with mode:=settle c'.mode } cs fn res pk' h hcd hD2 i2 (fun b hb=>hsub b (t2.sub b hb)) hT2 hcm (by show C.P.funcs[c'.fn]? = _;rw [hcf];exact hf) (fun _=>hrs2) (fun _ _ => .inl hrs2) (fun o ho=>hN o (Nat.le_trans le2 ho))
     have t2':Tr N Q0 w M ρ s.G Q0 w2 M2 ρ2 G2:=⟨fun _ h=>h,t2.ev,t2.ws.sub hsub,t2.mq.sub hsub,fun o ho e=>t2.born o (fun hh=>ho (hN o hh)) e⟩
     refine ⟨hp,Q',w',M',ρ',fr',t2'.trans0 t,i',Nat.le_trans le2 n', .head hst (st2.trans (.head (key c' hc') st)),h1,h2.trans hck,h3.trans hcf,?_⟩
     cases res with
     |ret v G' n=>obtain ⟨cv,fn',g1,g2,g3,g4⟩:=h4;exact ⟨cv,fn',g1,by rw [<-hcf];exact g2,g3,g4⟩
     |pan v G' n=>exact h4
    ·cases h
   ·cases h
theorem PkOK.frame {b b':Frame} {pk:Pk} (h:PkOK M b cs pk) (hk:b'.kind=b.kind) (hr:b'.roundOf=b.roundOf):PkOK M b' cs pk:=by
 cases pk with
 |no=>exact ⟨hk.trans h.1,hr.trans h.2⟩
 |rnd=>exact ⟨hk.trans h.1,fun e=>h.2 (hr.symm.trans e)⟩
 |dfr m r=>cases m with
  |none=>exact ⟨hk.trans h.1,hr.trans h.2.1,h.2.2⟩
  |some v=>exact ⟨hk.trans h.1,hr.trans h.2.1,h.2.2⟩
theorem PkOK.rnd_of {b:Frame} {pk:Pk} (h:PkOK M b cs pk) (hr:b.roundOf≠none):pk = .rnd:=by
 cases pk with
 |no=>exact absurd h.2 hr
 |rnd=>rfl
 |dfr m r=>cases m with
  |none=>exact absurd h.2.1 hr
  |some v=>exact absurd h.2.1 hr
theorem TR_init {args:List AV} {vs:Array Value} {n:Nat} (h:VL (VA M ρ G) args vs):TR M ρ G (initT args) (vs++Array.replicate (n-vs.size) undef):=by
 intro t
 unfold initT
 cases e:args[t]? with
 |some x=>
  have:=h.2 t x e
  have hlt:t < vs.size:=by rw [<-h.1];exact (List.getElem?_eq_some_iff.1 e).1
  simpa [at_,Array.getD_eq_getD_getElem?,Array.getElem?_append,hlt] using this
 |none=>
  have hge:¬ t < vs.size:=by rw [<-h.1];intro hh;rw [List.getElem?_eq_getElem hh] at e;cases e
  have:(vs++Array.replicate (n-vs.size) undef).getD t Go.undef = .tuple #[]:=by
   rw [Array.getD_eq_getD_getElem?,Array.getElem?_append,if_neg hge,Array.getElem?_replicate]
   split<;>rfl
  rw [this]
  exact .imm _ _ (.tup [] #[] rfl fun i x hx=>by simp at hx)
theorem CallEnd.of_left {N:Nat->Prop} {m:Machine} {pk':Pk} {kind:CallKind} {f:FuncId} {fr:Frame} {res:CR} (hs:Steps C.P m (lone fr (csM pk' cs) w)) (hk:fr.kind=kind) (hf:fr.fn=f) (hfn:∃ fn,C.P.funcs[f]? = some fn) (h:Left C N Q0 w M ρ G nx fr (csM pk' cs) res) :
  ∃ Q' w' M' ρ',Tr N Q0 w M ρ G Q' w' M' ρ' res.mem/\Inv Q' w' M' ρ' res.mem res.lim/\nx<=res.lim/\CallEnd C.P m pk' kind cs f w' M' ρ' res:=by
 obtain ⟨Q',w',M',ρ',fr',t,i,n,st,h1,h2,h3,h4⟩:=h
 refine ⟨Q',w',M',ρ',t,i,n,?_⟩
 cases res with
 |ret v G' _=>obtain ⟨cv,fn,g1,g2,g3,g4⟩:=h4;exact ⟨fr',cv,fn,hs.trans st,g1,h1,h2.trans hk,h3.trans hf,hf▸g2,g3,g4⟩
 |pan v G' _=>obtain ⟨x,g1,g2⟩:=h4;obtain ⟨fn,hfn⟩:=hfn;exact ⟨fr',x,fn,hs.trans st,g1,h1,h2.trans hk,h3.trans hf,hfn,g2⟩
theorem callF_ok (hC:CfgOK C) (hL:CallOK C.P L) (hR:RoundOK C.P L) {f:FuncId} {args:List AV} {pk pk':Pk} {res:CR} (h:callF C L lf f args pk G nx=some (res,pk')):PInv C.P f /\
  ∀ Q w M ρ vs kind cs,Inv Q w M ρ G nx->VL (VA M ρ G) args vs->PkOK M (Frame.enter C.P f vs kind) cs pk->∃ Q' w' M' ρ',Tr (nx <= ·) Q w M ρ G Q' w' M' ρ' res.mem/\Inv Q' w' M' ρ' res.mem res.lim/\nx<=res.lim /\
   PkOK M' (Frame.enter C.P f vs kind) cs pk'/\CallEnd C.P (lone (Frame.enter C.P f vs kind) (csM pk cs) w) pk' kind cs f w' M' ρ' res:=by
 unfold callF at h
 split at h
 rotate_left
 ·cases h
 rename_i fn hfn
 have hfn:C.P.funcs[f]? = some fn:=hfn
 split at h
 rotate_left
 ·cases h
 rename_i body hbody
 split at h
 rotate_left
 ·cases h
 rename_i hargs
 refine ⟨⟨fn,hfn,by simp [hbody]⟩,fun Q w M ρ vs kind cs hI hv hpk=>?_⟩
 let b:Frame:={ (default:Frame) with fn:=f,kind:=kind,roundOf:=none }
 let a0:Act:={ tmps:=vs++Array.replicate (fn.ntmps-vs.size) undef,defers:=[] }
 have henter:Frame.enter C.P f vs kind=b.atR a0 [.code body]:=by simp [Frame.enter,Frame.atR,hfn,hbody,b,a0]
 have hS:SR fn.ntmps Q Q w M ρ ⟨initT args,G,nx,[],pk⟩ a0:=
  ⟨hI,TR_init hv,by have:=hv.1;simp [a0];omega,fun _ h=>h, .nil⟩
 have hpkb:PkOK M b cs pk:=hpk.frame rfl rfl
 have hcode:∀ out,code C L lf f fn.ntmps body ⟨initT args,G,nx,[],pk⟩=some out->CodeEnd C.P fn.ntmps b cs [] Q (nx <= ·) Q w M ρ G nx (lone (Frame.enter C.P f vs kind) (csM pk cs) w) out:=fun out ho=>by
  rw [henter]
  exact code_ok hC hL hR (b:=b) rfl body _ out ho Q w M ρ a0 [] hS hpkb
 have fin:∀ (s1:St) (m:Option IV) (a1:Act) (Q1:Nat->Prop) (w1:World) (M1:Mem) (ρ1:Ref) (fr:Frame),leaveA C L fn.results.toList s1.defers m s1=some (res,pk')->Goes fn.ntmps b cs Q (nx <= ·) Q w M ρ G nx s1 a1 Q1 w1 M1 ρ1 ->
   Steps C.P (lone (Frame.enter C.P f vs kind) (csM pk cs) w) (lone fr (csM s1.pk cs) w1)->fr.defers=a1.defers->fr.tmps=a1.tmps->fr.fn=f->fr.kind=kind->ModeOK M1 fr m ->
   ∃ Q' w' M' ρ',Tr (nx <= ·) Q w M ρ G Q' w' M' ρ' res.mem/\Inv Q' w' M' ρ' res.mem res.lim/\nx<=res.lim/\PkOK M' (Frame.enter C.P f vs kind) cs pk'/\CallEnd C.P (lone (Frame.enter C.P f vs kind) (csM pk cs) w) pk' kind cs f w' M' ρ' res:=by
  intro s1 m a1 Q1 w1 M1 ρ1 fr hl g st hd ht hff hk hm
  obtain ⟨rfl,hleft⟩:=leave_ok (Q0:=Q) (N:=fun o=>nx<=o) hC hL a1.defers s1.defers m s1 Q1 w1 M1 ρ1 fr (csM s1.pk cs) fn res pk' hl hd g.sr.dfr g.sr.inv g.sr.sub (by rw [ht];exact g.sr.tmps) hm (by rw [hff];exact hfn) (fun _=>rfl) (fun _ _ => .inl rfl) (fun o ho=>Nat.le_trans g.nx ho)
  obtain ⟨Q',w',M',ρ',t,i,n,e⟩:=CallEnd.of_left st hk hff ⟨fn,hfn⟩ hleft
  have t0:Tr (fun o=>nx<=o) Q w M ρ G Q w1 M1 ρ1 s1.G:=⟨fun _ h=>h,g.tr.ev,g.tr.ws,g.tr.mq,g.tr.born⟩
  exact ⟨Q',w',M',ρ',t0.trans0 t,i,Nat.le_trans g.nx n,(g.pk.mono t.ev.mem).frame rfl rfl,e⟩
 split at h
 ·rename_i s1 h1
  obtain ⟨a1,Q1,w1,M1,ρ1,g,st⟩:=hcode _ h1
  exact fin s1 none a1 Q1 w1 M1 ρ1 _ h g (st.trans (.one (stepR_end rfl))) rfl rfl rfl rfl rfl
 ·rename_i s1 h1
  obtain ⟨a1,Q1,w1,M1,ρ1,todo,g,st⟩:=hcode _ h1
  exact fin s1 none a1 Q1 w1 M1 ρ1 _ h g (st.trans (.one (stepR_ret rfl))) rfl rfl rfl rfl rfl
 ·rename_i v s1 h1
  obtain ⟨a1,Q1,w1,M1,ρ1,todo,x,g,hx,st⟩:=hcode _ h1
  exact fin s1 (some v) a1 Q1 w1 M1 ρ1 _ h g st rfl rfl rfl rfl ⟨x,rfl,hx⟩
 ·cases h
/-! ### rounds -/
theorem bind_ok:∀ (ps:List (Nat×AV)) (qs:List (Nat×Value)) (tmps:Nat->AV) (arr:Array Value),Parts M ρ G ps qs->(∀ p∈ps,p.1 < nt)->TR M ρ G tmps arr->arr.size=nt ->
  TR M ρ G (bindT tmps ps) (qs.foldl (fun arr (t,a)=>arr.setIfInBounds t a) arr)/\(qs.foldl (fun arr (t,a)=>arr.setIfInBounds t a) arr).size=nt
 |[],[],tmps,arr,_,_,hT,hs=>⟨hT,hs⟩
 |[],q::qs,_,_,hp,_,_,_=>by simp [Parts] at hp
 |p::ps,[],_,_,hp,_,_,_=>by simp [Parts] at hp
 |(t,v)::ps,(t',c)::qs,tmps,arr,hp,hlt,hT,hs=>by
  obtain ⟨h1,h2⟩:=hp.2 0 _ _ rfl rfl
  simp only at h1 h2
  subst h1
  refine bind_ok ps qs (upd tmps t v) (arr.setIfInBounds t c) hp.tail (fun p hp=>hlt p (by simp [hp])) (fun u=>?_) (by simpa using hs)
  have hlt':t < arr.size:=by rw [hs];exact hlt (t,v) (by simp)
  by_cases hu:u=t
  ·subst hu
   simp [upd,Array.getD_eq_getD_getElem?,hlt']
   exact h2
  ·simp only [upd,if_neg hu]
   have:=hT u
   rw [Array.getD_eq_getD_getElem?] at this ⊢
   rw [Array.getElem?_setIfInBounds_ne (Ne.symm hu)]
   exact this
theorem lp_put {t:Nat->AV} {n:Nat} {p:List Nat} {x y:Code} {f:FuncId} {st st':Nat} {pe pe':Option Code} {q l:Nat} {r r':Loop} (hI:Inv Q w M ρ G nx) (hG:G q = .lp t n p x y f st pe) (hq:ρ q=some (.func (.yield l) #[] #[])) (hheap:w.heap[l]? = some (.loop r))
  (hL:LoopIs M ρ G t n p x y f st' pe' r'):Inv Q (w.putObj l (.loop r')) M ρ (upd G q (.lp t n p x y f st' pe')) nx/\∀ N,Tr N Q w M ρ G Q (w.putObj l (.loop r')) M ρ (upd G q (.lp t n p x y f st' pe')):=by
 have hlt:q < nx:=by
  rcases Nat.lt_or_ge q nx with h1|h1
  ·exact h1
  ·rw [hI.free q h1] at hq;cases hq
 have hl:(G q).live=true:=by rw [hG];rfl
 have hf:(G q).frozen=false:=by rw [hG];rfl
 have hv:Ev M ρ G M (upd ρ q (some (.func (.yield l) #[] #[]))) (upd G q (.lp t n p x y f st' pe')):=Ev.same hq (fun _ _ _ _ e=>by cases e)
 have hsz:w.heap.size<=(w.putObj l (.loop r')).heap.size:=by simp [World.putObj]
 have hQ:=(hI.own q _ l hl hf hq rfl).2
 have hlt2:l < w.heap.size:=(Array.getElem?_eq_some_iff.1 hheap).1
 have:=hI.put (x := .lp t n p x y f st' pe') (r := .func (.yield l) #[] #[]) (w':=w.putObj l (.loop r')) hlt hv (fun b=>by
  by_cases e:b=l
  ·exact .inr (.inr ⟨hl,hf,_,hq,by rw [e];rfl⟩)
  ·exact .inl (World.putObj_heap_other e)) hsz (by
   unfold ObjOK
   simp only [upd,if_true]
   exact ⟨l,r',rfl,World.putObj_heap_same hlt2,{ hL with tmps:=fun u=>(hL.tmps u).mono hv }⟩) (fun b hb => .inr ⟨hl,hf,_,hq,hb⟩)
 rw [upd_self hq] at this hv
 exact ⟨this,fun N=>⟨fun _ h=>h,hv,⟨rfl,rfl,rfl,hsz,fun b hb=>World.putObj_heap_other fun e=>hb (e▸hQ)⟩,MQ.refl _ _,fun _ _ h=>h⟩⟩
theorem roundF_ok (hC:CfgOK C) (hL:CallOK C.P L) (hR:RoundOK C.P L) {q:Nat} {args:List AV} {pk':Pk} {res:CR} (h:roundF C L lf q args G nx=some (res,pk')) :
  ∀ Q w M ρ vs l,Inv Q w M ρ G nx->VL (VA M ρ G) args vs->ρ q=some (.func (.yield l) #[] #[])->∃ f tmps x y,(Instr.yield l vs).run C.P w = .ok (.round l f tmps x y) w /\
  ∀ c cs,∃ Q' w' M' ρ',Tr (nx <= ·) Q w M ρ G Q' w' M' ρ' res.mem/\Inv Q' w' M' ρ' res.mem res.lim/\nx<=res.lim /\
   RoundEnd C.P (lone (Frame.round l f tmps x y .normal) (c::cs) w) c cs w' M' ρ' res:=by
 intro Q w M ρ vs l hI hv hq
 unfold roundF at h
 split at h
 rotate_left
 ·cases h
 rename_i tmps nt params assign body fid pe hG
 split at h
 rotate_left
 ·cases h
 rename_i hps
 have hobj:=hI.obj q
 unfold ObjOK at hobj
 rw [hG] at hobj
 obtain ⟨l',r,hq',hheap,hLI⟩:=hobj
 have hll:l'=l:=by rw [hq] at hq';simp only [Option.some.injEq,Value.func.injEq,Fn.yield.injEq] at hq';exact hq'.1.symm
 subst hll
 have hsz:vs.size=r.params.size:=by rw [<-hv.1,<-hps.1,<-hLI.params];simp
 refine ⟨_,_,_,_,run_yield hheap hsz,fun c cs=>?_⟩
 let b:Frame:={ (default:Frame) with fn:=r.fn,kind := .normal,roundOf:=some l' }
 have hT0:=bind_ok (nt:=nt) (params.zip args) ((r.params.zip vs).toList) tmps r.tmps ⟨by simp [<-hLI.params,hv.1],fun k p q' hp hq'=>by
   rw [Array.toList_zip,hLI.params] at hq'
   rw [List.getElem?_zip_eq_some] at hp hq'
   refine ⟨Option.some.inj (hp.1.symm.trans hq'.1),?_⟩
   have h1:=hv.2 k _ hp.2
   have h2:=hq'.2
   rw [Array.getElem?_toList] at h2
   simpa [at_,Array.getD_eq_getD_getElem?,h2] using h1⟩
  (fun p hp=>by
   have:=List.all_eq_true.1 hps.2 p.1 (List.of_mem_zip (a:=p.1) (b:=p.2) hp).1
   simpa using this) hLI.tmps hLI.size
 rw [Array.foldl_toList] at hT0
 generalize hfold:((r.params.zip vs).foldl (fun tmps x=>match x with|(t,a)=>tmps.setIfInBounds t a) r.tmps)=tm0 at hT0 ⊢
 let a0:Act:={ tmps:=tm0,defers:=[] }
 have hround:Frame.round l' r.fn tm0 r.assign r.body .normal=b.atR a0 [.code r.assign, .beginRound, .code r.body]:=rfl
 rw [hround]
 have hS0:SR nt Q Q w M ρ ⟨bindT tmps (params.zip args),G,nx,[], .rnd⟩ a0:=⟨hI,hT0.1,hT0.2,fun _ h=>h, .nil⟩
 have hpk0:PkOK M b (c::cs) .rnd:=⟨rfl,by simp [b]⟩
 split at h
 rotate_left
 ·cases h
 rename_i s hassign
 have hA:=code_ok hC hL hR (b:=b) (Q0:=Q) (cs:=c::cs) (hLI.fn) assign _ _ hassign Q w M ρ a0 [.beginRound, .code r.body] hS0 hpk0
 rw [<-hLI.assign] at hA
 obtain ⟨a1,Q1,w1,M1,ρ1,g1,st1⟩:=hA
 have hpk1:=g1.pk.rnd_of (by simp [b])
 rw [hpk1] at st1
 have hq1:ρ1 q=some (.func (.yield l') #[] #[]):=by
  rcases g1.tr.ev.ref _ _ hq with h3|⟨⟨_,_,_,h3⟩,_⟩
  ·exact h3
  ·cases h3
 split at h
 rotate_left
 ·cases h
 rename_i t2 n2 p2 x2 y2 f2 e2 hG2
 have hobj2:=g1.sr.inv.obj q
 unfold ObjOK at hobj2
 rw [hG2] at hobj2
 obtain ⟨l2,r2,hq2,hheap2,hLI2⟩:=hobj2
 have hll:l2=l':=by rw [hq1] at hq2;simp only [Option.some.injEq,Value.func.injEq,Fn.yield.injEq] at hq2;exact hq2.1.symm
 subst hll
 have hready:r2.state = .ready:=by
  rcases hLI2.state with ⟨_,h3⟩|⟨h3,_⟩|⟨h3,_⟩
  ·exact h3
  ·cases h3
  ·cases h3
 obtain ⟨hI2,ht2⟩:=lp_put (st':=1) (pe':=e2) (r':={ r2 with state := .busy }) g1.sr.inv hG2 hq1 hheap2 { hLI2 with state := .inr (.inl ⟨rfl,rfl⟩) }
 have hS2:=g1.sr.turn (ht2 (fun _=>False)) hI2
 have st2:=stepR_beginRound (P:=C.P) (b:=b) (a:=a1) (k:=[.code r.body]) (cs:=c::cs) rfl (run_beginRound hheap2 hready)
 have hpk2:PkOK M1 b (c::cs) s.pk:=g1.pk
 have stA:=st1.trans (.one st2)
 have tA:Tr (nx <= ·) Q w M ρ G Q1 (w1.putObj l2 (.loop { r2 with state := .busy })) M1 ρ1 (upd s.G q (.lp t2 n2 p2 x2 y2 f2 1 e2)):=g1.tr.trans (ht2 (fun _=>False)) (fun _ h=>h) (fun _ h=>h.elim)
 have hbodyOK:∀ out,code C L lf fid nt body { s with G:=upd s.G q (.lp t2 n2 p2 x2 y2 f2 1 e2) }=some out->CodeEnd C.P nt b (c::cs) [] Q (nx <= ·) Q w M ρ G nx (lone (b.atR a0 [.code r.assign, .beginRound, .code r.body]) (c::cs) w) out:=by
  intro out ho
  have hB:=code_ok hC hL hR (b:=b) (Q0:=Q) (cs:=c::cs) (hLI.fn) body _ _ ho Q1 _ M1 ρ1 a1 [] hS2 hpk2
  rw [<-hLI.body] at hB
  refine CodeEnd.after tA g1.nx stA ?_ (fun _ h=>h) (fun o h=>Nat.le_trans g1.nx h)
  have:csM s.pk (c::cs)=c::cs:=by rw [hpk1];rfl
  rw [this] at hB
  exact hB
 -- how a round ends that has not failed
 have fin:∀ (s1:St) (jump:Option Code) (st':Nat) (a2:Act) (Q2:Nat->Prop) (w2:World) (M2:Mem) (ρ2:Ref) (m:Machine) (t3:Nat->AV) (n3:Nat) (p3:List Nat) (x3 y3:Code) (f3:FuncId) (e3:Option Code),
   Goes nt b (c::cs) Q (nx <= ·) Q w M ρ G nx s1 a2 Q2 w2 M2 ρ2->s1.G q = .lp t3 n3 p3 x3 y3 f3 1 e3->Steps C.P (lone (b.atR a0 [.code r.assign, .beginRound, .code r.body]) (c::cs) w) m ->
   (∀ v w',(Instr.endRound l2 jump).run C.P w2 = .ok v w'->step C.P m = .next (lone (c.finish v) cs w'))->((jump=none/\st'=0)\/(jump.isSome=true/\st'=2)) ->
   ∃ Q' w' M' ρ',Tr (nx <= ·) Q w M ρ G Q' w' M' ρ' (upd s1.G q (.lp t3 n3 p3 x3 y3 f3 st' jump))/\Inv Q' w' M' ρ' (upd s1.G q (.lp t3 n3 p3 x3 y3 f3 st' jump)) s1.nx/\nx<=s1.nx /\
    ∃ cv,Steps C.P (lone (b.atR a0 [.code r.assign, .beginRound, .code r.body]) (c::cs) w) (lone (c.finish cv) cs w')/\VA M' ρ' (upd s1.G q (.lp t3 n3 p3 x3 y3 f3 st' jump)) (.imm (.bool jump.isNone)) cv:=by
  intro s1 jump st' a2 Q2 w2 M2 ρ2 m t3 n3 p3 x3 y3 f3 e3 g hG3 st hstep hj
  have hq3:ρ2 q=some (.func (.yield l2) #[] #[]):=by
   rcases g.tr.ev.ref _ _ hq with h3|⟨⟨_,_,_,h3⟩,_⟩
   ·exact h3
   ·cases h3
  have hobj3:=g.sr.inv.obj q
  unfold ObjOK at hobj3
  rw [hG3] at hobj3
  obtain ⟨l3,r3,hq3',hheap3,hLI3⟩:=hobj3
  have hll:l3=l2:=by rw [hq3] at hq3';simp only [Option.some.injEq,Value.func.injEq,Fn.yield.injEq] at hq3';exact hq3'.1.symm
  subst hll
  have hrun:=run_endRound (P:=C.P) jump hheap3
  obtain ⟨hI3,ht3⟩:=lp_put (st':=st') (pe':=jump) (r':={ r3 with state:=if jump.isNone then .ready else .done,pending:=jump }) g.sr.inv hG3 hq3 hheap3 { hLI3 with
   pending:=rfl
   state:=by
    rcases hj with ⟨rfl,rfl⟩|⟨h1,rfl⟩
    ·exact .inl ⟨rfl,rfl⟩
    ·refine .inr (.inr ⟨rfl,?_⟩)
     cases jump with
     |none=>cases h1
     |some x=>rfl }
  exact ⟨Q2,_,M2,ρ2,g.tr.trans (ht3 (fun _=>False)) (fun _ h=>h) (fun _ h=>h.elim),hI3,g.nx,_,st.trans (.one (hstep _ _ hrun)), .imm _ _ (.bool _)⟩
 have hcs:∀ s1:St,PkOK M b (c::cs) s1.pk\/True->s1.pk = .rnd->csM s1.pk (c::cs)=c::cs:=fun s1 _ e=>by rw [e];rfl
 split at h
 ·rename_i s1 h1
  obtain ⟨a2,Q2,w2,M2,ρ2,g,st⟩:=hbodyOK _ h1
  rw [hcs s1 (.inr trivial) (g.pk.rnd_of (by simp [b]))] at st
  split at h
  ·rename_i t3 n3 p3 x3 y3 f3 e3 hG3
   cases h
   exact fin s1 none 0 a2 Q2 w2 M2 ρ2 _ t3 n3 p3 x3 y3 f3 e3 g hG3 st (fun v w' hr=>stepR_round_end rfl rfl hr) (.inl ⟨rfl,rfl⟩)
  ·cases h
 ·rename_i id s1 h1
  obtain ⟨a2,Q2,w2,M2,ρ2,todo,g,hx,st⟩:=hbodyOK _ h1
  rw [hcs s1 (.inr trivial) (g.pk.rnd_of (by simp [b]))] at st
  split at h
  ·rename_i t3 n3 p3 x3 y3 f3 e3 hG3
   cases h
   exact fin s1 (some (.exit id)) 2 a2 Q2 w2 M2 ρ2 _ t3 n3 p3 x3 y3 f3 e3 g hG3 st (fun v w' hr=>stepR_round_exit rfl rfl (by rw [hx];rfl) hr) (.inr ⟨rfl,rfl⟩)
  ·cases h
 ·rename_i s1 h1
  obtain ⟨a2,Q2,w2,M2,ρ2,todo,g,st⟩:=hbodyOK _ h1
  rw [hcs s1 (.inr trivial) (g.pk.rnd_of (by simp [b]))] at st
  split at h
  ·rename_i t3 n3 p3 x3 y3 f3 e3 hG3
   cases h
   exact fin s1 (some .ret) 2 a2 Q2 w2 M2 ρ2 _ t3 n3 p3 x3 y3 f3 e3 g hG3 st (fun v w' hr=>stepR_round_ret rfl rfl hr) (.inr ⟨rfl,rfl⟩)
  ·cases h
 ·rename_i v s1 h1
  obtain ⟨a2,Q2,w2,M2,ρ2,todo,x,g,hx,st⟩:=hbodyOK _ h1
  rw [hcs s1 (.inr trivial) (g.pk.rnd_of (by simp [b]))] at st
  split at h
  ·rename_i hd
   cases h
   simp only [Bool.and_eq_true,List.isEmpty_iff] at hd
   obtain ⟨fn,hfn⟩:=Option.isSome_iff_exists.1 hd.2
   have hfn:C.P.funcs[r.fn]? = some fn:=by rw [hLI.fn];exact hfn
   have hl:leaveA C L [] s1.defers (some v) s1=some (.pan v s1.G s1.nx,s1.pk):=by rw [hd.1];rfl
   obtain ⟨_,Q',w',M',ρ',fr',t,i,n,st',h2,h3,h4,x',h5,h6⟩:=leave_ok (Q0:=Q) (N:=fun o=>nx<=o) hC hL a2.defers s1.defers (some v) s1 Q2 w2 M2 ρ2 { b.atR a2 todo with mode := .panicking [{ v:=x,recovered:=false }] } (c::cs) fn _ _ hl rfl g.sr.dfr g.sr.inv g.sr.sub g.sr.tmps
    ⟨x,rfl,hx⟩ hfn (fun e=>by cases e) (fun _ _ => .inr hd.1) (fun o ho=>Nat.le_trans g.nx ho)
   have t0:Tr (fun o=>nx<=o) Q w M ρ G Q w2 M2 ρ2 s1.G:=⟨fun _ h=>h,g.tr.ev,g.tr.ws,g.tr.mq,g.tr.born⟩
   exact ⟨Q',w',M',ρ',t0.trans0 t,i,Nat.le_trans g.nx n,x',(st.trans st').trans (.one (step_leave_panicked ⟨h5,h2,fn,by rw [h4];exact hfn⟩)),h6⟩
  ·cases h
 ·cases h
theorem low_ok (hC:CfgOK C):∀ n,CallOK C.P (low C n)/\RoundOK C.P (low C n)
 |0=>⟨(fun _ _ _ _ _ _ _ h=>nomatch h),(fun _ _ _ _ _ _ h=>nomatch h)⟩
 |n+1=>⟨fun f _ _ _ _ _ _ h=>callF_ok (C:=C.at f) ⟨hC.mixed,hC.ng,hC.orc⟩ (low_ok hC n).1 (low_ok hC n).2 h,fun _ _ _ _ _ _ h=>roundF_ok (C:=C.ground) ⟨hC.mixed,hC.ng,hC.orc⟩ (low_ok hC n).1 (low_ok hC n).2 h⟩
theorem run_ok (hC:CfgOK C) {n:Nat} {f:FuncId} {ivs:List IV} {v:AV} (h:run C n f ivs=some (.ret v G nx)) {vs:Array Value} (hm:∀ b o,M b=some o->w.heap[b]? = some o) (hv:VL (VI M) ivs vs) :
  Calls C.P f vs w fun e w'=>∃ cv Q' M' ρ',e = .returned cv/\WS (QN w) w w'/\M.le M'/\MQ (QN w) M M'/\Inv Q' w' M' ρ' G nx/\(∀ b,Q' b->w.heap.size<=b)/\VA M' ρ' G v cv:=by
 unfold run at h
 simp only [Option.map_eq_some_iff] at h
 obtain ⟨⟨res,pk'⟩,hcall,hres⟩:=h
 simp only at hres
 subst hres
 intro cs
 obtain ⟨_,hk⟩:=(low_ok hC n).1 _ _ _ _ _ _ _ hcall
 obtain ⟨Q',w',M',ρ',t,i, -,p,fr,cv,fn,st,h1,h2,h3,h4,h5,h6,h7⟩:=hk (QN w) w M (fun _=>none) vs .normal cs (Inv.empty hm) (VL_imms hv) ⟨rfl,rfl⟩
 have hp:pk' = .no:=p.no_of rfl rfl
 subst hp
 exact ⟨.returned cv,w',fr,⟨cv,Q',M',ρ',rfl,t.ws,t.ev.mem,t.mq,i,t.sub,h7⟩,st,h4,h1,h2,h3,fn,by rw [h4];exact h5,h6⟩
theorem WS.below (h:WS (QN w) w w'):Go.RowKit.Below w.heap.size w w':=⟨h.os,h.tape,h.output,h.size,fun k hk=>h.block k (by simp only [QN];omega)⟩
theorem run_bool (hC:CfgOK C) {n:Nat} {f:FuncId} {ivs:List IV} {b:Bool} (h:run C n f ivs=some (.ret (.imm (.bool b)) G nx)) {vs:Array Value} (hm:∀ b o,M b=some o->w.heap[b]? = some o) (hv:VL (VI M) ivs vs) :
  Calls C.P f vs w fun e w'=>e = .returned (.bool b)/\Go.RowKit.Below w.heap.size w w':=
 (run_ok hC h hm hv).mono fun e w' ⟨cv,Q',M',ρ',he,hws,_,_,_,_,hva⟩=>by
  have:=hva.bool_inv
  subst this
  exact ⟨he,hws.below⟩
end Go.Abs

/-
  DERIVED: THE SHELF's CONTRACTS AT THIS DUMP, IN PLAIN WORDS (tools/lay-plain.mjs out of 'KTrySh0.lean', which tools/lay-shelf.mjs wrote): THE SAME DECLARATIONS UNDER THE SAME NAMES: 'import', 'namespace', 'open', 'def', 'theorem' AND NOTHING ELSE: no command of the shelf's: FOR A HAND-IN. Each laying: the table of numbers ('.._ren') and one theorem, a field a fact of the dump's own or the kernel's comparison; each contract: ONE APPLICATION.
-/
namespace Go.Proofs
open Go.Shelf
def Try.laysNm216_ren : Go.Shelf.Ren := ⟨fun | 16 => 13 | n => n, fun | 24 => 22 | 9 => 9 | 4 => 4 | n => n, fun | n => n⟩
theorem Try.laysNm216 : Go.Proofs.Lays2.n16 Try.prog Try.laysNm216_ren := {
  mixed := by kernel_rfl
  f16 := Try.func13.trans (congrArg some (by kernel_rfl))
  t4 := Try.underlying4
  a4 := Try.isAgg4
  z4 := Try.sizeOf4
  v4 := Try.zeroValue4
  t9 := Try.underlying9
  a9 := Try.isAgg9
  z9 := Try.sizeOf9
  v9 := Try.zeroValue9
  t24 := Try.underlying22
  a24 := Try.isAgg22
  z24 := Try.sizeOf22
  v24 := Try.zeroValue22
  i9 := by kernel_rfl }
def Try.lays189_ren : Go.Shelf.Ren := ⟨fun | 189 => 38 | 125 => 64 | 257 => 63 | 128 => 85 | 129 => 86 | 294 => 76 | 295 => 77 | 296 => 78 | 297 => 79 | 298 => 80 | 299 => 81 | 216 => 82 | 300 => 83 | 301 => 84 | 328 => 94 | 329 => 95 | 330 => 96 | 331 => 97 | 332 => 98 | 215 => 99 | 343 => 101 | n => n, fun | 28 => 26 | 3 => 3 | 46 => 116 | 0 => 0 | 51 => 137 | 53 => 139 | 4 => 4 | 183 => 130 | 182 => 129 | 131 => 109 | 5 => 5 | 9 => 9 | 218 => 148 | 222 => 152 | 228 => 156 | 229 => 157 | n => n, fun | n => n⟩
theorem Try.lays189 : Go.Proofs.Lays.n189 Try.prog Try.lays189_ren := {
  mixed := by kernel_rfl
  f125 := Try.func64.trans (congrArg some (by kernel_rfl))
  f128 := Try.func85.trans (congrArg some (by kernel_rfl))
  f129 := Try.func86.trans (congrArg some (by kernel_rfl))
  f189 := Try.func38.trans (congrArg some (by kernel_rfl))
  f215 := Try.func99.trans (congrArg some (by kernel_rfl))
  f216 := Try.func82.trans (congrArg some (by kernel_rfl))
  f257 := Try.func63.trans (congrArg some (by kernel_rfl))
  f294 := Try.func76.trans (congrArg some (by kernel_rfl))
  f295 := Try.func77.trans (congrArg some (by kernel_rfl))
  f296 := Try.func78.trans (congrArg some (by kernel_rfl))
  f297 := Try.func79.trans (congrArg some (by kernel_rfl))
  f298 := Try.func80.trans (congrArg some (by kernel_rfl))
  f299 := Try.func81.trans (congrArg some (by kernel_rfl))
  f300 := Try.func83.trans (congrArg some (by kernel_rfl))
  f301 := Try.func84.trans (congrArg some (by kernel_rfl))
  f328 := Try.func94.trans (congrArg some (by kernel_rfl))
  f329 := Try.func95.trans (congrArg some (by kernel_rfl))
  f330 := Try.func96.trans (congrArg some (by kernel_rfl))
  f331 := Try.func97.trans (congrArg some (by kernel_rfl))
  f332 := Try.func98.trans (congrArg some (by kernel_rfl))
  f343 := Try.func101.trans (congrArg some (by kernel_rfl))
  t0 := Try.underlying0
  a0 := Try.isAgg0
  z0 := Try.sizeOf0
  v0 := Try.zeroValue0
  t3 := Try.underlying3
  a3 := Try.isAgg3
  z3 := Try.sizeOf3
  v3 := Try.zeroValue3
  t4 := Try.underlying4
  a4 := Try.isAgg4
  z4 := Try.sizeOf4
  v4 := Try.zeroValue4
  t5 := Try.underlying5
  a5 := Try.isAgg5
  z5 := Try.sizeOf5
  v5 := Try.zeroValue5
  t9 := Try.underlying9
  a9 := Try.isAgg9
  z9 := Try.sizeOf9
  v9 := Try.zeroValue9
  t28 := Try.underlying26
  a28 := Try.isAgg26
  z28 := Try.sizeOf26
  v28 := Try.zeroValue26
  t46 := Try.underlying116
  a46 := Try.isAgg116
  z46 := Try.sizeOf116
  v46 := Try.zeroValue116
  t51 := Try.underlying137
  a51 := Try.isAgg137
  z51 := Try.sizeOf137
  v51 := Try.zeroValue137
  t53 := Try.underlying139
  a53 := Try.isAgg139
  z53 := Try.sizeOf139
  v53 := Try.zeroValue139
  t131 := Try.underlying109
  a131 := Try.isAgg109
  z131 := Try.sizeOf109
  v131 := Try.zeroValue109
  t182 := Try.underlying129
  a182 := Try.isAgg129
  z182 := Try.sizeOf129
  v182 := Try.zeroValue129
  t183 := Try.underlying130
  a183 := Try.isAgg130
  z183 := Try.sizeOf130
  v183 := Try.zeroValue130
  t218 := Try.underlying148
  a218 := Try.isAgg148
  z218 := Try.sizeOf148
  v218 := Try.zeroValue148
  t222 := Try.underlying152
  a222 := Try.isAgg152
  z222 := Try.sizeOf152
  v222 := Try.zeroValue152
  t228 := Try.underlying156
  a228 := Try.isAgg156
  z228 := Try.sizeOf156
  v228 := Try.zeroValue156
  t229 := Try.underlying157
  a229 := Try.isAgg157
  z229 := Try.sizeOf157
  v229 := Try.zeroValue157 }
end Go.Proofs

/- The contract of slices.Clone, at strings. -/
open Go Go.Abs Go.RowKit
namespace Go.Abs
theorem ws_of_below {w w':World} (h:Below w.heap.size w w'):WS (QN w) w w':=⟨h.os,h.tape,h.output,h.size,fun k hk=>h.block k (by simp only [QN] at hk;omega)⟩
theorem mem_below {w w':World} {M:Mem} (hm:∀ b o,M b=some o->w.heap[b]? = some o) (h:Below w.heap.size w w'):∀ b o,M b=some o->w'.heap[b]? = some o:=fun b o hb=>by
 have:=hm b o hb
 rw [h.block b (Array.getElem?_eq_some_iff.1 this).1];exact this
theorem orc_own {w w':World} {M:Mem} {et:TypeId} {xs:List IV} {v:Value} {cs:List Value} (hm:∀ b o,M b=some o->w.heap[b]? = some o) (hB:Below w.heap.size w w') (ho:w'.ownsRow w.heap.size et 1 v xs.length cs)
  (h1:∀ x∈xs,IV.cells x=[x]/\(AV.imm x).fits 1=true) (hc:∀ (i:Nat) x,xs[i]? = some x->VI M x (cs.getD i Go.undef)):∃ cv,Ending.returned v = .returned cv/\WS (QN w) w w'/\OrcEnd w M cv w' (.own et 1 xs):=by
 refine ⟨v,rfl,ws_of_below hB,M,cs,Mem.le_refl M,MQ.refl _ _,mem_below hm hB,by decide,ownsRow_base ho,fun b hb=>?_,fun x hx=>(h1 x hx).2,fun i x j y hx hy=>?_⟩
 ·rcases ho.2 with ⟨rfl,_⟩|⟨g,cap,cur,rfl,hg,_⟩
  ·cases hb
  ·simp [blk] at hb
   subst hb
   refine ⟨?_,hg⟩
   cases e:M g with
   |none=>rfl
   |some o=>have:=(Array.getElem?_eq_some_iff.1 (hm g o e)).1;omega
 ·have hm':=(h1 x (List.mem_of_getElem? hx)).1
  rw [hm'] at hy
  match j,hy with
  |0,hy=>
   simp at hy;subst hy
   simpa using hc i _ hx
  |j+1,hy=>simp at hy
theorem str_all {xs:List IV} (h:xs.all isStrIV=true):∃ zs:List ByteArray,xs=zs.map .str:=by
 induction xs with
 |nil=>exact ⟨[],rfl⟩
 |cons x r ih=>
  rw [List.all_cons,Bool.and_eq_true] at h
  obtain ⟨zs,rfl⟩:=ih h.2
  cases x<;>simp [isStrIV] at h
  exact ⟨_::zs,rfl⟩
theorem VI_str {M:Mem} {s:ByteArray} {v:Value} (h:VI M (.str s) v):v = .string s:=by cases h;rfl
theorem VI_int {M:Mem} {k:IntKind} {n:Int} {v:Value} (h:VI M (.int k n) v):v = .int k n:=by cases h;rfl
theorem one_arg {M:Mem} {x:IV} {vs:Array Value} (h:VL (VI M) [x] vs):∃ v,vs = #[v]/\VI M x v:=⟨_,arr1 (by have:=h.1;simpa using this.symm),h.2 0 x rfl⟩
theorem orc56 {xs:List IV} (hs:xs.all isStrIV=true) (hl:xs.length<=4294967296) {M:Mem} {w:World} {vs:Array Value} (hm:∀ b o,M b=some o->w.heap[b]? = some o) (hv:VL (VI M) [.lst xs] vs) :
  Calls Go.Proofs.Try.prog 13 vs w fun e w'=>∃ cv,e = .returned cv/\WS (QN w) w w'/\OrcEnd w M cv w' (.own 9 1 xs):=by
 obtain ⟨v,rfl,hx⟩:=one_arg hv
 obtain ⟨zs,rfl⟩:=str_all hs
 have hfit:∀ x∈zs.map IV.str,IV.cells x=[x]/\(AV.imm x).fits 1=true:=by
  intro x hx
  obtain ⟨z,_,rfl⟩:=List.mem_map.1 hx
  exact ⟨rfl,rfl⟩
 have own0:∀ (w':World),w'.ownsRow w.heap.size 9 1 (.slice none 0 0) 0 []:=fun w'=>⟨rfl, .inl ⟨rfl,rfl⟩⟩
 generalize hxs:zs.map IV.str=xs at hx hfit
 cases hx with
 |nil=>
  refine (Go.Proofs.Any.slices_Clone_string_nil Go.Proofs.Try.laysNm216 0 0 w).mono fun e w' ⟨he,hw⟩=>?_
  subst he;subst hw
  exact orc_own hm (Below.refl _ _) (own0 _) (by simp) (fun i x h=>by simp at h)
 |empty a c=>
  refine (Go.Proofs.Any.slices_Clone_string_zero Go.Proofs.Try.laysNm216 a c w).mono fun e w' ⟨v',he,ho,_,hB⟩=>?_
  subst he
  exact orc_own hm hB ho (by simp) (fun i x h=>by simp at h)
 |lst _ b off c cs e fr sz h0 hc hM hsz h1 h2 hcell=>
  subst hxs
  have hb:=hm _ _ hM
  have hsz1:sz=1:=by
   cases zs with
   |nil=>simp at h0
   |cons z r=>have:=h1 0 (.str z) rfl;simpa [IV.cells] using this.symm
  subst hsz1
  have hstr:∀ (i:Nat) z,zs[i]? = some z->at_ cs (off+i) = .string z:=by
   intro i z hz
   have:=hcell i (.str z) 0 (.str z) (by simp [hz]) rfl
   simp only [Nat.mul_one,Nat.add_zero] at this
   exact VI_str this
  have key:=Go.Proofs.Any.slices_Clone_string Go.Proofs.Try.laysNm216 b off zs.length c zs w (Nat.le_refl _) (by simp at hl;omega) (fun j hj=>by
   have hz:zs[j]? = some zs[j]:=by simp [hj]
   have h3:=hstr j _ hz
   simp only [World.cell?,hb]
   have hlt:off+j < cs.size:=by simp at h2;omega
   simp only [Option.isSome_none,Bool.false_eq_true,if_false,hlt,Array.getElem?_eq_getElem]
   simp only [at_,Array.getD_eq_getD_getElem?,hlt,Array.getElem?_eq_getElem,Option.getD_some] at h3
   rw [h3]
   simp [hj])
  rw [List.length_map]
  refine key.mono fun e w' ⟨v',he,ho,_,hB⟩=>?_
  subst he
  rw [List.take_length] at ho
  refine orc_own (xs:=zs.map IV.str) hm hB (by rw [List.length_map];exact ho) hfit (fun i x h=>?_)
  rw [List.getElem?_map,Option.map_eq_some_iff] at h
  obtain ⟨z,hz,rfl⟩:=h
  have:(zs.map Value.string).getD i Go.undef = .string z:=by simp [hz]
  rw [this]
  exact .str z
end Go.Abs

/- The contract of sorted: a map's keys, sorted. -/
open Go Go.Abs Go.RowKit Go.Sort
namespace Go.Abs
def keyInt (e:MapEntry):Int:=match e.key with
 | .int _ n=>n
 |_=>0
theorem perm_filter {l:List MapEntry} (hn:(l.map (·.born)).Nodup) (p:MapEntry->Bool) {e:MapEntry} (he:e∈l) (hp:p e=true):(l.filter p).Perm (e::l.filter fun x=>p x && !(x.born==e.born)):=by
 induction l with
 |nil=>simp at he
 |cons x r ih=>
  rw [List.map_cons,List.nodup_cons] at hn
  rcases List.mem_cons.1 he with rfl|hr
  ·have h0:r.filter (fun x=>p x && !(x.born==e.born))=r.filter p:=by
    refine List.filter_congr fun y hy=>?_
    have:y.born≠e.born:=fun h=>hn.1 (h▸List.mem_map.2 ⟨y,hy,rfl⟩)
    have:(y.born==e.born)=false:=by simpa using this
    rw [this];simp
   rw [List.filter_cons,if_pos hp,List.filter_cons,h0]
   simp
  ·have hne:(x.born==e.born)=false:=by
    have:x.born≠e.born:=fun h=>hn.1 (h▸List.mem_map.2 ⟨e,hr,rfl⟩)
    simpa using this
   have:=ih hn.2 hr
   rw [List.filter_cons,List.filter_cons,hne]
   cases p x with
   |true=>exact (this.cons x).trans (.swap _ _ _)
   |false=>simpa using this
theorem left_list (es:Array MapEntry) (seen:Array Nat):(leftOf es seen).toList=es.toList.filter fun x => !seen.contains x.born:=by simp [leftOf]
theorem left_step {es:Array MapEntry} {seen:Array Nat} {e:MapEntry} (hn:(es.toList.map (·.born)).Nodup) (he:e∈(leftOf es seen).toList):(leftOf es seen).toList.Perm (e::(leftOf es (seen.push e.born)).toList):=by
 have hm:=mem_left he
 have h1:=perm_filter hn (fun x => !seen.contains x.born) hm.1 (by simpa using hm.2)
 rw [left_list,left_list]
 refine h1.trans (List.Perm.of_eq ?_)
 congr 1
 refine List.filter_congr fun x _=>?_
 rw [Array.contains_push]
 cases seen.contains x.born<;>simp
theorem cell_new (w:World) (v:Value) (t:TypeId):∀ (j:Nat) u,[v][j]? = some u->(w.alloc (.cells #[v] t)).cell? ((⟨w.heap.size,0,none⟩:Addr).add j)=some u:=by
 intro j u h
 match j,h with
 |0,h=>
  simp at h;subst h
  have h0:(⟨w.heap.size,0,none⟩:Addr).add 0=⟨w.heap.size,0,none⟩:=by simp [Addr.add]
  rw [h0]
  simp only [World.cell?,heap_alloc_new]
  rfl
 |j+1,h=>simp at h
set_option maxRecDepth 100000 in
set_option maxHeartbeats 1000000 in
theorem walk48 (bm:Nat) (es:Array MapEntry) (clk:Nat) (w:World) (hb:w.heap[bm]? = some (.map es clk)) (hbn:Born es clk) (hk:∀ x∈es.toList,x.key = .int .i64 (keyInt x)) (hsz:es.size<=4294967296) :
  Calls Go.Proofs.Try.prog 14 #[.map (some bm)] w fun e w'=>∃ (v:Value) (zs:List Int),e = .returned v/\zs.Perm (es.toList.map keyInt)/\w'.ownsRow w.heap.size 3 1 v zs.length ((zs.mergeSort fun x y=>decide (x<=y)).map (Value.int .i64))/\Below w.heap.size w w':=by
 have hrg:=run_range_map (P:=Go.Proofs.Try.prog) w 46 3 4 bm es clk Go.Proofs.Try.underlying46 hb
 have hbl:bm < w.heap.size:=(Array.getElem?_eq_some_iff.1 hb).1
 obtain ⟨i0,hi,hz0,hz1,hz2⟩:=info_parts (show (Go.Proofs.Try.prog.info? 3).map (fun i=>(i.zero,i.size,i.bytes))=some (some (.int .i64 0),1,8) by kernel_rfl)
 go_enter Go.Proofs.Try.func14,Go.Proofs.Try.ntmps14
 go_wp2
 go_loopw [3] (fun v wr=>∃ (seen:Array Nat) (ss:List Int),wr.heap[w.heap.size]? = some (.mapIter (some bm) clk seen clk)/\wr.heap[bm]? = some (.map es clk)/\wr.ownsRow w.heap.size 3 1 v ss.length (ss.map (Value.int .i64)) /\
   (ss++(leftOf es seen).toList.map keyInt).Perm (es.toList.map keyInt)/\Below w.heap.size w wr) (fun _ wr=>(leftOf es (wr.iterSeen w.heap.size)).size)
 case atStart=>
  refine ⟨#[],[],heap_alloc_new w _,?_,⟨rfl, .inl ⟨rfl,rfl⟩⟩,?_,(Below.refl _ _).alloc (Nat.le_refl _) _⟩
  ·rw [heap_alloc_old w _ hbl];exact hb
  ·have:(leftOf es #[]).toList=es.toList:=by rw [left_list];exact List.filter_eq_self.2 (by simp)
   rw [this];simp
 case round=>
  obtain ⟨seen,ss,hit,hmap,hrow,hperm,hbel⟩:=hrel
  have hle:ss.length<=es.size:=by
   have:=hperm.length_eq
   simp at this
   omega
  rcases run_next_at (P:=Go.Proofs.Try.prog) wr 0 w.heap.size bm clk clk seen es clk hit hmap hbn.1 (Nat.le_refl _) with ⟨h0,hrun⟩|⟨e,he,w1,hw1,hrun⟩
  ·have hnx:∀ ty,(Instr.next (.pointer (some ⟨w.heap.size,0,none⟩)) false ty).run Go.Proofs.Try.prog wr=_:=fun _=>hrun
   have hp:ss.Perm (es.toList.map keyInt):=by
    have:(leftOf es seen) = #[]:=Array.eq_empty_of_size_eq_zero h0
    rw [this] at hperm
    simpa using hperm
   rcases hrow.2 with ⟨hnil,hlen⟩|⟨g,cap,cur,hv,hbase,hbk,h1,h2,h3,h4⟩
   ·subst hnil
    obtain rfl:ss=[]:=List.eq_nil_of_length_eq_zero hlen
    have hc:Calls Go.Proofs.Try.prog 38 #[.slice none 0 0] wr fun e w'=>e = .returned (.tuple #[])/\w'=wr:=Go.Proofs.Any.slices_Sort_int_none Go.Proofs.Try.lays189 none 0 wr
    go_wp2_with (go_at_call 38;refine hc.mono ?_;rintro e w' ⟨rfl,rfl⟩)
    go_ret
    exact ⟨_,[],rfl,hp,(by rw [List.mergeSort_nil];exact hrow),hbel⟩
   ·subst hv
    have hH:Holds (Value.int .i64) wr g 0 ss.toArray:=holds_of_blockI hbk (by simpa using h4)
    have hc:Calls Go.Proofs.Try.prog 38 #[.slice (some ⟨g,0,none⟩) ss.length cap] wr fun e w'=>e = .returned (.tuple #[])/\∃ n os,w'=grow (putRow (Value.int .i64) (Sort.ahead wr n) g 0 (ss.mergeSort fun x y=>decide (x<=y)).toArray) os:=
     Go.Proofs.Any.slices_Sort_int Go.Proofs.Try.lays189 g 0 cap ss wr hH (Array.getElem?_eq_some_iff.1 hbk).1 (by omega)
    go_wp2_with (go_at_call 38;refine hc.mono ?_;rintro e w' ⟨rfl,nn,os,rfl⟩)
    go_ret
    exact ⟨_,ss,rfl,hp,ownsRow_sortedI (by simp) hbase hbk h1 h2 h3,hbel.grown (grownBy_sortedI _) hbel.size (fun j hj=>by cases hj;exact hbase)⟩
  ·have hm:=mem_left he
   rw [hk e hm.1] at hrun
   have hheap:w1.heap=wr.heap:=by rcases hw1 with rfl|rfl<;>rfl
   have hrl:w.heap.size < wr.heap.size:=(Array.getElem?_eq_some_iff.1 hit).1
   have hit2:(ChangeMaps.setBlock w1 w.heap.size (.mapIter (some bm) clk (seen.push e.born) clk)).heap[w.heap.size]? = some (.mapIter (some bm) clk (seen.push e.born) clk):=by
    simp [ChangeMaps.setBlock,hheap,hrl]
   have hmap2:(ChangeMaps.setBlock w1 w.heap.size (.mapIter (some bm) clk (seen.push e.born) clk)).heap[bm]? = some (.map es clk):=by
    simp only [ChangeMaps.setBlock,hheap,Array.getElem?_setIfInBounds]
    rw [if_neg (by omega)];exact hmap
   have hg2:wr.grownBy (ChangeMaps.setBlock w1 w.heap.size (.mapIter (some bm) clk (seen.push e.born) clk)) (some w.heap.size):=by
    refine ⟨?_,?_,?_,?_,fun k hk hne=>?_⟩
    ·rcases hw1 with rfl|rfl<;>rfl
    ·rcases hw1 with rfl|rfl<;>rfl
    ·rcases hw1 with rfl|rfl<;>rfl
    ·simp [ChangeMaps.setBlock,hheap]
    ·simp only [ChangeMaps.setBlock,hheap,Array.getElem?_setIfInBounds]
     rw [if_neg (fun e=>hne (by rw [e]))]
   have hen:=run_entry_at (P:=Go.Proofs.Try.prog) _ w.heap.size bm clk seen es clk e hit2 hmap2 hm.1 hbn.2
   rw [hk e hm.1] at hen
   have hs2:(ChangeMaps.setBlock w1 w.heap.size (.mapIter (some bm) clk (seen.push e.born) clk)).heap.size=wr.heap.size:=by simp [ChangeMaps.setBlock,hheap]
   generalize ChangeMaps.setBlock w1 w.heap.size (.mapIter (some bm) clk (seen.push e.born) clk)=w2 at hrun hit2 hmap2 hg2 hen hs2
   have hnx:∀ ty,(Instr.next (.pointer (some ⟨w.heap.size,0,none⟩)) false ty).run Go.Proofs.Try.prog wr=_:=fun _=>hrun
   have hown:Value.ownBlock u3≠some w.heap.size:=by
    rcases hrow.2 with ⟨h1,_⟩|⟨g,cap,cur,h1,_,h2,_⟩
    ·rw [h1];simp [Value.ownBlock]
    ·rw [h1]
     simp only [Value.ownBlock]
     intro e
     cases e
     rw [hit] at h2;cases h2
   have hrow2:=hrow.kept hg2 (.inr hown)
   have hle2:ss.length < es.size:=by
    have:=hperm.length_eq
    have h3:=List.length_pos_of_mem he
    simp at this h3
    omega
   have hsz2:w.heap.size<=w2.heap.size:=by omega
   clear hs2
   go_wp2_with (at_builtin;go_loud (refine wpList_append_own _ rfl _ _ 26 rfl w.heap.size 3 i0 (.int .i64 0) 1 8 Go.Proofs.Try.underlying26 hi hz0 hz1 hz2 rfl (by decide) _ _ _ rfl (hrow2.alloc _) ⟨w2.heap.size,0,none⟩ 1 1 [.int .i64 (keyInt e)] rfl rfl (cell_new _ _ _) (by simp [Value.oneCell']) (by unfold maxLen;omega) (by omega) (by simp;omega) ?_);intro v' w3 hown' hg3 hnil3)
   have hg3':(w2.alloc (.cells #[.int .i64 (keyInt e)] 3)).grownBy w3 u3.ownBlock:=hg3
   clear hg3
   have hb3:∀ k,k < w2.heap.size->(k=w.heap.size\/k=bm)->w3.heap[k]? = w2.heap[k]? := by
    intro k hk hor
    rw [hg3'.block k (by simp;omega) (fun e=>?_),heap_alloc_old w2 _ hk]
    rcases hrow.2 with ⟨h1,_⟩|⟨g,cap,cur,h1,h2,_⟩
    ·rw [h1] at e;simp [Value.ownBlock] at e
    ·rcases hor with rfl|rfl
     ·exact hown e.symm
     ·rw [h1] at e;simp only [Value.ownBlock,Option.some.injEq] at e;omega
   have hit3:w3.heap[w.heap.size]? = some (.mapIter (some bm) clk (seen.push e.born) clk):=by rw [hb3 _ (Array.getElem?_eq_some_iff.1 hit2).1 (.inl rfl)];exact hit2
   have hmap3:w3.heap[bm]? = some (.map es clk):=by rw [hb3 _ (Array.getElem?_eq_some_iff.1 hmap2).1 (.inr rfl)];exact hmap2
   go_roundw
   case rel=>
    refine ⟨seen.push e.born,ss++[keyInt e],hit3,hmap3,by simpa using hown',?_,?_⟩
    ·refine List.Perm.trans ?_ hperm
     rw [List.append_assoc]
     refine List.Perm.append_left ss ?_
     exact ((left_step hbn.2 he).map keyInt).symm
    ·refine ((hbel.grown hg2 hbel.size (fun j hj=>by cases hj;exact Nat.le_refl _)).alloc hsz2 _).grown hg3' (by simp;omega) (fun j hj=>?_)
     rcases hrow.2 with ⟨h1,_⟩|⟨g,cap,cur,h1,h2,_⟩
     ·rw [h1] at hj;simp [Value.ownBlock] at hj
     ·rw [h1] at hj;simp only [Value.ownBlock,Option.some.injEq] at hj;omega
   case measure=>
    have e1:w3.iterSeen w.heap.size=seen.push e.born:=by simp [World.iterSeen,hit3]
    have e2:wr.iterSeen w.heap.size=seen:=by simp [World.iterSeen,hit]
    rw [e1,e2]
    exact left_shrinks es seen e he
/-! the two sorts are one -/
theorem ins_perm (x:Int):∀ l,(ins x l).Perm (x::l)
 |[] => .refl _
 |y::r=>by
  unfold ins
  split
  ·exact .refl _
  ·exact ((ins_perm x r).cons y).trans (.swap _ _ _)
theorem isort_perm:∀ l,(isort l).Perm l
 |[] => .refl _
 |x::r=>(ins_perm x _).trans ((isort_perm r).cons x)
theorem ins_sorted (x:Int):∀ l:List Int,l.Pairwise (· <= ·)->(ins x l).Pairwise (· <= ·)
 |[],_=>by simp [ins]
 |y::r,h=>by
  unfold ins
  have h':=List.pairwise_cons.1 h
  split
  ·rename_i hle
   refine List.pairwise_cons.2 ⟨fun z hz=>?_,h⟩
   rcases List.mem_cons.1 hz with rfl|hz
   ·exact hle
   ·have:=h'.1 z hz;omega
  ·rename_i hle
   refine List.pairwise_cons.2 ⟨fun z hz=>?_,ins_sorted x r h'.2⟩
   rcases List.mem_cons.1 ((ins_perm x r).mem_iff.1 hz) with rfl|hz
   ·omega
   ·exact h'.1 z hz
theorem isort_sorted:∀ l:List Int,(isort l).Pairwise (· <= ·)
 |[] => .nil
 |x::r=>ins_sorted x _ (isort_sorted r)
theorem sorts_eq {zs ks:List Int} (h:zs.Perm ks):(zs.mergeSort fun x y=>decide (x<=y))=isort ks:=by
 have h1:=List.pairwise_mergeSort (le:=fun x y:Int=>decide (x<=y)) (fun a b c h1 h2=>by simp at *;omega) (fun a b=>by simp;omega) zs
 refine List.Perm.eq_of_pairwise (le:=fun a b:Int=>a<=b) (fun a b _ _ h1 h2=>by omega) (h1.imp fun h=>by simpa using h) (isort_sorted ks) ?_
 exact (List.mergeSort_perm zs _).trans (h.trans (isort_perm ks).symm)
theorem int_all {ks:List IV} (h:ks.all isIntIV=true):ks=(ints ks).map (.int .i64):=by
 induction ks with
 |nil=>rfl
 |cons x r ih=>
  rw [List.all_cons,Bool.and_eq_true] at h
  have hr:=ih h.2
  cases x with
  |int k n=>
   cases k<;>simp [isIntIV] at h
   simp only [ints,List.map_cons]
   rw [<-hr]
  |_=>simp [isIntIV] at h
theorem ints_len:∀ {ks:List IV},ks.all isIntIV=true->(ints ks).length=ks.length:=by
 intro ks h
 have:=congrArg List.length (int_all h)
 simpa using this.symm
theorem orc48 {ks us:List IV} (hs:ks.all isIntIV=true) (hl:ks.length<=4294967296) {M:Mem} {w:World} {vs:Array Value} (hm:∀ b o,M b=some o->w.heap[b]? = some o) (hv:VL (VI M) [.fmp ks us] vs) :
  Calls Go.Proofs.Try.prog 14 vs w fun e w'=>∃ cv,e = .returned cv/\WS (QN w) w w'/\OrcEnd w M cv w' (.own 3 1 ((isort (ints ks)).map (.int .i64))):=by
 obtain ⟨v,rfl,hx⟩:=one_arg hv
 have hfit:∀ x∈(isort (ints ks)).map (IV.int .i64),IV.cells x=[x]/\(AV.imm x).fits 1=true:=by
  intro x hx
  obtain ⟨z,_,rfl⟩:=List.mem_map.1 hx
  exact ⟨rfl,rfl⟩
 cases hx with
 |fmp _ _ b es clk hM hk hv hks hvs hbn=>
  have hkeys:∀ (i:Nat) (h:i < es.size),es[i].key = .int .i64 ((ints ks).getD i 0):=by
   intro i h
   have h1:ks[i]? = some (.int .i64 ((ints ks).getD i 0)):=by
    have h2:=int_all hs
    have h3:i < (ints ks).length:=by rw [ints_len hs];omega
    have h4:(ints ks)[i]? = some ((ints ks).getD i 0):=by rw [List.getD_eq_getElem?_getD,List.getElem?_eq_getElem h3];rfl
    have h6:=congrArg (fun l=>l[i]?) h2
    simp only [List.getElem?_map,h4,Option.map_some] at h6
    exact h6
   have h5:=VI_int (hks i _ h1)
   rwa [getD_entry es i h] at h5
  have hkey:∀ x∈es.toList,x.key = .int .i64 (keyInt x):=by
   intro x hx
   obtain ⟨i,hi,rfl⟩:=List.getElem_of_mem hx
   have h6:=hkeys i (by simpa using hi)
   have:(es.toList[i]).key = .int .i64 ((ints ks).getD i 0):=by simpa using h6
   simp only [keyInt,this]
  have hlist:es.toList.map keyInt=ints ks:=by
   apply List.ext_getElem
   ·simp [ints_len hs,hk]
   ·intro i h1 h2
    have h7:i < es.size:=by simpa using h1
    have h8:=hkeys i h7
    simp only [List.getElem_map,Array.getElem_toList,keyInt,h8]
    simp [List.getD_eq_getElem?_getD,h2]
  refine (walk48 b es clk w (hm _ _ hM) hbn hkey (by omega)).mono fun e w' ⟨v,zs,he,hp,ho,hB⟩=>?_
  subst he
  rw [hlist] at hp
  rw [sorts_eq hp] at ho
  have hlen:zs.length=((isort (ints ks)).map (IV.int .i64)).length:=by rw [List.length_map,(isort_perm _).length_eq,hp.length_eq]
  rw [hlen] at ho
  refine orc_own hm hB ho hfit fun i x hx=>?_
  rw [List.getElem?_map,Option.map_eq_some_iff] at hx
  obtain ⟨z,hz,rfl⟩:=hx
  have:((isort (ints ks)).map (Value.int .i64)).getD i Go.undef = .int .i64 z:=by simp [hz]
  rw [this]
  exact .int _ z
theorem orcOK:OrcOK CC:=by
 intro f ivs r h
 have h':orcs f ivs=some r:=h
 unfold orcs at h'
 split at h'
 ·split at h'
  ·rename_i hc
   cases h'
   exact ⟨⟨_,Go.Proofs.Try.func13,by kernel_rfl⟩,fun M w vs hm hv=>orc56 hc.1 hc.2 hm hv⟩
  ·cases h'
 ·split at h'
  ·rename_i hc
   cases h'
   exact ⟨⟨_,Go.Proofs.Try.func14,by kernel_rfl⟩,fun M w vs hm hv=>orc48 hc.1 hc.2 hm hv⟩
  ·cases h'
 ·cases h'
end Go.Abs

/- The abstract interpreter: a logic of what code comes to: joins; structs in boxes and in slices; builds. -/
namespace Go.Abs
variable {C:Cfg} {fid nt:Nat} {l:Env} {G:Nat->Obj} {nx:Nat} {df:List (AV×List AV)} {pk:Pk} {Φ Φ':Out->Prop} {a b:Code} {ol r:List Oper} {base i d:Nat} {ty:TypeId} {pos:String} {af:Array Edge} {v:AV} {id:Nat}
def cutP {X:Type} (le:X->Env) (Ge:X->Nat->(Nat->Obj)->Prop) (df:List (AV×List AV)) (pk:Pk) (Φ:Out->Prop):Out->Prop
 | .norm s=>∃ x,Agree s.tmps (le x)/\Ge x s.nx s.G/\s.defers=df/\s.pk=pk
 |o=>Φ o
theorem W.cut {X:Type} (le:X->Env) (Ge:X->Nat->(Nat->Obj)->Prop) (h1:W C fid nt a l G nx df pk (cutP le Ge df pk Φ)) (h2:∀ x nx G,Ge x nx G->W C fid nt b (le x) G nx df pk Φ):W C fid nt (.seq a b) l G nx df pk Φ:=by
 refine W.seq (h1.mono fun o ho=>?_)
 cases o with
 |norm s=>
  obtain ⟨x,ha,hg,hd,hp⟩:=ho
  have:=(h2 x s.nx s.G hg).st s.tmps ha
  have e:s=⟨s.tmps,s.G,s.nx,df,pk⟩:=by cases s;simp_all
  rw [e];exact this
 |_=>exact ho
theorem W.skipCut {X:Type} {le:X->Env} {Ge:X->Nat->(Nat->Obj)->Prop} (x:X) (hl:Sub (le x) l) (hG:Ge x nx G):W C fid nt .skip l G nx df pk (cutP le Ge df pk Φ) := .skip fun _ ht=>⟨x,ht.sub hl,hG,rfl,rfl⟩
theorem W.retCut {X:Type} {le:X->Env} {Ge:X->Nat->(Nat->Obj)->Prop} {df':List (AV×List AV)} {pk':Pk} (h:W C fid nt .ret l G nx df pk Φ):W C fid nt .ret l G nx df pk (cutP le Ge df' pk' Φ) := .ret h.retI
theorem W.exitCut {X:Type} {le:X->Env} {Ge:X->Nat->(Nat->Obj)->Prop} {df':List (AV×List AV)} {pk':Pk} {id:Nat} (h:W C fid nt (.exit id) l G nx df pk Φ):W C fid nt (.exit id) l G nx df pk (cutP le Ge df' pk' Φ) := .exit h.exitI
/-! ### structs -/
theorem O.boxS {x:Operand} {t:TypeId} {k:TyI} {cs:List AV} [hk:TyIs C t k] (hx:lookO l x=some v) (hc:v.cells=cs) (hf:v.fits k.sz=true):OpV C id l G nx df pk (.box t x) (.ptr id 0) [(id, .set (.box cs false))]:=
 O.of fun t L hA=>by simp only [opA,hA.ev hx,aBox,hk.is,if_pos hf,hc]
theorem O.fieldP {x:Operand} {t:TypeId} {f:Nat} {k:TyI} {fs:List (Nat×Nat)} {o off0 off sz:Nat} [hk:TyIs C t k] (hd:k.d = .st fs) (hf:fs[f]? = some (off,sz)) (hs:Nat.beq sz 0=false) (hx:lookO l x=some (.ptr o off0)) :
  OpV C id l G nx df pk (.fieldAddr t x f) (.ptr o (off0+off)) []:=
 O.of fun t L hA=>by
  have:¬ sz=0:=fun e=>by subst e;cases hs
  simp only [opA,hA.ev hx,aFieldAddr,hk.is,hd,hf,if_neg this,moveAt]
theorem O.fieldE {x:Operand} {t:TypeId} {f:Nat} {k:TyI} {fs:List (Nat×Nat)} {xs:List IV} {n off0 off sz:Nat} [hk:TyIs C t k] (hd:k.d = .st fs) (hf:fs[f]? = some (off,sz)) (hs:Nat.beq sz 0=false) (hx:lookO l x=some (.imm (.eptr xs n off0))) :
  OpV C id l G nx df pk (.fieldAddr t x f) (.imm (.eptr xs n (off0+off))) []:=
 O.of fun t L hA=>by
  have:¬ sz=0:=fun e=>by subst e;cases hs
  simp only [opA,hA.ev hx,aFieldAddr,hk.is,hd,hf,if_neg this,moveAt]
theorem O.fieldR {x:Operand} {t:TypeId} {f:Nat} {k:TyI} {fs:List (Nat×Nat)} {o m n off0 off sz:Nat} [hk:TyIs C t k] (hd:k.d = .st fs) (hf:fs[f]? = some (off,sz)) (hs:Nat.beq sz 0=false) (hx:lookO l x=some (.rptr o m n off0)) :
  OpV C id l G nx df pk (.fieldAddr t x f) (.rptr o m n (off0+off)) []:=
 O.of fun t L hA=>by
  have:¬ sz=0:=fun e=>by subst e;cases hs
  simp only [opA,hA.ev hx,aFieldAddr,hk.is,hd,hf,if_neg this,moveAt]
theorem sub_one {α:Type} {cs:List α} {off:Nat} {u:α} (hu:cs[off]? = some u):sub cs off 1=some [u]:=by
 have hlt:=(List.getElem?_eq_some_iff.1 hu).1
 unfold sub
 rw [if_pos (by omega),List.drop_eq_getElem_cons hlt]
 have:cs[off]=u:=(List.getElem?_eq_some_iff.1 hu).2
 simp [this]
theorem O.loadP {x:Operand} {t:TypeId} {k:TyI} {o off:Nat} {cs:List AV} {fr:Bool} {u:AV} [hk:TyIs C t k] (hg:k.d.isAgg=false) (hs:k.sz=1) (hx:lookO l x=some (.ptr o off)) (hG:G o = .box cs fr) (hu:cs[off]? = some u) :
  OpV C id l G nx df pk (.load t x) u []:=
 O.of fun t L hA=>by simp only [opA,hA.ev hx,aLoad,hk.is,hs,readAt,hG,sub_one hu,hg,Bool.false_eq_true,if_false]
theorem O.loadPA {x:Operand} {t:TypeId} {k:TyI} {o off:Nat} {cs us:List AV} {fr:Bool} [hk:TyIs C t k] (hg:k.d.isAgg=true) (hx:lookO l x=some (.ptr o off)) (hG:G o = .box cs fr) (hu:sub cs off k.sz=some us) (hv:mkAgg us=v) :
  OpV C id l G nx df pk (.load t x) v []:=
 O.of fun t L hA=>by simp only [opA,hA.ev hx,aLoad,hk.is,readAt,hG,hu,hg,if_true,hv]
theorem O.loadE {x:Operand} {t:TypeId} {k:TyI} {xs:List IV} {n off:Nat} {e u:IV} [hk:TyIs C t k] (hg:k.d.isAgg=false) (hs:k.sz=1) (hx:lookO l x=some (.imm (.eptr xs n off))) (he:xs[n]? = some e) (hu:e.cells[off]? = some u) :
  OpV C id l G nx df pk (.load t x) (.imm u) []:=
 O.of fun t L hA=>by simp only [opA,hA.ev hx,aLoad,hk.is,hs,readAt,he,sub_one hu,Option.map_some,List.map_cons,List.map_nil,hg,Bool.false_eq_true,if_false]
theorem mkAgg_imm (cs:List IV):mkAgg (cs.map .imm) = .imm (.agg cs):=by
 have:allImm (cs.map AV.imm)=some cs:=by
  induction cs with
  |nil=>rfl
  |cons x r ih=>simp only [List.map_cons,allImm,ih,Option.map_some]
 unfold mkAgg
 rw [this]
theorem O.loadEA {x:Operand} {t:TypeId} {k:TyI} {xs cs:List IV} {n off:Nat} {e:IV} [hk:TyIs C t k] (hg:k.d.isAgg=true) (hx:lookO l x=some (.imm (.eptr xs n off))) (he:xs[n]? = some e) (hu:sub e.cells off k.sz=some cs) :
  OpV C id l G nx df pk (.load t x) (.imm (.agg cs)) []:=
 O.of fun t L hA=>by simp only [opA,hA.ev hx,aLoad,hk.is,readAt,he,hu,Option.map_some,hg,if_true,mkAgg_imm]
theorem O.storeP {a x:Operand} {t:TypeId} {k:TyI} {o off:Nat} {cs cs':List AV} [hk:TyIs C t k] (ha:lookO l a=some (.ptr o off)) (hx:lookO l x=some v) (hf:v.fits k.sz=true) (hG:G o = .box cs false) (hn:Nat.ble (off+k.sz) cs.length=true) (hc:splice cs off v.cells=cs') :
  OpV C id l G nx df pk (.store t a x) .undef [(o, .set (.box cs' false))]:=
 O.of fun t L hA=>by
  have:=Nat.le_of_ble_eq_true hn
  simp only [opA,hA.ev ha,hA.ev hx,aStore,hk.is,if_pos hf,hG,if_pos this,hc]
def partsE (l:Env):List (Nat×Operand)->Option (List (Nat×AV))
 |[]=>some []
 |(i,x)::r=>match lookO l x with
  |some v=>match partsE l r with
   |some vs=>some ((i,v)::vs)
   |none=>none
  |none=>none
theorem partsE_ok {t:Nat->AV} (h:Agree t l):∀ {ps:List (Nat×Operand)} {vs:List (Nat×AV)},partsE l ps=some vs->(ps.map fun p=>(p.1,Go.Abs.ev t p.2))=vs
 |[],vs,hp=>by cases hp;rfl
 |(i,x)::r,vs,hp=>by
  unfold partsE at hp
  split at hp
  ·rename_i v hv
   split at hp
   ·rename_i ws hw
    cases hp
    simp only [List.map_cons,h.ev hv,partsE_ok h hw]
   ·cases hp
  ·cases hp
theorem O.build {t:TypeId} {ps:List (Nat×Operand)} {k:TyI} {fs:List (Nat×Nat)} {vs:List (Nat×AV)} {cs:List AV} [hk:TyIs C t k] (hd:k.d = .st fs) (hp:partsE l ps=some vs) (hf:fillA fs k.zero.cells vs=some cs) (hv:mkAgg cs=v) :
  OpV C id l G nx df pk (.build t ⟨ps⟩) v []:=
 O.of fun t L hA=>by simp only [opA,aBuild,hk.is,hd,partsE_ok hA hp,hf,hv]
theorem O.extr {x:Operand} {ix:Nat} {vs:List IV} {u:IV} (hx:lookO l x=some (.imm (.tup vs))) (hu:vs[ix]? = some u):OpV C id l G nx df pk (.extract x ix) (.imm u) []:=
 O.of fun t L hA=>by simp only [opA,hA.ev hx,aExtract,hu]
theorem sub_all {α:Type} (cs:List α):sub cs 0 cs.length=some cs:=by
 unfold sub
 rw [if_pos (by omega)]
 simp
theorem W.retFinCT {a u:Nat} {t:TypeId} {o:Nat} {k:TyI} {cs:List AV} {fr:Bool} {w:AV} {Ψ:AV->(Nat->Obj)->Nat->Prop} [hk:TyIs C t k] (ha:look l a=some (.ptr o 0)) (hG:G o = .box cs fr) (hs:Nat.beq cs.length k.sz=true) (hg:k.d.isAgg=true) (hw:look l u=some w) (h:Ψ (mkTup [mkAgg cs,w]) G nx) :
  W C fid nt .ret l G nx [] .no (fin C [.cell a t, .tmp u] Ψ):=
 .ret fun t' ht=>⟨rfl,rfl,mkTup [mkAgg cs,w],by
  have e:cs.length=k.sz:=Nat.eq_of_beq_eq_true hs
  have e2:Go.Abs.sub cs 0 k.sz=some cs:=by rw [<-e];exact sub_all cs
  simp only [resultsA,resultsL,resultA,ht _ _ ha,ht _ _ hw,aLoad,hk.is,readAt,hG,e2,hg,if_true],h⟩
theorem W.retFinCA {a:Nat} {t:TypeId} {o:Nat} {k:TyI} {cs:List AV} {fr:Bool} {Ψ:AV->(Nat->Obj)->Nat->Prop} [hk:TyIs C t k] (ha:look l a=some (.ptr o 0)) (hG:G o = .box cs fr) (hs:Nat.beq cs.length k.sz=true) (hg:k.d.isAgg=true) (h:Ψ (mkAgg cs) G nx) :
  W C fid nt .ret l G nx [] .no (fin C [.cell a t] Ψ):=
 .ret fun t' ht=>⟨rfl,rfl,mkAgg cs,by
  have e:cs.length=k.sz:=Nat.eq_of_beq_eq_true hs
  have e2:Go.Abs.sub cs 0 k.sz=some cs:=by rw [<-e];exact sub_all cs
  simp only [resultsA,resultsL,resultA,ht _ _ ha,aLoad,hk.is,readAt,hG,e2,hg,if_true],h⟩
def boundE (l:Env) (n d:Nat):Option Operand->Option Nat
 |none=>some d
 |some x=>match lookO l x with
  |some (.imm (.int _ i))=>if 0<=i/\i<=n then some i.toNat else none
  |_=>none
theorem boundE_ok {t:Nat->AV} (h:Agree t l) {n d m:Nat} {o:Option Operand} (hb:boundE l n d o=some m):bound n d (o.map (Go.Abs.ev t))=some m:=by
 cases o with
 |none=>exact hb
 |some x=>
  simp only [boundE] at hb
  split at hb
  ·rename_i k i hx
   simp only [Option.map_some,h.ev hx,bound]
   exact hb
  ·cases hb
theorem O.sliceL {x:Operand} {t e:TypeId} {lo hi:Option Operand} {k ke:TyI} {xs:List IV} {a b:Nat} [hk:TyIs C t k] (ht:k.d = .sl e) [he:TyIs C e ke] (hx:lookO l x=some (.imm (.lst xs))) (hh:boundE l xs.length xs.length hi=some b) (hl:boundE l b 0 lo=some a) (hs:xs.all (fun y=>y.cells.length==ke.sz)=true) :
  OpV C id l G nx df pk (.slice t x lo hi none) (.imm (.lst ((xs.take b).drop a))) []:=
 O.of fun t' L hA=>by
  have hp:peek G pkDepth (.imm (.lst xs))=some (.lst xs,[]):=by unfold pkDepth peek;rfl
  simp only [opA,hA.ev hx,aSlice,hk.is,ht,hp,he.is,boundE_ok hA hh,boundE_ok hA hl,if_pos hs,give_nil]
theorem O.callG {f:FuncId} {ar:List Operand} {ats:Array TypeId} {vs:List AV} {ivs:List IV} {ids:List Nat} {x:IV} [hf:FnIs C f] (ha:looks l ar=some vs) (hi:peeks G vs=some (ivs,ids)) (hr:Ret C f ivs x) (hx:x.scalar=true) :
  OpV C id l G nx df pk (.call { callee := .value (.func f),args:=⟨ar⟩,argTypes:=ats }) (.imm x) []:=by
 obtain ⟨n,v,G',nx',pk',ids,h1,h2⟩:=hr
 refine ⟨fun t ht=>⟨n,?_⟩⟩
 simp only [opA,ev,aCall,fnOf,List.map_nil,List.append_nil,callA,hf.byref,Bool.false_eq_true,if_false,ht.evs ha,hi,hf.orc,h1,h2,hx,give,if_true]
end Go.Abs

/- The abstract interpreter: a logic of what code comes to: slices of the call's own that grow. -/
namespace Go.Abs
variable {C:Cfg} {fid nt:Nat} {l:Env} {G:Nat->Obj} {nx:Nat} {df:List (AV×List AV)} {pk:Pk} {Φ Φ':Out->Prop} {a b:Code} {ol r:List Oper} {base i d:Nat} {ty:TypeId} {pos:String} {af:Array Edge} {v:AV} {id:Nat}
def Own (e sz lo hi:Nat) (xs:List IV) (G:Nat->Obj) (v:AV):Prop:=
 (xs=[]/\v = .nils)\/∃ o,lo<=o/\o < hi/\v = .row o xs.length/\G o = .row e sz (xs.map .imm) false
theorem Own.nil (e sz lo hi:Nat) (G:Nat->Obj):Own e sz lo hi [] G .nils := .inl ⟨rfl,rfl⟩
theorem Own.frame {e sz lo hi hi':Nat} {xs:List IV} {G G':Nat->Obj} {v:AV} (h:Own e sz lo hi xs G v) (hh:hi<=hi') (hG:∀ o,lo<=o->o < hi->G' o=G o):Own e sz lo hi' xs G' v:=by
 rcases h with h|⟨o,h1,h2,h3,h4⟩
 ·exact .inl h
 ·exact .inr ⟨o,h1,by omega,h3,by rw [hG o h1 h2];exact h4⟩
theorem Own.up {e sz lo hi hi':Nat} {xs:List IV} {G:Nat->Obj} {v:AV} (h:Own e sz lo hi xs G v) (hh:hi<=hi'):Own e sz lo hi' xs G v:=h.frame hh fun _ _ _=>rfl
theorem Own.upd {e sz lo hi hi' q:Nat} {xs:List IV} {G:Nat->Obj} {v:AV} {x:Obj} (h:Own e sz lo hi xs G v) (hh:hi<=hi') (hq:hi<=q):Own e sz lo hi' xs (Go.Abs.upd G q x) v:=
 h.frame hh fun o _ h2=>upd_ne _ _ _ _ (by omega)
theorem peekL_imm {f:AV->Option (IV×List Nat)} (hf:∀ x,f (.imm x)=some (x,[])):∀ xs:List IV,peekL f (xs.map .imm)=some (xs,[])
 |[]=>rfl
 |x::r=>by simp only [List.map_cons,peekL,hf,peekL_imm hf r];rfl
theorem Own.peek {e sz lo hi k:Nat} {xs:List IV} {G:Nat->Obj} {v:AV} (h:Own e sz lo hi xs G v):∃ ids,Go.Abs.peek G (k+1) v=some (.lst xs,ids):=by
 rcases h with ⟨rfl,rfl⟩|⟨o,_,_,rfl,hG⟩
 ·exact ⟨[],rfl⟩
 ·refine ⟨[o],?_⟩
  have hp:∀ x,Go.Abs.peek G k (.imm x)=some (x,[]):=fun x=>by cases k<;>rfl
  simp only [Go.Abs.peek,hG,List.length_map,if_true,peekL_imm hp]
theorem Own.elems {e sz lo hi:Nat} {xs:List IV} {G:Nat->Obj} {v:AV} (h:Own e sz lo hi xs G v):Go.Abs.elems G v=some (xs.map .imm):=by
 rcases h with ⟨rfl,rfl⟩|⟨o,_,_,rfl,hG⟩
 ·rfl
 ·simp [Go.Abs.elems,hG]
theorem O.lenO {x:Operand} {t:TypeId} {k:TyI} {e e' sz lo hi:Nat} {xs:List IV} [hk:TyIs C t k] (hx:lookO l x=some v) (hl:k.d = .sl e') (ho:Own e sz lo hi xs G v):OpV C id l G nx df pk (.call { callee := .builtin .len,args := #[x],argTypes := #[t] }) (.imm (.int .i64 xs.length)) []:=
 O.len (m:=xs.length) hx (by rw [hl];simp [lenA,ho.elems])
theorem fits_all {sz:Nat} {ys:List IV} (h:∀ y∈ys,(AV.imm y).fits sz=true):(ys.map AV.imm).all (AV.fits sz)=true:=by
 rw [List.all_eq_true]
 intro x hx
 obtain ⟨y,hy,rfl⟩:=List.mem_map.1 hx
 exact h y hy
theorem R.appOwn {x y:Operand} {t u e lo:Nat} {k ke:TyI} {xs ys:List IV} {w:AV} [hk:TyIs C t k] (ht:k.d = .sl e) [he:TyIs C e ke] (hu:Nat.beq t u=true) (hx:lookO l x=some v) (ho:Own e ke.sz lo nx xs G v) (hy:lookO l y=some w) (hw:elems G w=some (ys.map .imm))
  (hs:0 < ke.sz) (hb:ke.bytes<=4096) (hz:ke.zero.fits ke.sz=true) (hys:∀ y∈ys,(AV.imm y).fits ke.sz=true) (hm:xs.length+ys.length<=most) (hid:lo<=base+i/\base+i < nx) (hd:Nat.ble (d+1) nt=true)
  (next:∀ v' G',Own e ke.sz lo nx (xs++ys) G' v'->(∀ o,o < lo->G' o=G o)->R C nt ol base (i+1) r ((d,v')::l) G' nx df pk Φ) :
  R C nt ol base i (⟨some d, .call { callee := .builtin .append,args := #[x,y],argTypes := #[t,u] },ty,pos,af,none⟩::r) l G nx df pk Φ:=by
 rcases ho with ⟨rfl,rfl⟩|⟨o,h1,h2,rfl,hG⟩
 ·refine R.op1 (O.appNil ht hu hx hy hw hs hb hz (fits_all hys) (by simpa using hm)) hd (next _ _ (.inr ⟨base+i,hid.1,hid.2,by simp,by rw [upd_same];simp⟩) fun o ho=>upd_ne _ _ _ _ (by omega))
 ·refine R.op1 (O.appRow ht hu hx hG (by simp) hy hw hs hb hz (fits_all hys) (by simpa using hm)) hd (next _ _ (.inr ⟨o,h1,h2,by simp,by rw [upd_same];simp⟩) fun o' ho'=>upd_ne _ _ _ _ (by omega))
end Go.Abs

/- The abstract interpreter: a logic of what code comes to: slices of slices of the call's own. -/
namespace Go.Abs
variable {C:Cfg} {fid nt:Nat} {l:Env} {G G':Nat->Obj} {nx:Nat} {df:List (AV×List AV)} {pk:Pk} {Φ Φ':Out->Prop} {a b:Code} {ol r:List Oper} {base i d:Nat} {ty:TypeId} {pos:String} {af:Array Edge} {v:AV} {id:Nat}
def All2 {α β:Type} (R:α->β->Prop):List α->List β->Prop
 |[],[]=>True
 |a::r,b::s=>R a b/\All2 R r s
 |_,_=>False
theorem All2.imp {α β:Type} {R S:α->β->Prop} (h:∀ a b,R a b->S a b):∀ {l:List α} {m:List β},All2 R l m->All2 S l m
 |[],[],_=>trivial
 |_::_,_::_,hl=>⟨h _ _ hl.1,All2.imp h hl.2⟩
 |[],_::_,hl=>hl.elim
 |_::_,[],hl=>hl.elim
theorem All2.append {α β:Type} {R:α->β->Prop}:∀ {l:List α} {m:List β} {l':List α} {m':List β},All2 R l m->All2 R l' m'->All2 R (l++l') (m++m')
 |[],[],_,_,_,h'=>h'
 |_::_,_::_,_,_,hl,h'=>⟨hl.1,All2.append hl.2 h'⟩
 |[],_::_,_,_,hl,_=>hl.elim
 |_::_,[],_,_,hl,_=>hl.elim
theorem All2.length {α β:Type} {R:α->β->Prop}:∀ {l:List α} {m:List β},All2 R l m->l.length=m.length
 |[],[],_=>rfl
 |_::_,_::_,hl=>by simp only [List.length_cons,All2.length hl.2]
 |[],_::_,hl=>hl.elim
 |_::_,[],hl=>hl.elim
theorem peekL_frame {f g:AV->Option (IV×List Nat)} {Q:Nat->Prop} (hfg:∀ v x ids,f v=some (x,ids)->(∀ o∈ids,Q o)->g v=some (x,ids)):∀ (vs:List AV) (xs:List IV) (ids:List Nat),peekL f vs=some (xs,ids)->(∀ o∈ids,Q o)->peekL g vs=some (xs,ids)
 |[],xs,ids,h,_=>h
 |v::r,xs,ids,h,hq=>by
  unfold peekL at h ⊢
  cases hv:f v with
  |none=>rw [hv] at h;cases h
  |some p=>
   obtain ⟨x,i⟩:=p
   rw [hv] at h
   cases hr:peekL f r with
   |none=>rw [hr] at h;cases h
   |some q=>
    obtain ⟨l,is⟩:=q
    rw [hr] at h
    cases h
    rw [hfg v x i hv (fun o ho=>hq o (by simp [ho])),peekL_frame hfg r l is hr (fun o ho=>hq o (by simp [ho]))]
theorem peek_frame:∀ (k:Nat) (v:AV) (x:IV) (ids:List Nat),Go.Abs.peek G k v=some (x,ids)->(∀ o∈ids,G' o=G o)->Go.Abs.peek G' k v=some (x,ids):=by
 intro k
 induction k with
 |zero=>
  intro v x ids h _
  cases v<;>simp only [Go.Abs.peek] at h ⊢ <;> first|exact h|cases h
 |succ k ih=>
  intro v x ids h hq
  cases v with
  |imm y=>exact h
  |nils=>exact h
  |row o n=>
   unfold Go.Abs.peek at h ⊢
   cases hG:G o with
   |row e sz vs fr=>
    rw [hG] at h
    dsimp only at h
    split at h
    ·rename_i hn
     cases hp:peekL (Go.Abs.peek G k) vs with
     |none=>rw [hp] at h;cases h
     |some p=>
      obtain ⟨xs,is⟩:=p
      rw [hp] at h
      cases h
      rw [hq o (by simp),hG]
      dsimp only
      rw [if_pos hn,peekL_frame (g:=Go.Abs.peek G' k) (Q:=fun o=>G' o=G o) ih vs xs is hp (fun o' ho=>hq o' (by simp [ho]))]
    ·cases h
   |_=>rw [hG] at h;cases h
  |map o=>
   unfold Go.Abs.peek at h ⊢
   cases hG:G o with
   |mp ks vs fr=>
    rw [hG] at h
    dsimp only at h
    cases hp:peekL (Go.Abs.peek G k) vs with
    |none=>rw [hp] at h;cases h
    |some p=>
     obtain ⟨xs,is⟩:=p
     rw [hp] at h
     cases h
     rw [hq o (by simp),hG]
     dsimp only
     rw [peekL_frame (g:=Go.Abs.peek G' k) (Q:=fun o=>G' o=G o) ih vs xs is hp (fun o' ho=>hq o' (by simp [ho]))]
   |_=>rw [hG] at h;cases h
  |ptr o off=>
   unfold Go.Abs.peek at h ⊢
   cases hG:G o with
   |box cs fr=>
    rw [hG] at h
    dsimp only at h
    cases hp:peekL (Go.Abs.peek G k) cs with
    |none=>rw [hp] at h;cases h
    |some p=>
     obtain ⟨xs,is⟩:=p
     rw [hp] at h
     cases h
     rw [hq o (by simp),hG]
     dsimp only
     rw [peekL_frame (g:=Go.Abs.peek G' k) (Q:=fun o=>G' o=G o) ih cs xs is hp (fun o' ho=>hq o' (by simp [ho]))]
   |_=>rw [hG] at h;cases h
  |fn f cap=>
   unfold Go.Abs.peek at h ⊢
   cases hp:peekL (Go.Abs.peek G k) cap with
   |none=>rw [hp] at h;cases h
   |some p=>
    obtain ⟨xs,is⟩:=p
    rw [hp] at h
    cases h
    rw [peekL_frame (g:=Go.Abs.peek G' k) (Q:=fun o=>G' o=G o) ih cap xs _ hp hq]
  |agg cs=>
   unfold Go.Abs.peek at h ⊢
   cases hp:peekL (Go.Abs.peek G k) cs with
   |none=>rw [hp] at h;cases h
   |some p=>
    obtain ⟨xs,is⟩:=p
    rw [hp] at h
    cases h
    rw [peekL_frame (g:=Go.Abs.peek G' k) (Q:=fun o=>G' o=G o) ih cs xs _ hp hq]
  |tup cs=>
   unfold Go.Abs.peek at h ⊢
   cases hp:peekL (Go.Abs.peek G k) cs with
   |none=>rw [hp] at h;cases h
   |some p=>
    obtain ⟨xs,is⟩:=p
    rw [hp] at h
    cases h
    rw [peekL_frame (g:=Go.Abs.peek G' k) (Q:=fun o=>G' o=G o) ih cs xs _ hp hq]
  |_=>simp only [Go.Abs.peek] at h;cases h
def Rdx (d:Nat) (G:Nat->Obj) (P:Nat->Prop) (v:AV) (x:IV):Prop:=∃ ids,(∀ k,Go.Abs.peek G (k+d) v=some (x,ids))/\∀ i∈ids,P i
theorem Rdx.imm (d:Nat) (G:Nat->Obj) (P:Nat->Prop) (x:IV):Rdx d G P (.imm x) x:=⟨[],fun k=>by cases k+d<;>rfl,fun _ h=>by cases h⟩
theorem Rdx.nils (d:Nat) (G:Nat->Obj) (P:Nat->Prop):Rdx d G P .nils (.lst []):=⟨[],fun k=>by cases k+d<;>rfl,fun _ h=>by cases h⟩
theorem Rdx.frame {d:Nat} {P P':Nat->Prop} {v:AV} {x:IV} (h:Rdx d G P v x) (hG:∀ o,P o->G' o=G o) (hP:∀ o,P o->P' o):Rdx d G' P' v x:=by
 obtain ⟨ids,h1,h2⟩:=h
 exact ⟨ids,fun k=>peek_frame _ _ _ _ (h1 k) fun o ho=>hG o (h2 o ho),fun o ho=>hP o (h2 o ho)⟩
theorem Rdx.peek {d:Nat} {P:Nat->Prop} {v:AV} {x:IV} (h:Rdx d G P v x) (hd:d<=100):∃ ids,Go.Abs.peek G pkDepth v=some (x,ids):=by
 obtain ⟨ids,h1,_⟩:=h
 have:=h1 (100-d)
 rw [show 100-d+d=100 by omega] at this
 exact ⟨ids,this⟩
theorem All2.peekL {d:Nat} {P:Nat->Prop}:∀ {vs:List AV} {xs:List IV},All2 (Rdx d G P) vs xs->∃ ids,(∀ k,Go.Abs.peekL (Go.Abs.peek G (k+d)) vs=some (xs,ids))/\∀ i∈ids,P i
 |[],[],_=>⟨[],fun _=>rfl,fun _ h=>by cases h⟩
 |v::vs,x::xs,h=>by
  obtain ⟨i1,a1,b1⟩:=h.1
  obtain ⟨i2,a2,b2⟩:=All2.peekL h.2
  refine ⟨i1++i2,fun k=>?_,fun i hi=>(List.mem_append.1 hi).elim (b1 i) (b2 i)⟩
  unfold Go.Abs.peekL
  rw [a1 k,a2 k]
 |[],_::_,h=>h.elim
 |_::_,[],h=>h.elim
theorem Rdx.row {d o n e sz:Nat} {P:Nat->Prop} {vs:List AV} {xs:List IV} {fr:Bool} (hG:G o = .row e sz vs fr) (hn:vs.length=n) (h:All2 (Rdx d G P) vs xs) (ho:P o):Rdx (d+1) G P (.row o n) (.lst xs):=by
 obtain ⟨ids,h1,h2⟩:=h.peekL
 refine ⟨o::ids,fun k=>?_,fun i hi=>(List.mem_cons.1 hi).elim (fun h=>h▸ho) (h2 i)⟩
 show Go.Abs.peek G (k+d+1) _=_
 unfold Go.Abs.peek
 rw [hG]
 dsimp only
 rw [if_pos hn,h1 k]
theorem All2.imms (d:Nat) (G:Nat->Obj) (P:Nat->Prop):∀ xs:List IV,All2 (Rdx d G P) (xs.map .imm) xs
 |[]=>trivial
 |_::r=>⟨.imm ..,All2.imms d G P r⟩
theorem Own.rdx {e sz lo hi:Nat} {xs:List IV} (h:Own e sz lo hi xs G v):Rdx 1 G (fun i=>lo<=i/\i < hi) v (.lst xs):=by
 rcases h with ⟨rfl,rfl⟩|⟨o,h1,h2,rfl,hG⟩
 ·exact .nils ..
 ·exact .row hG (by simp) (All2.imms 0 G _ xs) ⟨h1,h2⟩
def OwnV (d e sz lo hi:Nat) (xs:List IV) (G:Nat->Obj) (v:AV):Prop:=
 (xs=[]/\v = .nils)\/∃ o vs,lo<=o/\o < hi/\v = .row o vs.length/\G o = .row e sz vs false/\All2 (Rdx d G (fun i=>lo<=i/\i < hi/\i≠o)) vs xs
theorem OwnV.rdx {d e sz lo hi:Nat} {xs:List IV} (h:OwnV d e sz lo hi xs G v):Rdx (d+1) G (fun i=>lo<=i/\i < hi) v (.lst xs):=by
 rcases h with ⟨rfl,rfl⟩|⟨o,vs,h1,h2,rfl,hG,ha⟩
 ·exact .nils ..
 ·exact .row hG rfl (ha.imp fun _ _ h=>h.frame (fun _ _=>rfl) fun _ h=>⟨h.1,h.2.1⟩) ⟨h1,h2⟩
theorem OwnV.frame {d e sz lo hi hi':Nat} {xs:List IV} (h:OwnV d e sz lo hi xs G v) (hh:hi<=hi') (hG:∀ o,lo<=o->o < hi->G' o=G o):OwnV d e sz lo hi' xs G' v:=by
 rcases h with h|⟨o,vs,h1,h2,h3,h4,ha⟩
 ·exact .inl h
 ·exact .inr ⟨o,vs,h1,by omega,h3,by rw [hG o h1 h2];exact h4,ha.imp fun _ _ h=>h.frame (fun i hi=>hG i hi.1 hi.2.1) fun i hi=>⟨hi.1,by omega,hi.2.2⟩⟩
theorem R.appOwnV {x y:Operand} {t u d' e lo hi:Nat} {k ke:TyI} {xs ys:List IV} {ws:List AV} {w:AV} [hk:TyIs C t k] (ht:k.d = .sl e) [he:TyIs C e ke] (hu:Nat.beq t u=true) (hx:lookO l x=some v) (ho:OwnV d' e ke.sz lo hi xs G v) (hy:lookO l y=some w) (hw:elems G w=some ws)
  (hs:0 < ke.sz) (hb:ke.bytes<=4096) (hz:ke.zero.fits ke.sz=true) (hys:ws.all (AV.fits ke.sz)=true) (hm:xs.length+ws.length<=most) (hid:lo<=hi/\hi<=base+i) (hi2:∀ G',(∀ o,o < hi->lo<=o\/G' o=G o)->(∀ o,hi<=o->o≠base+i->G' o=G o)->All2 (Rdx d' G' (fun o=>hi<=o/\o < base+i)) ws ys) (hd:Nat.ble (d+1) nt=true)
  (next:∀ v' G',OwnV d' e ke.sz lo (base+i+1) (xs++ys) G' v'->(∀ o,o < lo->G' o=G o)->(∀ o,hi<=o->o < base+i->G' o=G o)->R C nt ol base (i+1) r ((d,v')::l) G' nx df pk Φ) :
  R C nt ol base i (⟨some d, .call { callee := .builtin .append,args := #[x,y],argTypes := #[t,u] },ty,pos,af,none⟩::r) l G nx df pk Φ:=by
 rcases ho with ⟨rfl,rfl⟩|⟨o,vs,h1,h2,rfl,hG,ha⟩
 ·refine R.op1 (O.appNil ht hu hx hy hw hs hb hz hys (by simpa using hm)) hd (next _ _ (.inr ⟨base+i,ws,by omega,by omega,rfl,upd_same ..,?_⟩) (fun o ho=>upd_ne _ _ _ _ (by omega)) fun o h1 h2=>upd_ne _ _ _ _ (by omega))
  exact (hi2 (upd G (base+i) (.row e ke.sz ws false)) (fun o h => .inr (upd_ne _ _ _ _ (by omega))) fun o h h'=>upd_ne _ _ _ _ h').imp fun _ _ h=>h.frame (fun _ _=>rfl) fun i hi=>⟨by omega,by omega,by omega⟩
 ·refine R.op1 (O.appRow ht hu hx hG rfl hy hw hs hb hz hys (by rw [ha.length];exact hm)) hd (next _ _ (.inr ⟨o,vs++ws,h1,by omega,rfl,upd_same ..,?_⟩) (fun o' ho=>upd_ne _ _ _ _ (by omega)) fun o' h1 h2=>upd_ne _ _ _ _ (by omega))
  refine (ha.imp fun _ _ h=>h.frame (fun i hi=>upd_ne _ _ _ _ hi.2.2) fun i hi=>⟨hi.1,by omega,hi.2.2⟩).append ?_
  refine (hi2 (upd G o (.row e ke.sz (vs++ws) false)) (fun o' h=>?_) fun o' h h'=>upd_ne _ _ _ _ (by omega)).imp fun _ _ h=>h.frame (fun _ _=>rfl) fun i hi=>⟨by omega,by omega,by omega⟩
  by_cases h':o'=o
  ·exact .inl (by omega)
  ·exact .inr (upd_ne _ _ _ _ h')
theorem O.makeSlice {t e:TypeId} {x y:Operand} {k ke:TyI} {kk kk':IntKind} {m n:Int} [hk:TyIs C t k] (ht:k.d = .sl e) (he:TyIs C e ke) (hx:lookO l x=some (.imm (.int kk m))) (hy:lookO l y=some (.imm (.int kk' n))) (h0:0<=m/\m<=n/\n<=most) (hb:ke.bytes<=4096) (hz:ke.zero.fits ke.sz=true) (hs:0 < ke.sz) :
  OpV C id l G nx df pk (.makeSlice t x y) (.row id m.toNat) [(id, .set (.row e ke.sz (List.replicate m.toNat ke.zero) false))]:=
 O.of fun t' L hA=>by
  simp only [opA,hA.ev hx,hA.ev hy,aMakeSlice,hk.is,ht,he.is]
  rw [if_pos ⟨h0.1,h0.2.1,h0.2.2,hb,hz,hs⟩]
theorem O.storeR {a x:Operand} {t et sz:TypeId} {k:TyI} {o m n:Nat} {vs:List AV} {u:AV} [hk:TyIs C t k] (hs:k.sz=1) (ha:lookO l a=some (.rptr o m n 0)) (hx:lookO l x=some v) (hf:v.fits 1=true) (hG:G o = .row et sz vs false) (hm:vs.length=m) (hu:vs[n]? = some u) (huc:Nat.ble 1 u.cells.length=true) (hv:avOf u (splice u.cells 0 v.cells)=v) :
  OpV C id l G nx df pk (.store t a x) .undef [(o, .set (.row et sz (vs.set n v) false))]:=
 O.of fun t' L hA=>by
  simp only [opA,hA.ev ha,hA.ev hx,aStore,hk.is,hs,hf,if_true,hG,hu]
  rw [if_pos ⟨hm,by decide,by have:=Nat.le_of_ble_eq_true huc;omega⟩,hv]
end Go.Abs

/- The abstract interpreter: a logic of what code comes to: panics, deferred calls. -/
namespace Go.Abs
variable {C:Cfg} {fid nt:Nat} {l:Env} {G G':Nat->Obj} {nx:Nat} {df:List (AV×List AV)} {pk:Pk} {Φ Φ':Out->Prop} {a b:Code} {ol r:List Oper} {base i d:Nat} {ty:TypeId} {pos:String} {af:Array Edge} {v:AV} {id:Nat}
def CalP (C:Cfg) (f:FuncId) (vs:List AV) (G:Nat->Obj) (nx:Nat) (Ψ:CR->Prop):Prop:=∃ n r,(low C n).call f vs .no G nx=some (r, .no)/\Ψ r
def RndP (C:Cfg) (q:Nat) (vs:List AV) (G:Nat->Obj) (nx:Nat) (Ψ:CR->Prop):Prop:=∃ n r,(low C n).round q vs G nx=some (r, .no)/\Ψ r
theorem CalP.mono {f:FuncId} {vs:List AV} {Ψ Ψ':CR->Prop} (h:CalP C f vs G nx Ψ) (hi:∀ r,Ψ r->Ψ' r):CalP C f vs G nx Ψ':=by
 obtain ⟨n,r,h1,h2⟩:=h
 exact ⟨n,r,h1,hi _ h2⟩
theorem RndP.mono {q:Nat} {vs:List AV} {Ψ Ψ':CR->Prop} (h:RndP C q vs G nx Ψ) (hi:∀ r,Ψ r->Ψ' r):RndP C q vs G nx Ψ':=by
 obtain ⟨n,r,h1,h2⟩:=h
 exact ⟨n,r,h1,hi _ h2⟩
def noPan (Ψ:AV->(Nat->Obj)->Nat->Prop):CR->Prop
 | .ret v G nx=>Ψ v G nx
 | .pan _ _ _=>False
def finP (C:Cfg) (rs:List ResultVar) (Ψ:CR->Prop):Out->Prop
 | .norm s | .ret s=>s.defers=[]/\s.pk = .no/\∃ v,resultsA C s rs=some v/\Ψ (.ret v s.G s.nx)
 | .pan v s=>s.defers=[]/\s.pk = .no/\Ψ (.pan v s.G s.nx)
 | .exit _ _=>False
theorem CalP.of {f:FuncId} {fn:Func} {b:Code} {vs:List AV} {Ψ:CR->Prop} (hf:C.fn f=some fn) (hb:fn.body=some b) (hn:Nat.ble vs.length fn.ntmps=true)
  (h:W C f fn.ntmps b (envOf 0 vs) G nx [] .no (finP C fn.results.toList Ψ)) (ha:C.at f=C:=by exact rfl):CalP C f vs G nx Ψ:=by
 obtain ⟨n,o,h1,h2⟩:=h.st _ (agree_init vs)
 have hn:=Nat.le_of_ble_eq_true hn
 have go:∀ s:St,(s.defers=[]/\s.pk = .no/\∃ v,resultsA C s fn.results.toList=some v/\Ψ (.ret v s.G s.nx))->∃ v,leaveA C (low C n) fn.results.toList s.defers none s=some (.ret v s.G s.nx, .no)/\Ψ (.ret v s.G s.nx):=by
  intro s ⟨hd,hp,v,hv,hΨ⟩
  exact ⟨v,by rw [hd];simp only [leaveA,hv,hp],hΨ⟩
 cases o with
 |norm s=>
  obtain ⟨v,h3,h4⟩:=go s h2
  exact ⟨n+1,_,by simp only [low,ha,callF,hf,hb,if_pos hn,h1,h3],h4⟩
 |ret s=>
  obtain ⟨v,h3,h4⟩:=go s h2
  exact ⟨n+1,_,by simp only [low,ha,callF,hf,hb,if_pos hn,h1,h3],h4⟩
 |exit _ _=>exact h2.elim
 |pan v s=>
  obtain ⟨hd,hp,h4⟩:=h2
  exact ⟨n+1,_,by simp only [low,ha,callF,hf,hb,if_pos hn,h1,hd,leaveA,hp],h4⟩
def RetPan (C:Cfg) (f:FuncId) (ivs:List IV) (v:IV):Prop:=∃ n G' nx' pk',(low C n).call f (ivs.map .imm) .no (fun _ => .gone) 0=some (.pan v G' nx',pk')/\v.scalar=true
theorem R.pan {o:Oper} {v:IV} {G':Nat->Obj} {nx':Nat} (hg:o.guard=none) (h:∀ t,Agree t l->∃ n,opA C (low C n) (base+i) ⟨t,G,nx,df,pk⟩ o.op=some (.pan v ⟨t,G',nx',df,pk⟩))
  (next:∀ t,Agree t l->Φ (.pan v ⟨t,G',nx',df,pk⟩)):R C nt ol base i (o::r) l G nx df pk Φ:=by
 refine .mk fun t ht=>?_
 obtain ⟨n,hn⟩:=h t ht
 refine ⟨n,_,?_,next t ht⟩
 unfold runL stepA
 simp only [wantA,hg,hn]
theorem R.callPan {o:Option Nat} {f:FuncId} {ars:List Operand} {ats:Array TypeId} {vs:List AV} {ivs:List IV} {v:IV} [hf:FnIs C f] (ha:looks l ars=some vs) (hi:imms vs=some ivs) (hr:RetPan C f ivs v)
  (next:∀ t,Agree t l->Φ (.pan v ⟨t,G,nx,df,pk⟩)):R C nt ol base i (⟨o, .call { callee := .value (.func f),args:=⟨ars⟩,argTypes:=ats },ty,pos,af,none⟩::r) l G nx df pk Φ:=by
 obtain ⟨n,G',nx',pk',h1,hs⟩:=hr
 refine R.pan rfl (fun t ht=>⟨n,?_⟩) next
 obtain rfl:=imms_eq hi
 simp only [opA,ev,aCall,fnOf,List.map_nil,List.append_nil,callA,hf.byref,Bool.false_eq_true,if_false,ht.evs ha,peeks_imm,hf.orc,h1,hs,if_true]
theorem R.callBP {f:Operand} {ars:List Operand} {ats:Array TypeId} {vs cap:List AV} {fv:AV} {k:FuncId} (hf:lookO l f=some fv) (hfn:fnOf fv=some (.func k,cap)) (hb:C.byref k=true) (ha:looks l ars=some vs) (hd:Nat.ble (d+1) nt=true)
  (hr:CalP C k (vs++cap) G nx fun
   | .ret v G' nx'=>R C nt ol base (i+1) r ((d,v)::l) G' nx' df pk Φ
   | .pan v G' nx'=>∀ t,Agree t l->Φ (.pan v ⟨t,G',nx',df,pk⟩)) :
  R C nt ol base i (⟨some d, .call { callee := .value f,args:=⟨ars⟩,argTypes:=ats },ty,pos,af,none⟩::r) l G nx df pk Φ:=by
 obtain ⟨n,cr,h1,h2⟩:=hr
 have this:∀ t,aCall C (low C n) (base+i) ⟨t,G,nx,df,pk⟩ fv vs=callA C (low C n) (base+i) ⟨t,G,nx,df,pk⟩ k (vs++cap):=by
  intro t
  unfold aCall
  split
  ·cases hfn
  ·rw [hfn]
 cases cr with
 |ret v G' nx'=>
  refine R.wr (G':=G') (nx':=nx') (fun t ht=>⟨n,?_⟩) hd h2
  simp only [opA,ht.ev hf,ht.evs ha,this,callA,hb,if_true,h1]
 |pan v G' nx'=>
  refine R.pan rfl (fun t ht=>⟨n,?_⟩) h2
  simp only [opA,ht.ev hf,ht.evs ha,this,callA,hb,if_true,h1]
theorem R.roundP {f:Operand} {ars:List Operand} {ats:Array TypeId} {vs:List AV} {q:Nat} (hf:lookO l f=some (.yld q)) (ha:looks l ars=some vs) (hd:Nat.ble (d+1) nt=true)
  (hr:RndP C q vs G nx fun
   | .ret v G' nx'=>R C nt ol base (i+1) r ((d,v)::l) G' nx' df pk Φ
   | .pan v G' nx'=>∀ t,Agree t l->Φ (.pan v ⟨t,G',nx',df,pk⟩)) :
  R C nt ol base i (⟨some d, .call { callee := .value f,args:=⟨ars⟩,argTypes:=ats },ty,pos,af,none⟩::r) l G nx df pk Φ:=by
 obtain ⟨n,cr,h1,h2⟩:=hr
 cases cr with
 |ret v G' nx'=>
  refine R.wr (G':=G') (nx':=nx') (fun t ht=>⟨n,?_⟩) hd h2
  simp only [opA,ht.ev hf,aCall,ht.evs ha,h1]
 |pan v G' nx'=>
  refine R.pan rfl (fun t ht=>⟨n,?_⟩) h2
  simp only [opA,ht.ev hf,aCall,ht.evs ha,h1]
/-! ### rounds -/
def frdP (q:Nat) (Ψ:CR->Prop):Out->Prop
 | .norm s=>∃ t n p a b f e,s.G q = .lp t n p a b f 1 e/\Ψ (.ret (.imm (.bool true)) (upd s.G q (.lp t n p a b f 0 none)) s.nx)
 | .exit id s=>∃ t n p a b f e,s.G q = .lp t n p a b f 1 e/\Ψ (.ret (.imm (.bool false)) (upd s.G q (.lp t n p a b f 2 (some (.exit id)))) s.nx)
 | .ret s=>∃ t n p a b f e,s.G q = .lp t n p a b f 1 e/\Ψ (.ret (.imm (.bool false)) (upd s.G q (.lp t n p a b f 2 (some .ret))) s.nx)
 | .pan v s=>s.defers=[]/\Ψ (.pan v s.G s.nx)
def astP (C:Cfg) (q fid nt:Nat) (body:Code) (Ψ:CR->Prop):Out->Prop
 | .norm s=>∃ t n p a b f e,s.G q = .lp t n p a b f 0 e/\Wst C fid nt body { s with G:=upd s.G q (.lp t n p a b f 1 e) } (frdP q Ψ)
 |_=>False
theorem RndP.of {q:Nat} {vs:List AV} {Ψ:CR->Prop} {t:Nat->AV} {ps:List Nat} {assign body:Code} {e:Option Code} (hfn:(C.fn fid).isSome=true) (hq:G q = .lp t nt ps assign body fid 0 e) (ht:Agree t l) (hl:ps.length=vs.length) (hps:(ps.all fun t=>decide (t < nt))=true)
  (h:W C fid nt assign (bindE l (ps.zip vs)) G nx [] .rnd (astP C q fid nt body Ψ)) (hg:C.ground=C:=by exact rfl):RndP C q vs G nx Ψ:=by
 obtain ⟨n,o,h1,h2⟩:=h.st _ (agree_bind (ps.zip vs) ht)
 cases o with
 |norm s=>
  obtain ⟨t2,n2,p2,a2,b2,f2,e2,h3,m,o,h4,h5⟩:=h2
  have e1:=code_mono (low_mono (Nat.le_max_left n m)) (Nat.le_max_left n m) _ _ _ h1
  have e4:=code_mono (low_mono (Nat.le_max_right n m)) (Nat.le_max_right n m) _ _ _ h4
  cases o with
  |norm s1=>
   obtain ⟨t3,n3,p3,a3,b3,f3,e3,h6,h7⟩:=h5
   exact ⟨max n m+1,_,by simp only [low,hg,roundF,hq,hl,hps,true_and,if_true,e1,h3,e4,h6],h7⟩
  |exit id s1=>
   obtain ⟨t3,n3,p3,a3,b3,f3,e3,h6,h7⟩:=h5
   exact ⟨max n m+1,_,by simp only [low,hg,roundF,hq,hl,hps,true_and,if_true,e1,h3,e4,h6],h7⟩
  |ret s1=>
   obtain ⟨t3,n3,p3,a3,b3,f3,e3,h6,h7⟩:=h5
   exact ⟨max n m+1,_,by simp only [low,hg,roundF,hq,hl,hps,true_and,if_true,e1,h3,e4,h6],h7⟩
  |pan v s1=>
   obtain ⟨h6,h7⟩:=h5
   exact ⟨max n m+1,_,by simp only [low,hg,roundF,hq,hl,hps,true_and,if_true,e1,h3,e4,h6,hfn,List.isEmpty_nil,Bool.and_self],h7⟩
 |_=>exact h2.elim
theorem W.skipFrdP {q:Nat} {Ψ:CR->Prop} {t:Nat->AV} {n:Nat} {p:List Nat} {a b:Code} {f:FuncId} {e:Option Code} (hG:G q = .lp t n p a b f 1 e) (h:Ψ (.ret (.imm (.bool true)) (upd G q (.lp t n p a b f 0 none)) nx)) :
  W C fid nt .skip l G nx df pk (frdP q Ψ) := .skip fun _ _=>⟨t,n,p,a,b,f,e,hG,h⟩
theorem W.retFrdP {q:Nat} {Ψ:CR->Prop} {t:Nat->AV} {n:Nat} {p:List Nat} {a b:Code} {f:FuncId} {e:Option Code} (hG:G q = .lp t n p a b f 1 e) (h:Ψ (.ret (.imm (.bool false)) (upd G q (.lp t n p a b f 2 (some .ret))) nx)) :
  W C fid nt .ret l G nx df pk (frdP q Ψ) := .ret fun _ _=>⟨t,n,p,a,b,f,e,hG,h⟩
def rngP (q:Nat) (t:Nat->AV) (df:List (AV×List AV)) (pk:Pk) (Φ:Out->Prop):CR->Prop
 | .ret v G1 nx1=>rng q t df pk Φ v G1 nx1
 | .pan v G1 nx1=>Φ (.pan v ⟨t,G1,nx1,df,pk⟩)
theorem W.rangeP {f:Operand} {ps:Array Nat} {assign body:Code} {fv:AV} {k:FuncId} {cap:List AV} (hf:lookO l f=some fv) (hfn:fnOf fv=some (.func k,cap)) (hb:C.byref k=true) (hpk:pk.isRnd=false)
  (h:∀ t,Agree t l->CalP C k (.yld nx::cap) (upd G nx (.lp t nt ps.toList assign body fid 0 none)) (nx+2) (rngP nx t df pk Φ)):W C fid nt (.rangeFunc f ps assign body) l G nx df pk Φ:=by
 refine .mk fun t ht=>?_
 obtain ⟨n,cr,h1,h2⟩:=h t ht
 have hk:∀ lf,code C (low C n) lf fid nt (.rangeFunc f ps assign body) ⟨t,G,nx,df,pk⟩=rangeA C (low C n) fid nt (Go.Abs.ev t f) ps.toList assign body ⟨t,G,nx,df,pk⟩:=by
  intro lf
  unfold code
  cases pk<;>first|rfl|(simp [Pk.isRnd] at hpk)
 cases cr with
 |ret v G1 nx1=>
  obtain ⟨t2,n2,p2,a2,b2,f2,st,pend,h2,h3,h4⟩:=h2
  have e:rangeA C (low C n) fid nt (Go.Abs.ev t f) ps.toList assign body ⟨t,G,nx,df,pk⟩=pendOut ⟨t,upd G1 nx .gone,nx1,df,pk⟩ pend:=by
   unfold rangeA
   simp only [ht.ev hf,hfn,callA,hb,if_true,h1,h2,if_neg h3]
   clear h2 h4
   rcases pend with _|c
   ·rfl
   ·cases c<;>rfl
  clear h2
  rcases pend with _|c
  ·exact ⟨n,_,by rw [hk,e];rfl,h4⟩
  ·cases c with
   |exit id=>exact ⟨n,_,by rw [hk,e];rfl,h4⟩
   |ret=>exact ⟨n,_,by rw [hk,e];rfl,h4⟩
   |_=>exact h4.elim
 |pan v G1 nx1=>
  refine ⟨n, .pan v ⟨t,G1,nx1,df,pk⟩,?_,h2⟩
  rw [hk]
  unfold rangeA
  simp only [ht.ev hf,hfn,callA,hb,if_true,h1]
end Go.Abs
