/- The abstract interpreter: code. -/
import Derived.Test.YtbdoijpclmhbaaaGreatSo4
import Derived.RangeFuncRecord
import Derived.Ground.NamesProg
import Derived.Ground.Names2Prog
import Derived.Shelf.Slices.Clone
import Derived.Shelf.Sort.Plain
import Derived.Shelf.Slices.In.SortNone
import Derived.Test.YtbdoijpclmhbaaaGreatProg
import Derived.Lib.SmallJoins
import Derived.WalkKit
import Derived.Maps.RangeRun
import Derived.Sort.OwnSortedInts
import Derived.Test.YtbdoijpclmhbaaaGreatRows
import Derived.ProofKit
import Derived.OpenShut
import Derived.JoinedCond
import Derived.Carry
import Derived.ChangeArms
namespace Go.Abs
variable {M M' M'':Mem} {ρ ρ' ρ'':Ref} {G G' G'':Nat->Obj} {w w' w'':World} {nx nx':Nat} {Q Q' Q'' Q0:Nat->Prop} {P:Program} {C:Cfg} {L:Low}
variable {nt fid lf:Nat} {b:Frame} {cs:List Frame} {k:List Item} {ops:Array Oper} {i:Nat} {rest:List Nat} {o:Oper} {id:Nat} {s s':St} {a:Act}
def CodeEnd (P:Program) (nt:Nat) (b:Frame) (cs:List Frame) (k:List Item) (Q0 N Q:Nat->Prop) (w:World) (M:Mem) (ρ:Ref) (G0:Nat->Obj) (nx0:Nat) (m:Machine):Out->Prop
 | .norm s'=>∃ a' Q' w' M' ρ',Goes nt b cs Q0 N Q w M ρ G0 nx0 s' a' Q' w' M' ρ'/\Steps P m (lone (b.atR a' k) (csM s'.pk cs) w')
 | .exit id s'=>∃ a' Q' w' M' ρ' todo,Goes nt b cs Q0 N Q w M ρ G0 nx0 s' a' Q' w' M' ρ'/\exitTo id todo=exitTo id k/\Steps P m (lone (b.atR a' (.code (.exit id)::todo)) (csM s'.pk cs) w')
 | .ret s'=>∃ a' Q' w' M' ρ' todo,Goes nt b cs Q0 N Q w M ρ G0 nx0 s' a' Q' w' M' ρ'/\Steps P m (lone (b.atR a' (.code .ret::todo)) (csM s'.pk cs) w')
 | .pan v s'=>∃ a' Q' w' M' ρ' todo x,Goes nt b cs Q0 N Q w M ρ G0 nx0 s' a' Q' w' M' ρ'/\VI M' v x/\Steps P m (lone { b.atR a' todo with mode := .panicking [{ v:=x,recovered:=false }] } (csM s'.pk cs) w')
theorem CodeEnd.after {N N1 N2:Nat->Prop} {G1:Nat->Obj} {n0 n1:Nat} {m m1:Machine} {out:Out} (t:Tr N1 Q w M ρ G Q' w' M' ρ' G1) (hn:n0<=n1) (hs:Steps P m m1) (h:CodeEnd P nt b cs k Q0 N2 Q' w' M' ρ' G1 n1 m1 out) (h1:∀ o,N1 o->N o) (h2:∀ o,N2 o->N o) :
  CodeEnd P nt b cs k Q0 N Q w M ρ G n0 m out:=by
 cases out with
 |norm s'=>obtain ⟨a',Q',w',M',ρ',g,st⟩:=h;exact ⟨a',Q',w',M',ρ',g.after t hn h1 h2,hs.trans st⟩
 |pan v s'=>obtain ⟨a',Q',w',M',ρ',todo,x,g,hx,st⟩:=h;exact ⟨a',Q',w',M',ρ',todo,x,g.after t hn h1 h2,hx,hs.trans st⟩
 |exit id s'=>obtain ⟨a',Q',w',M',ρ',todo,g,hx,st⟩:=h;exact ⟨a',Q',w',M',ρ',todo,g.after t hn h1 h2,hx,hs.trans st⟩
 |ret s'=>obtain ⟨a',Q',w',M',ρ',todo,g,st⟩:=h;exact ⟨a',Q',w',M',ρ',todo,g.after t hn h1 h2,hs.trans st⟩
theorem CodeEnd.head {N:Nat->Prop} {n0:Nat} {m m1:Machine} {out:Out} (hs:step P m = .next m1) (h:CodeEnd P nt b cs k Q0 N Q w M ρ G n0 m1 out):CodeEnd P nt b cs k Q0 N Q w M ρ G n0 m out:=
 h.after (Tr.refl N _ _ _ _ _) (Nat.le_refl _) (.one hs) (fun _ h=>h) (fun _ h=>h)
theorem CodeEnd.of_line {N:Nat->Prop} {n0:Nat} {m:Machine} {out:Out} (h:LineEnd P nt b cs k Q0 N Q w M ρ G n0 m out):CodeEnd P nt b cs k Q0 N Q w M ρ G n0 m out:=by
 cases out with
 |norm s'=>exact h
 |pan v s'=>exact h
 |exit=>exact h.elim
 |ret=>exact h.elim
theorem CodeEnd.thru {N:Nat->Prop} {n0:Nat} {m:Machine} {out:Out} {k':List Item} (h:CodeEnd P nt b cs k' Q0 N Q w M ρ G n0 m out) (hn:∀ s,out ≠ .norm s) (hk:∀ id,(∃ s,out = .exit id s)->exitTo id k'=exitTo id k) :
  CodeEnd P nt b cs k Q0 N Q w M ρ G n0 m out:=by
 cases out with
 |norm s'=>exact absurd rfl (hn s')
 |pan v s'=>exact h
 |exit id s'=>obtain ⟨a',Q',w',M',ρ',todo,g,hx,st⟩:=h;exact ⟨a',Q',w',M',ρ',todo,g,hx.trans (hk id ⟨_,rfl⟩),st⟩
 |ret s'=>exact h
theorem region_ok (hC:CfgOK C) (hL:CallOK C.P L) (hR:RoundOK C.P L) {draw:Bool} {out:Out} (h:regionA C L nt ops draw s=some out) (hS:SR nt Q0 Q w M ρ s a) (hpk:PkOK M b cs s.pk) :
  LineEnd C.P nt b cs k Q0 (s.nx <= ·) Q w M ρ s.G s.nx (lone (b.atR a (.code (.region id ops draw)::k)) (csM s.pk cs) w) out:=by
 cases draw with
 |true=>exact drawn_ok hC hL hR h hS hpk
 |false=>
  unfold regionA at h
  simp only [Bool.false_eq_true,if_false] at h
  have hS':SR nt Q0 Q w M ρ { s with nx:=s.nx+ops.size } a:=⟨hS.inv.later (by simp),hS.tmps,hS.size,hS.sub,hS.dfr⟩
  have:=runA_ok hC hL hR (k:=k) (cs:=cs) (b:=b) _ h List.nodup_range (fun i hi=>⟨by simpa using hi,hS.inv.free _ (by omega)⟩) (Nat.le_refl _) hS' hpk
  exact LineEnd.after (Tr.refl (fun o=>s.nx<=o) _ _ _ _ _) (by simp) (.one stepR_region) this (fun _ h=>h) (fun _ h=>h)
theorem upd_self {ρ:Ref} {q:Nat} {v:Value} (h:ρ q=some v):upd ρ q (some v)=ρ:=by
 funext o;by_cases e:o=q<;>simp [upd,e,h]
theorem Inv.drop (h:Inv Q w M ρ G nx) {q l:Nat} {v:Value} (hl:(G q).live=true) (hf:(G q).frozen=false) (hq:ρ q=some v) (hb:blk v=some l) (hw:∀ b,b≠l->w'.heap[b]? = w.heap[b]?) (hsz:w.heap.size<=w'.heap.size) :
  Inv Q w' M ρ (upd G q .gone) nx/\Ev M ρ G M ρ (upd G q .gone):=by
 have hlt:q < nx:=by
  rcases Nat.lt_or_ge q nx with h1|h1
  ·exact h1
  ·rw [h.free q h1] at hq;cases hq
 have hv:Ev M ρ G M (upd ρ q (some v)) (upd G q .gone):=Ev.same hq (fun _ _ _ _ e=>by cases e)
 have:=h.put (x := .gone) (r:=v) (w':=w') hlt hv (fun b=>by
  by_cases e:b=l
  ·exact .inr (.inr ⟨hl,hf,v,hq,by rw [e];exact hb⟩)
  ·exact .inl (hw b e)) hsz (by unfold ObjOK;simp [upd]) (fun b hb => .inr ⟨hl,hf,v,hq,hb⟩)
 rw [upd_self hq] at this hv
 exact ⟨this,hv⟩
theorem WS.two (h:∀ b,w.heap.size<=b->Q b) (x y:Go.Obj):WS Q w ((w.alloc x).alloc y):=
 (WS.alloc h x).trans (WS.alloc (fun b hb=>h b (by simp at hb;omega)) y)
theorem DR.lt {ds:List (AV×List AV)} {dcs:List Deferred} (h:DR Q0 Q w M ρ G ds dcs):∀ x∈dcs,∀ r,x.target = .collected r->r < w.heap.size:=by
 induction h with
 |nil=>intro x hx;cases hx
 |cons f cap ht hg ha h ih=>
  intro x hx r e
  rcases List.mem_cons.1 hx with rfl|hx
  ·rw [ht] at e;cases e
  ·exact ih x hx r e
 |mark r' ht q0 q hm hr hn h ih=>
  intro x hx r e
  rcases List.mem_cons.1 hx with rfl|hx
  ·rw [ht] at e;cases e;exact (Array.getElem?_eq_some_iff.1 hr).1
  ·exact ih x hx r e
theorem rangeA_ok (hC:CfgOK C) (hL:CallOK C.P L) {f:Operand} {params:Array Tmp} {assign body:Code} {out:Out} (h:rangeA C L fid nt (ev s.tmps f) params.toList assign body s=some out) (hS:SR nt Q0 Q w M ρ s a)
  (hpk:PkOK M b cs s.pk) (hnr:s.pk ≠ .rnd) (hb:b.fn=fid):CodeEnd C.P nt b cs k Q0 (s.nx <= ·) Q w M ρ s.G s.nx (lone (b.atR a (.code (.rangeFunc f params assign body)::k)) (csM s.pk cs) w) out:=by
 have hro:b.roundOf=none:=by
  cases e:s.pk with
  |no=>rw [e] at hpk;exact hpk.2
  |rnd=>exact absurd e hnr
  |dfr m r=>rw [e] at hpk;cases m with
   |none=>exact hpk.2.1
   |some v=>exact hpk.2.1
 unfold rangeA at h
 split at h
 ·rename_i kf cap hfn
  obtain ⟨cv,hcv,hcap⟩:=fnOf_ok hfn (hS.tmps.ev f)
  have he:=run_enterLoop_outer (P:=C.P) (w:=w) b.fn a.tmps params assign body
  generalize hRec:({ state := .ready,pending:=none,fn:=b.fn,tmps:=a.tmps,params:=params,assign:=assign,body:=body,defers:=w.heap.size }:Loop)=R at he
  generalize hw1:(w.alloc (.deferred (some []))).alloc (.loop R)=w1 at he
  have hsz1:w1.heap.size=w.heap.size+2:=by rw [<-hw1];simp
  have hold:∀ b,b < w.heap.size->w1.heap[b]? = w.heap[b]? := fun b hb=>by
   rw [<-hw1,Go.RowKit.Below.heap_alloc _ _ b (by simp;omega),Go.RowKit.Below.heap_alloc _ _ b hb]
  have hD:w1.heap[w.heap.size]? = some (.deferred (some [])):=by
   rw [<-hw1,Go.RowKit.Below.heap_alloc _ _ _ (by simp)];exact heap_alloc_new w _
  have hLp:w1.heap[w.heap.size+1]? = some (.loop R):=by
   rw [<-hw1];have:=heap_alloc_new (w.alloc (.deferred (some []))) (.loop R);simpa using this
  -- the object
  have hfree:ρ s.nx=none:=hS.inv.free _ (Nat.le_refl _)
  let lp:Obj := .lp s.tmps nt params.toList assign body fid 0 none
  let yv:Value := .func (.yield (w.heap.size+1)) #[] #[]
  have hev:Ev M ρ s.G M (upd ρ s.nx (some yv)) (upd s.G s.nx lp):=Ev.new hfree
  have hInv1:Inv Q w1 M (upd ρ s.nx (some yv)) (upd s.G s.nx lp) (s.nx+2):=by
   refine (hS.inv.later (nx':=s.nx+2) (by omega)).put (by omega) hev (fun b=>?_) (by omega) ?_ (fun b hb => .inl ?_)
   ·rcases Nat.lt_or_ge b w.heap.size with h1|h1
    ·exact .inl (hold b h1)
    ·exact .inr (.inl h1)
   ·unfold ObjOK
    simp only [upd,if_true,lp]
    refine ⟨w.heap.size+1,R,rfl,hLp,?_⟩
    subst hRec
    exact ⟨fun t=>(hS.tmps t).mono hev,hS.size,rfl,rfl,rfl,hb, .inl ⟨rfl,rfl⟩,rfl⟩
   ·simp only [yv,blk,Option.some.injEq] at hb;omega
  let Q1:Nat->Prop:=fun x=>Q x/\x≠w.heap.size
  have hlive:∀ o v b,(upd s.G s.nx lp o).live=true->upd ρ s.nx (some yv) o=some v->blk v=some b->b≠w.heap.size:=by
   intro o v b hl hv hb
   by_cases ho:o=s.nx
   ·subst ho
    simp only [upd,if_true,Option.some.injEq] at hv
    subst hv
    simp only [yv,blk,Option.some.injEq] at hb
    omega
   ·simp only [upd,if_neg ho] at hl hv
    have:=hS.inv.lt hl hv hb
    omega
  have hInv2:Inv Q1 w1 M (upd ρ s.nx (some yv)) (upd s.G s.nx lp) (s.nx+2):=
   { hInv1 with own:=fun o v b h1 h2 h3 h4=>⟨(hInv1.own o v b h1 h2 h3 h4).1,(hInv1.own o v b h1 h2 h3 h4).2,hlive o v b h1 h3 h4⟩,new:=fun b hb=>⟨hInv1.new b hb,by omega⟩ }
  have hws:WS Q w w1:=by rw [<-hw1];exact WS.two hS.inv.new _ _
  have t1:Tr (s.nx <= ·) Q w M ρ s.G Q1 w1 M (upd ρ s.nx (some yv)) (upd s.G s.nx lp):=
   ⟨fun _ h=>h.1,hev,hws,MQ.refl _ _,fun o ho e=>by simp only [upd];rw [if_neg (by omega)];exact e⟩
  have hMnew:M w.heap.size=none:=by
   cases e:M w.heap.size with
   |none=>rfl
   |some x=>have:=(Array.getElem?_eq_some_iff.1 (hS.inv.mem _ _ e)).1;omega
  have hdr:DR Q0 Q1 w1 M (upd ρ s.nx (some yv)) (upd s.G s.nx lp) s.defers ([{ target := .collected w.heap.size,args := #[] }]++a.defers):=by
   refine .mark w.heap.size rfl (hS.sub _ (hS.inv.new _ (Nat.le_refl _))) (fun e=>e.2 rfl) hMnew hD ?_ (hS.dfr.mono t1)
   exact fun x hx e=>by have:=hS.dfr.lt x hx _ e;omega
  let s1:St:={ s with nx:=s.nx+2,G:=upd s.G s.nx lp }
  let a1:Act:={ a with defers:=[{ target := .collected w.heap.size,args := #[] }]++a.defers }
  have hS1:SR nt Q0 Q1 w1 M (upd ρ s.nx (some yv)) s1 a1:=⟨hInv2,hS.tmps.mono hev,hS.size,fun b hb=>hS.sub b hb.1,hdr⟩
  have hyq:upd ρ s.nx (some yv) s.nx=some yv:=by simp [upd]
  have hargs:VL (VA M (upd ρ s.nx (some yv)) s1.G) (.yld s.nx::cap) (#[yv]++cv):=
   VL_append (l:=[.yld s.nx]) ⟨rfl,fun i x hx=>by
    match i,hx with
    |0,hx=>simp at hx;subst hx;exact .yld _ _ hyq
    |i+1,hx=>simp at hx⟩ (hcap.imp fun _ _=>VA.mono hev)
  have hN:∀ o,(o=s.nx+1\/s.nx+2<=o)->s.nx<=o:=fun o e=>by omega
  have hstep:∀ h1:PInv C.P kf,step C.P (lone (b.atR a (.code (.rangeFunc f params assign body)::k)) (csM s.pk cs) w) =
    .next (lone (Frame.enter C.P kf (#[yv]++cv) .normal) (b.atR a1 (.inRangeFunc (w.heap.size+1)::k)::csM s.pk cs) w1):=fun h1=>by
   rw [<-hro] at he
   refine stepR_rangeFunc he (d:={ target := .fn (.func kf) cv,args := #[yv] }) (w₁':=w1) ?_ ?_
   ·simp [resolve,eval_evV,hcv,Deferred.ofValue];simp [evV,yv]
   ·simp [invoke,run_callFunc hC h1]
  split at h
  ·rename_i v s2 hcall
   obtain ⟨h1,e2,hn2,Q2,w2,M2,ρ2,cv2,t2,hi2,st2,hv2⟩:=callA_ok hC hL hcall (vs := #[yv]++cv) (c:=b.atR a1 (.inRangeFunc (w.heap.size+1)::k)) (cs:=csM s.pk cs) hS1.inv
    (by simp only [upd];rw [if_neg (by omega)];exact hS.inv.free _ (by omega)) (by simp) hargs
   have hS2:=hS1.turn t2 hi2
   rw [<-e2] at hS2
   rw [finish_atR_inRangeFunc] at st2
   have hq2:ρ2 s.nx=some yv:=by
    rcases t2.ev.ref _ _ hyq with h3|⟨⟨_,_,_,h3⟩,_⟩
    ·exact h3
    ·simp [yv] at h3
   split at h
   ·rename_i tm nt' pr as' bd' fn' st pending hG
    split at h
    ·cases h
    ·rename_i hst1
     have hobj:=hi2.obj s.nx
     unfold ObjOK at hobj
     rw [hG] at hobj
     obtain ⟨l',r',hq3,hheap,hLI⟩:=hobj
     rw [hq2] at hq3
     have hl':l'=w.heap.size+1:=by simp only [yv,Option.some.injEq,Value.func.injEq,Fn.yield.injEq] at hq3;exact hq3.1.symm
     subst hl'
     have hbusy:r'.state ≠ .busy:=by
      rcases hLI.state with ⟨_,h3⟩|⟨h3,_⟩|⟨_,h3⟩
      ·rw [h3];simp
      ·exact absurd h3 hst1
      ·rw [h3];simp
     have hend:=run_endLoop (P:=C.P) hheap hbusy
     have hlt2:w.heap.size+1 < w2.heap.size:=(Array.getElem?_eq_some_iff.1 hheap).1
     obtain ⟨hi3,hev3⟩:=hi2.drop (q:=s.nx) (l:=w.heap.size+1) (v:=yv) (w':=w2.putObj (w.heap.size+1) (.loop { r' with state := .exhausted })) (by rw [hG];rfl) (by rw [hG];rfl) hq2 rfl
      (fun b hb=>World.putObj_heap_other hb) (by simp [World.putObj])
     have hQ2:Q2 (w.heap.size+1):=(hi2.own s.nx yv _ (by rw [hG];rfl) (by rw [hG];rfl) hq2 rfl).2
     have t3:Tr (s.nx <= ·) Q2 w2 M2 ρ2 s2.G Q2 (w2.putObj (w.heap.size+1) (.loop { r' with state := .exhausted })) M2 ρ2 (upd s2.G s.nx .gone):=
      ⟨fun _ h=>h,hev3,⟨rfl,rfl,rfl,by simp [World.putObj],fun b hb=>World.putObj_heap_other (fun e=>hb (e▸hQ2))⟩,MQ.refl _ _,fun _ _ h=>h⟩
     have hS3:=hS2.turn t3 hi3
     have epk:s2.pk=s.pk:=by rw [e2]
     have g:Goes nt b cs Q0 (s.nx <= ·) Q w M ρ s.G s.nx { s2 with G:=upd s2.G s.nx .gone } a1 Q2 (w2.putObj (w.heap.size+1) (.loop { r' with state := .exhausted })) M2 ρ2:=
      ⟨(t1.trans t2 (N:=fun o=>s.nx<=o) (fun _ h=>h) hN).trans t3 (fun _ h=>h) (fun _ h=>h),by have:s.nx+2<=s2.nx:=hn2;show s.nx<=s2.nx;omega,hS3,
       by show PkOK M2 b cs s2.pk;rw [epk];exact hpk.mono (Mem.le_trans t1.ev.mem t2.ev.mem)⟩
     have st3:=stepR_endRangeFunc (P:=C.P) (b:=b) (a:=a1) (k:=k) (cs:=csM s.pk cs) hend
     generalize w2.putObj (w.heap.size+1) (.loop { r' with state := .exhausted })=w3 at g st3
     have stAll:=(Steps.one (hstep h1)).trans (st2.trans (.one st3))
     rw [hLI.pending] at stAll
     split at h
     ·cases h
      exact ⟨a1,Q2,_,M2,ρ2,g,by show Steps _ _ (lone _ (csM s2.pk cs) _);rw [epk];exact stAll⟩
     ·rename_i id'
      cases h
      exact ⟨a1,Q2,_,M2,ρ2,k,g,rfl,by show Steps _ _ (lone _ (csM s2.pk cs) _);rw [epk];exact stAll⟩
     ·cases h
      exact ⟨a1,Q2,_,M2,ρ2,k,g,by show Steps _ _ (lone _ (csM s2.pk cs) _);rw [epk];exact stAll⟩
     ·cases h
   ·cases h
  ·rename_i v s2 hcall
   cases h
   obtain ⟨h1,e2,hn2,Q2,w2,M2,ρ2,x,t2,hi2,st2,hx⟩:=callA_ok hC hL hcall (vs := #[yv]++cv) (c:=b.atR a1 (.inRangeFunc (w.heap.size+1)::k)) (cs:=csM s.pk cs) hS1.inv
    (by simp only [upd];rw [if_neg (by omega)];exact hS.inv.free _ (by omega)) (by simp) hargs
   have hS2:=hS1.turn t2 hi2
   rw [<-e2] at hS2
   have epk:s2.pk=s.pk:=by rw [e2]
   refine ⟨a1,Q2,w2,M2,ρ2, .inRangeFunc (w.heap.size+1)::k,x,⟨t1.trans t2 (fun _ h=>h) hN,by have:s.nx+2<=s2.nx:=hn2;omega,hS2,?_⟩,hx,?_⟩
   ·rw [epk];exact hpk.mono (Mem.le_trans t1.ev.mem t2.ev.mem)
   ·rw [epk];exact (Steps.one (hstep h1)).trans st2
  ·cases h
 ·cases h
theorem stepR_scope {c:Code}:step P (lone (b.atR a (.code (.scope c)::k)) cs w) = .next (lone (b.atR a (.code c :: .inScope c::k)) cs w):=
 step_lone_go (by simp [stepG,stepG.exec,Frame.atR])
theorem stepR_inScope {c:Code}:step P (lone (b.atR a (.inScope c::k)) cs w) = .next (lone (b.atR a k) cs w):=
 step_lone_go (by simp [stepG,stepG.exec,Frame.atR])
def CodeOK (P:Program) (nt:Nat) (b:Frame) (cs:List Frame) (Q0:Nat->Prop) (c:Code) (s:St) (out:Out):Prop:=
 ∀ (Q:Nat->Prop) (w:World) (M:Mem) (ρ:Ref) (a:Act) (k:List Item),SR nt Q0 Q w M ρ s a->PkOK M b cs s.pk ->
  CodeEnd P nt b cs k Q0 (s.nx <= ·) Q w M ρ s.G s.nx (lone (b.atR a (.code c::k)) (csM s.pk cs) w) out
theorem loop_ok {c:Code} {f:St->Option Out} (hc:∀ s out,f s=some out->CodeOK P nt b cs Q0 c s out):∀ (n:Nat) (s:St) (out:Out),iter f n s=some out->CodeOK P nt b cs Q0 (.loop c) s out /\
  ∀ (Q:Nat->Prop) (w:World) (M:Mem) (ρ:Ref) (a:Act) (k:List Item),SR nt Q0 Q w M ρ s a->PkOK M b cs s.pk->CodeEnd P nt b cs k Q0 (s.nx <= ·) Q w M ρ s.G s.nx (lone (b.atR a (.code c :: .inLoop c::k)) (csM s.pk cs) w) out
 |0,s,out,h=>by cases h
 |n+1,s,out,h=>by
  have key:∀ (Q:Nat->Prop) (w:World) (M:Mem) (ρ:Ref) (a:Act) (k:List Item),SR nt Q0 Q w M ρ s a->PkOK M b cs s.pk->CodeEnd P nt b cs k Q0 (s.nx <= ·) Q w M ρ s.G s.nx (lone (b.atR a (.code c :: .inLoop c::k)) (csM s.pk cs) w) out:=by
   intro Q w M ρ a k hS hpk
   simp only [iter] at h
   split at h
   ·rename_i s1 h1
    obtain ⟨a1,Q1,w1,M1,ρ1,g,st⟩:=hc _ _ h1 Q w M ρ a (.inLoop c::k) hS hpk
    have:=(loop_ok hc n s1 out h).2 Q1 w1 M1 ρ1 a1 k g.sr g.pk
    exact CodeEnd.after g.tr g.nx (st.trans (.one stepR_inLoop)) this (fun _ h=>h) (fun o h=>Nat.le_trans g.nx h)
   ·rename_i x hx
    have h1:=hc _ _ h Q w M ρ a (.inLoop c::k) hS hpk
    exact h1.thru (fun s' e=>hx s' (by rw [h,e])) (fun id _=>rfl)
  exact ⟨fun Q w M ρ a k hS hpk => .head stepR_loop (key Q w M ρ a k hS hpk),key⟩
theorem code_ok (hC:CfgOK C) (hL:CallOK C.P L) (hR:RoundOK C.P L) (hb:b.fn=fid):∀ (c:Code) (s:St) (out:Out),code C L lf fid nt c s=some out->CodeOK C.P nt b cs Q0 c s out:=by
 intro c
 induction c with
 |skip=>
  intro s out h Q w M ρ a k hS hpk
  cases h
  exact ⟨a,Q,w,M,ρ,⟨Tr.refl _ _ _ _ _ _,Nat.le_refl _,hS,hpk⟩, .one stepR_skip⟩
 |region id ops draw=>
  intro s out h Q w M ρ a k hS hpk
  exact .of_line (region_ok hC hL hR h hS hpk)
 |seq x y ihx ihy=>
  intro s out h Q w M ρ a k hS hpk
  simp only [code] at h
  refine .head stepR_seq ?_
  split at h
  ·rename_i s1 h1
   obtain ⟨a1,Q1,w1,M1,ρ1,g,st⟩:=ihx _ _ h1 Q w M ρ a (.code y::k) hS hpk
   exact CodeEnd.after g.tr g.nx st (ihy _ _ h Q1 w1 M1 ρ1 a1 k g.sr g.pk) (fun _ h=>h) (fun o h=>Nat.le_trans g.nx h)
  ·rename_i z hz
   exact (ihx _ _ h Q w M ρ a (.code y::k) hS hpk).thru (fun s' e=>hz s' (by rw [h,e])) (fun id _=>rfl)
 |cond c x y ihx ihy=>
  intro s out h Q w M ρ a k hS hpk
  simp only [code] at h
  split at h
  ·rename_i t ht
   have hv:=hS.tmps.ev c
   rw [ht] at hv
   refine .head (stepR_cond (t:=t) (by rw [eval_evV];exact hv.bool_inv)) ?_
   cases t
   ·exact ihy _ _ h Q w M ρ a k hS hpk
   ·exact ihx _ _ h Q w M ρ a k hS hpk
  ·cases h
 |block id x ih=>
  intro s out h Q w M ρ a k hS hpk
  simp only [code] at h
  refine .head stepR_block ?_
  split at h
  ·rename_i id' s1 h1
   obtain ⟨a1,Q1,w1,M1,ρ1,todo,g,he,st⟩:=ih _ _ h1 Q w M ρ a (.inBlock id::k) hS hpk
   split at h
   ·rename_i hid
    cases h
    subst hid
    exact ⟨a1,Q1,w1,M1,ρ1,g,st.trans (.one (stepR_exit (by rw [he];simp [exitTo])))⟩
   ·rename_i hid
    cases h
    exact ⟨a1,Q1,w1,M1,ρ1,todo,g,by rw [he];simp [exitTo,Ne.symm hid],st⟩
  ·rename_i z hz
   cases out with
   |norm s'=>
    obtain ⟨a1,Q1,w1,M1,ρ1,g,st⟩:=ih _ _ h Q w M ρ a (.inBlock id::k) hS hpk
    exact ⟨a1,Q1,w1,M1,ρ1,g,st.trans (.one stepR_inBlock)⟩
   |exit id' s'=>exact absurd h (hz id' s')
   |_=>exact (ih _ _ h Q w M ρ a (.inBlock id::k) hS hpk).thru (fun s' e=>by cases e) (fun id e=>by obtain ⟨_,e⟩:=e;cases e)
 |loop x ih=>
  intro s out h
  exact (loop_ok ih lf s out h).1
 |label l=>
  intro s out h Q w M ρ a k hS hpk
  cases h
  exact ⟨a,Q,w,M,ρ,⟨Tr.refl _ _ _ _ _ _,Nat.le_refl _,hS,hpk⟩, .one stepR_label⟩
 |scope x ih=>
  intro s out h Q w M ρ a k hS hpk
  simp only [code] at h
  refine .head (stepR_scope) ?_
  have hB:=ih _ _ h Q w M ρ a (.inScope x::k) hS hpk
  cases out with
  |norm s'=>
   obtain ⟨a1,Q1,w1,M1,ρ1,g,st⟩:=hB
   exact ⟨a1,Q1,w1,M1,ρ1,g,st.trans (.one stepR_inScope)⟩
  |_=>exact hB.thru (fun s' e=>by cases e) (fun id _=>by simp [exitTo])
 |exit id=>
  intro s out h Q w M ρ a k hS hpk
  cases h
  exact ⟨a,Q,w,M,ρ,k,⟨Tr.refl _ _ _ _ _ _,Nat.le_refl _,hS,hpk⟩,rfl,Steps.refl _ _⟩
 |ret=>
  intro s out h Q w M ρ a k hS hpk
  cases h
  exact ⟨a,Q,w,M,ρ,k,⟨Tr.refl _ _ _ _ _ _,Nat.le_refl _,hS,hpk⟩,Steps.refl _ _⟩
 |rangeFunc f params assign body=>
  intro s out h Q w M ρ a k hS hpk
  simp only [code] at h
  split at h
  ·cases h
  ·rename_i hnr
   exact rangeA_ok hC hL h hS hpk hnr hb
 |_=>intro s out h;cases h
/-! ### leaving -/
theorem load_as {t:TypeId} {c u:Value} (h:(Instr.loadAt t c).run P w = .ok u w):(do loadVar t (<-asAddr c):Sem Value).run P w = .ok u w:=by
 unfold Instr.loadAt at h
 cases c with
 |pointer p=>
  cases p with
  |some a=>simpa [Instr.sureAddr,asAddr] using h
  |none=>simp [Instr.sureAddr,stuck] at h
 |_=>simp [Instr.sureAddr,stuck] at h
theorem resultsL_ok {arr:Array Value} {f:ResultVar->Sem Value} (f1:∀ t,f (.tmp t)=pure (arr.getD t undef)) (f2:∀ a t,f (.cell a t)=(do loadVar t (<-asAddr (arr.getD a undef)))):∀ (rs:List ResultVar) (l:List AV),resultsL C s rs=some l->Inv Q w M ρ s.G s.nx->TR M ρ s.G s.tmps arr ->
  ∃ vs:List Value,(rs.mapM f).run C.P w = .ok vs w/\VL (VA M ρ s.G) l vs.toArray
 |[],l,h,hI,hT=>by cases h;exact ⟨[],by simp,rfl,by simp⟩
 |r::rs,l,h,hI,hT=>by
  simp only [resultsL] at h
  split at h
  ·rename_i v l' h1 h2
   cases h
   obtain ⟨vs,h3,h4⟩:=resultsL_ok f1 f2 rs l' h2 hI hT
   have:∃ c,(f r).run C.P w = .ok c w/\VA M ρ s.G v c:=by
    cases r with
    |tmp t=>simp only [resultA,Option.some.injEq] at h1;subst h1;rw [f1];exact ⟨_,rfl,hT t⟩
    |cell a t=>
     simp only [resultA] at h1
     split at h1
     ·rename_i v' ups hld
      cases h1
      obtain ⟨_,u,h5,h6⟩:=aLoad_ok (w:=w) hld hI (hT a)
      rw [f2];exact ⟨u,load_as h5,h6⟩
     ·cases h1
   obtain ⟨c,h5,h6⟩:=this
   refine ⟨c::vs,?_,?_⟩
   ·simp only [List.mapM_cons,Sem.run_bind,h5,Result.andThen_ok,h3,Sem.run_pure]
   ·refine ⟨by simp [h4.1],fun i x hx=>?_⟩
    cases i with
    |zero=>simp at hx;subst hx;simpa [at_,Array.getD_eq_getD_getElem?] using h6
    |succ i=>
     have:=h4.2 i x (by simpa using hx)
     simpa [at_,Array.getD_eq_getD_getElem?] using this
  ·cases h
end Go.Abs

/- The abstract interpreter: functions. -/
namespace Go.Abs
variable {M M' M'':Mem} {ρ ρ' ρ'':Ref} {G G' G'':Nat->Obj} {w w' w'':World} {nx nx':Nat} {Q Q' Q'' Q0:Nat->Prop} {P:Program} {C:Cfg} {L:Low}
variable {nt fid lf:Nat} {b:Frame} {cs:List Frame} {k:List Item} {ops:Array Oper} {i:Nat} {rest:List Nat} {o:Oper} {id:Nat} {s s':St} {a:Act}
theorem results_ok {fn:Func} {v:AV} {arr:Array Value} (h:resultsA C s fn.results.toList=some v) (hI:Inv Q w M ρ s.G s.nx) (hT:TR M ρ s.G s.tmps arr):∃ cv,(results fn arr).run C.P w = .ok cv w/\VA M ρ s.G v cv:=by
 have key:∀ l,resultsL C s fn.results.toList=some l->∃ vs:Array Value,(results fn arr).run C.P w = .ok (if h:vs.size=1 then vs[0] else .tuple vs) w/\VL (VA M ρ s.G) l vs:=by
  intro l hl
  unfold results
  rw [Array.mapM_eq_mapM_toList]
  generalize hf:(fun x:ResultVar=>_)=f
  obtain ⟨vs,h1,h2⟩:=resultsL_ok (w:=w) (f:=f) (by subst hf;intro t;rfl) (by subst hf;intro a t;rfl) _ l hl hI hT
  refine ⟨vs.toArray,?_,h2⟩
  simp only [Sem.run_bind,map_eq_pure_bind,h1,Result.andThen_ok,Sem.run_pure]
 unfold resultsA at h
 split at h
 ·rename_i v' hv
  cases h
  obtain ⟨vs,h1,h2⟩:=key _ hv
  have hs:vs.size=1:=by have:=h2.1;simpa using this.symm
  refine ⟨vs[0],?_,?_⟩
  ·rw [h1,dif_pos hs]
  ·have:=h2.2 0 v rfl
   simpa [at_,Array.getD_eq_getD_getElem?,hs] using this
 ·rename_i l hne hl
  cases h
  obtain ⟨vs,h1,h2⟩:=key _ hl
  have hs:vs.size≠1:=fun e=>by
   have:=h2.1
   rw [e] at this
   match l,this with
   |[x],_=>exact hne x rfl
  exact ⟨.tuple vs,by rw [h1,dif_neg hs],VA_mkTup h2⟩
 ·cases h
theorem Tr.trans0 {N:Nat->Prop} (h:Tr N Q w M ρ G Q' w' M' ρ' G') (k:Tr N Q w' M' ρ' G' Q'' w'' M'' ρ'' G''):Tr N Q w M ρ G Q'' w'' M'' ρ'' G'':=
 ⟨k.sub,h.ev.trans k.ev,h.ws.trans k.ws,h.mq.trans k.mq,fun o ho hr=>k.born o ho (h.born o ho hr)⟩
theorem DR.put {r:Nat} {x:Go.Obj} {ds:List (AV×List AV)} {dcs:List Deferred} (h:DR Q0 Q w M ρ G ds dcs) (hn:∀ x∈dcs,x.target ≠ .collected r):DR Q0 Q (w.putObj r x) M ρ G ds dcs:=by
 induction h with
 |nil=>exact .nil
 |cons f cap ht hg ha h ih=>exact .cons f cap ht hg ha (ih fun x hx=>hn x (by simp [hx]))
 |mark r' ht q0 q hm hr hn' h ih=>
  have:r'≠r:=fun e=>hn _ (List.Mem.head _) (by rw [ht,e])
  exact .mark r' ht q0 q hm ((World.putObj_heap_other this).trans hr) hn' (ih fun x hx=>hn x (by simp [hx]))
def ModeOK (M:Mem) (fr:Frame):Option IV->Prop
 |none=>fr.mode = .returning
 |some v=>∃ x,fr.mode = .panicking [{ v:=x,recovered:=false }]/\VI M v x
theorem ModeOK.ne {fr:Frame} {m:Option IV} (h:ModeOK M fr m):fr.mode ≠ .run:=by
 cases m with
 |none=>rw [show fr.mode = .returning from h];simp
 |some v=>obtain ⟨x,h,_⟩:=h;rw [h];simp
theorem ModeOK.mono {fr fr':Frame} {m:Option IV} (h:ModeOK M fr m) (hm:M.le M') (hf:fr'.mode=fr.mode):ModeOK M' fr' m:=by
 cases m with
 |none=>exact hf.trans h
 |some v=>obtain ⟨x,h,hv⟩:=h;exact ⟨x,hf.trans h,hv.mono hm⟩
def Left (C:Cfg) (N Q0:Nat->Prop) (w:World) (M:Mem) (ρ:Ref) (G:Nat->Obj) (nx:Nat) (fr:Frame) (cs:List Frame) (res:CR):Prop:=
 ∃ Q' w' M' ρ' fr',Tr N Q0 w M ρ G Q' w' M' ρ' res.mem/\Inv Q' w' M' ρ' res.mem res.lim/\nx<=res.lim/\Steps C.P (lone fr cs w) (lone fr' cs w')/\fr'.defers=[]/\fr'.kind=fr.kind/\fr'.fn=fr.fn /\
  match res with
  | .ret v G' _=>∃ cv fn,fr'.mode = .returning/\C.P.funcs[fr.fn]? = some fn/\(results fn fr'.tmps).run C.P w' = .ok cv w'/\VA M' ρ' G' v cv
  | .pan v _ _=>∃ x,fr'.mode = .panicking [{ v:=x,recovered:=false }]/\VI M' v x
theorem leave_ok (hC:CfgOK C) (hL:CallOK C.P L) {rs:List ResultVar} {N:Nat->Prop}:∀ (dcs:List Deferred) (ds:List (AV×List AV)) (m:Option IV) (s:St) (Q:Nat->Prop) (w:World) (M:Mem) (ρ:Ref) (fr:Frame) (cs:List Frame) (fn:Func) (res:CR) (pk':Pk),
  leaveA C L rs ds m s=some (res,pk')->fr.defers=dcs->DR Q0 Q w M ρ s.G ds dcs->Inv Q w M ρ s.G s.nx->(∀ b,Q b->Q0 b)->TR M ρ s.G s.tmps fr.tmps->ModeOK M fr m->C.P.funcs[fr.fn]? = some fn->(m=none->fn.results.toList=rs)->(∀ v,m=some v->fn.results.toList=rs\/ds=[]) ->
  (∀ o,s.nx<=o->N o)->pk'=s.pk/\Left C N Q0 w M ρ s.G s.nx fr cs res:=by
 intro dcs
 induction dcs with
 |nil=>
  intro ds m s Q w M ρ fr cs fn res pk' h hd hD hI hsub hT hm hf hrs hrs' hN
  cases hD
  cases m with
  |none=>
   simp only [leaveA] at h
   split at h
   ·rename_i v hv
    cases h
    rw [<-hrs rfl] at hv
    obtain ⟨cv,h1,h2⟩:=results_ok (w:=w) hv hI hT
    exact ⟨rfl,Q,w,M,ρ,fr,⟨hsub,Ev.refl _ _ _,WS.refl _ _,MQ.refl _ _,fun _ _ h=>h⟩,hI,Nat.le_refl _,Steps.refl _ _,hd,rfl,rfl,cv,fn,hm,hf,h1,h2⟩
   ·cases h
  |some v=>
   cases h
   obtain ⟨x,h1,h2⟩:=hm
   exact ⟨rfl,Q,w,M,ρ,fr,⟨hsub,Ev.refl _ _ _,WS.refl _ _,MQ.refl _ _,fun _ _ h=>h⟩,hI,Nat.le_refl _,Steps.refl _ _,hd,rfl,rfl,x,h1,h2⟩
 |cons d dcs ih=>
  intro ds m s Q w M ρ fr cs fn res pk' h hd hD hI hsub hT hm hf hrs hrs' hN
  cases hD with
  |mark r ht q0 q hMr hr hn hD'=>
   have hst:=step_collected (cs:=cs) (P:=C.P) hm.ne hd ht (run_takeDeferred hr)
   have hlt:=(Array.getElem?_eq_some_iff.1 hr).1
   have hsz:w.heap.size<=(w.putObj r (.deferred none)).heap.size:=by simp [World.putObj]
   have hI':Inv Q (w.putObj r (.deferred none)) M ρ s.G s.nx:=hI.turn (fun b=>by
    by_cases e:b=r
    ·exact .inr ⟨e▸q,e▸hMr⟩
    ·exact .inl (World.putObj_heap_other e)) hsz
   have t0:Tr N Q0 w M ρ s.G Q0 (w.putObj r (.deferred none)) M ρ s.G:=
    ⟨fun _ h=>h,Ev.refl _ _ _,⟨rfl,rfl,rfl,hsz,fun b hb=>World.putObj_heap_other fun e=>hb (e▸q0)⟩,MQ.refl _ _,fun _ _ h=>h⟩
   obtain ⟨hp,Q',w',M',ρ',fr',t,i',n',st,h1,h2,h3,h4⟩:=ih ds m s Q (w.putObj r (.deferred none)) M ρ { fr with defers:=[]++dcs } cs fn res pk' h rfl (hD'.put hn) hI' hsub hT (hm.mono (Mem.le_refl M) rfl) hf hrs hrs' hN
   exact ⟨hp,Q',w',M',ρ',fr',t0.trans0 t,i',n', .head hst st,h1,h2,h3,h4⟩
  |cons f cap ht hg ha hD'=>
   rename_i g ars ds
   simp only [leaveA] at h
   split at h
   ·rename_i kf cap' hfn
    obtain ⟨cv,hcv,hcap⟩:=fnOf_ok hfn hg
    simp only [Value.func.injEq] at hcv
    obtain ⟨rfl, -,rfl⟩:=hcv
    split at h
    ·rename_i v2 G2 n2 m2 recd hcall
     obtain ⟨hP,hcontract⟩:=hL _ _ _ _ _ _ _ hcall
     have hinv:(invoke d.target d.args).run C.P w = .ok (.enter kf (d.args++cap)) w:=by rw [ht];simp [invoke,run_callFunc hC hP]
     have hst:=step_defer (cs:=cs) hm.ne hd ht hinv
     have hpk0:PkOK M (Frame.enter C.P kf (d.args++cap) .deferred) ({ fr with defers:=dcs }::cs) (.dfr m false):=by
      cases m with
      |none=>exact ⟨rfl,rfl,_,_,rfl,hm⟩
      |some v=>obtain ⟨x,h1,h2⟩:=hm;exact ⟨rfl,rfl,_,_,x,rfl,h1,h2⟩
     obtain ⟨Q2,w2,M2,ρ2,t2,i2,le2,pk2,e2⟩:=hcontract Q w M ρ (d.args++cap) .deferred ({ fr with defers:=dcs }::cs) hI (VL_append ha hcap) hpk0
     obtain ⟨fr2,cv2,fn2,st2,hm2,hd2,hk2,hfn2,hf2,hr2,hv2⟩:=e2
     have hcs0:csM (.dfr m false) ({ fr with defers:=dcs }::cs)={ fr with defers:=dcs }::cs:=by cases m<;>rfl
     rw [hcs0] at st2
     have key:∀ (c':Frame),csM (.dfr m2 recd) ({ fr with defers:=dcs }::cs)=c'::cs->step C.P (lone fr2 (csM (.dfr m2 recd) ({ fr with defers:=dcs }::cs)) w2) = .next (lone { c' with mode:=settle c'.mode } cs w2):=by
      intro c' hc'
      rw [hc']
      exact step_going_returned hk2 ⟨hm2,hd2,fn2,by rw [hfn2];exact hf2,hr2⟩
     have hmode:∃ c':Frame,csM (.dfr m2 recd) ({ fr with defers:=dcs }::cs)=c'::cs/\c'.fn=fr.fn/\c'.kind=fr.kind/\c'.tmps=fr.tmps/\c'.defers=dcs/\ModeOK M2 { c' with mode:=settle c'.mode } (if recd then none else m):=by
      cases m with
      |none=>
       have hm:fr.mode = .returning:=hm
       cases m2 with
       |some v'=>obtain ⟨_,_,c,rest,x,e,h4,_⟩:=pk2;cases e;rw [show ({ fr with defers:=dcs }:Frame).mode=fr.mode from rfl,hm] at h4;cases h4
       |none=>
        refine ⟨{ fr with defers:=dcs },rfl,rfl,rfl,rfl,rfl,?_⟩
        cases recd<;>(show settle fr.mode = .returning;rw [hm];rfl)
      |some v=>
       obtain ⟨x,hmx,hvx⟩:=hm
       cases m2 with
       |none=>obtain ⟨_,_,c,rest,e,h4⟩:=pk2;cases e;rw [show ({ fr with defers:=dcs }:Frame).mode=fr.mode from rfl,hmx] at h4;cases h4
       |some v'=>
        cases recd with
        |false=>
         refine ⟨{ fr with defers:=dcs },rfl,rfl,rfl,rfl,rfl,x,?_,hvx.mono t2.ev.mem⟩
         show settle fr.mode=_
         rw [hmx];rfl
        |true=>
         refine ⟨{ fr with defers:=dcs,mode := .panicking [{ v:=x,recovered:=true }] },?_,rfl,rfl,rfl,rfl,rfl⟩
         simp [csM,hmx]
     obtain ⟨c',hc',hcf,hck,hct,hcd,hcm⟩:=hmode
     have hD2:=hD'.mono t2
     have hT2:TR M2 ρ2 G2 s.tmps ({ c' with mode:=settle c'.mode }:Frame).tmps:=by show TR M2 ρ2 G2 s.tmps c'.tmps;rw [hct];exact hT.mono t2.ev
     have hrs2:fn.results.toList=rs:=by
      cases m with
      |none=>exact hrs rfl
      |some v=>
            rcases hrs' v rfl with h|h
            ·exact h
            ·cases h
     obtain ⟨hp,Q',w',M',ρ',fr',t,i',n',st,h1,h2,h3,h4⟩:=ih ds (if recd then none else m) { s with G:=G2,nx:=n2 } Q2 w2 M2 ρ2 { c' with mode:=settle c'.mode } cs fn res pk' h hcd hD2 i2 (fun b hb=>hsub b (t2.sub b hb)) hT2 hcm (by show C.P.funcs[c'.fn]? = _;rw [hcf];exact hf) (fun _=>hrs2) (fun _ _ => .inl hrs2) (fun o ho=>hN o (Nat.le_trans le2 ho))
     have t2':Tr N Q0 w M ρ s.G Q0 w2 M2 ρ2 G2:=⟨fun _ h=>h,t2.ev,t2.ws.sub hsub,t2.mq.sub hsub,fun o ho e=>t2.born o (fun hh=>ho (hN o hh)) e⟩
     refine ⟨hp,Q',w',M',ρ',fr',t2'.trans0 t,i',Nat.le_trans le2 n', .head hst (st2.trans (.head (key c' hc') st)),h1,h2.trans hck,h3.trans hcf,?_⟩
     cases res with
     |ret v G' n=>obtain ⟨cv,fn',g1,g2,g3,g4⟩:=h4;exact ⟨cv,fn',g1,by rw [<-hcf];exact g2,g3,g4⟩
     |pan v G' n=>exact h4
    ·cases h
   ·cases h
theorem PkOK.frame {b b':Frame} {pk:Pk} (h:PkOK M b cs pk) (hk:b'.kind=b.kind) (hr:b'.roundOf=b.roundOf):PkOK M b' cs pk:=by
 cases pk with
 |no=>exact ⟨hk.trans h.1,hr.trans h.2⟩
 |rnd=>exact ⟨hk.trans h.1,fun e=>h.2 (hr.symm.trans e)⟩
 |dfr m r=>cases m with
  |none=>exact ⟨hk.trans h.1,hr.trans h.2.1,h.2.2⟩
  |some v=>exact ⟨hk.trans h.1,hr.trans h.2.1,h.2.2⟩
theorem PkOK.rnd_of {b:Frame} {pk:Pk} (h:PkOK M b cs pk) (hr:b.roundOf≠none):pk = .rnd:=by
 cases pk with
 |no=>exact absurd h.2 hr
 |rnd=>rfl
 |dfr m r=>cases m with
  |none=>exact absurd h.2.1 hr
  |some v=>exact absurd h.2.1 hr
theorem TR_init {args:List AV} {vs:Array Value} {n:Nat} (h:VL (VA M ρ G) args vs):TR M ρ G (initT args) (vs++Array.replicate (n-vs.size) undef):=by
 intro t
 unfold initT
 cases e:args[t]? with
 |some x=>
  have:=h.2 t x e
  have hlt:t < vs.size:=by rw [<-h.1];exact (List.getElem?_eq_some_iff.1 e).1
  simpa [at_,Array.getD_eq_getD_getElem?,Array.getElem?_append,hlt] using this
 |none=>
  have hge:¬ t < vs.size:=by rw [<-h.1];intro hh;rw [List.getElem?_eq_getElem hh] at e;cases e
  have:(vs++Array.replicate (n-vs.size) undef).getD t Go.undef = .tuple #[]:=by
   rw [Array.getD_eq_getD_getElem?,Array.getElem?_append,if_neg hge,Array.getElem?_replicate]
   split<;>rfl
  rw [this]
  exact .imm _ _ (.tup [] #[] rfl fun i x hx=>by simp at hx)
theorem CallEnd.of_left {N:Nat->Prop} {m:Machine} {pk':Pk} {kind:CallKind} {f:FuncId} {fr:Frame} {res:CR} (hs:Steps C.P m (lone fr (csM pk' cs) w)) (hk:fr.kind=kind) (hf:fr.fn=f) (hfn:∃ fn,C.P.funcs[f]? = some fn) (h:Left C N Q0 w M ρ G nx fr (csM pk' cs) res) :
  ∃ Q' w' M' ρ',Tr N Q0 w M ρ G Q' w' M' ρ' res.mem/\Inv Q' w' M' ρ' res.mem res.lim/\nx<=res.lim/\CallEnd C.P m pk' kind cs f w' M' ρ' res:=by
 obtain ⟨Q',w',M',ρ',fr',t,i,n,st,h1,h2,h3,h4⟩:=h
 refine ⟨Q',w',M',ρ',t,i,n,?_⟩
 cases res with
 |ret v G' _=>obtain ⟨cv,fn,g1,g2,g3,g4⟩:=h4;exact ⟨fr',cv,fn,hs.trans st,g1,h1,h2.trans hk,h3.trans hf,hf▸g2,g3,g4⟩
 |pan v G' _=>obtain ⟨x,g1,g2⟩:=h4;obtain ⟨fn,hfn⟩:=hfn;exact ⟨fr',x,fn,hs.trans st,g1,h1,h2.trans hk,h3.trans hf,hfn,g2⟩
theorem callF_ok (hC:CfgOK C) (hL:CallOK C.P L) (hR:RoundOK C.P L) {f:FuncId} {args:List AV} {pk pk':Pk} {res:CR} (h:callF C L lf f args pk G nx=some (res,pk')):PInv C.P f /\
  ∀ Q w M ρ vs kind cs,Inv Q w M ρ G nx->VL (VA M ρ G) args vs->PkOK M (Frame.enter C.P f vs kind) cs pk->∃ Q' w' M' ρ',Tr (nx <= ·) Q w M ρ G Q' w' M' ρ' res.mem/\Inv Q' w' M' ρ' res.mem res.lim/\nx<=res.lim /\
   PkOK M' (Frame.enter C.P f vs kind) cs pk'/\CallEnd C.P (lone (Frame.enter C.P f vs kind) (csM pk cs) w) pk' kind cs f w' M' ρ' res:=by
 unfold callF at h
 split at h
 rotate_left
 ·cases h
 rename_i fn hfn
 have hfn:C.P.funcs[f]? = some fn:=hfn
 split at h
 rotate_left
 ·cases h
 rename_i body hbody
 split at h
 rotate_left
 ·cases h
 rename_i hargs
 refine ⟨⟨fn,hfn,by simp [hbody]⟩,fun Q w M ρ vs kind cs hI hv hpk=>?_⟩
 let b:Frame:={ (default:Frame) with fn:=f,kind:=kind,roundOf:=none }
 let a0:Act:={ tmps:=vs++Array.replicate (fn.ntmps-vs.size) undef,defers:=[] }
 have henter:Frame.enter C.P f vs kind=b.atR a0 [.code body]:=by simp [Frame.enter,Frame.atR,hfn,hbody,b,a0]
 have hS:SR fn.ntmps Q Q w M ρ ⟨initT args,G,nx,[],pk⟩ a0:=
  ⟨hI,TR_init hv,by have:=hv.1;simp [a0];omega,fun _ h=>h, .nil⟩
 have hpkb:PkOK M b cs pk:=hpk.frame rfl rfl
 have hcode:∀ out,code C L lf f fn.ntmps body ⟨initT args,G,nx,[],pk⟩=some out->CodeEnd C.P fn.ntmps b cs [] Q (nx <= ·) Q w M ρ G nx (lone (Frame.enter C.P f vs kind) (csM pk cs) w) out:=fun out ho=>by
  rw [henter]
  exact code_ok hC hL hR (b:=b) rfl body _ out ho Q w M ρ a0 [] hS hpkb
 have fin:∀ (s1:St) (m:Option IV) (a1:Act) (Q1:Nat->Prop) (w1:World) (M1:Mem) (ρ1:Ref) (fr:Frame),leaveA C L fn.results.toList s1.defers m s1=some (res,pk')->Goes fn.ntmps b cs Q (nx <= ·) Q w M ρ G nx s1 a1 Q1 w1 M1 ρ1 ->
   Steps C.P (lone (Frame.enter C.P f vs kind) (csM pk cs) w) (lone fr (csM s1.pk cs) w1)->fr.defers=a1.defers->fr.tmps=a1.tmps->fr.fn=f->fr.kind=kind->ModeOK M1 fr m ->
   ∃ Q' w' M' ρ',Tr (nx <= ·) Q w M ρ G Q' w' M' ρ' res.mem/\Inv Q' w' M' ρ' res.mem res.lim/\nx<=res.lim/\PkOK M' (Frame.enter C.P f vs kind) cs pk'/\CallEnd C.P (lone (Frame.enter C.P f vs kind) (csM pk cs) w) pk' kind cs f w' M' ρ' res:=by
  intro s1 m a1 Q1 w1 M1 ρ1 fr hl g st hd ht hff hk hm
  obtain ⟨rfl,hleft⟩:=leave_ok (Q0:=Q) (N:=fun o=>nx<=o) hC hL a1.defers s1.defers m s1 Q1 w1 M1 ρ1 fr (csM s1.pk cs) fn res pk' hl hd g.sr.dfr g.sr.inv g.sr.sub (by rw [ht];exact g.sr.tmps) hm (by rw [hff];exact hfn) (fun _=>rfl) (fun _ _ => .inl rfl) (fun o ho=>Nat.le_trans g.nx ho)
  obtain ⟨Q',w',M',ρ',t,i,n,e⟩:=CallEnd.of_left st hk hff ⟨fn,hfn⟩ hleft
  have t0:Tr (fun o=>nx<=o) Q w M ρ G Q w1 M1 ρ1 s1.G:=⟨fun _ h=>h,g.tr.ev,g.tr.ws,g.tr.mq,g.tr.born⟩
  exact ⟨Q',w',M',ρ',t0.trans0 t,i,Nat.le_trans g.nx n,(g.pk.mono t.ev.mem).frame rfl rfl,e⟩
 split at h
 ·rename_i s1 h1
  obtain ⟨a1,Q1,w1,M1,ρ1,g,st⟩:=hcode _ h1
  exact fin s1 none a1 Q1 w1 M1 ρ1 _ h g (st.trans (.one (stepR_end rfl))) rfl rfl rfl rfl rfl
 ·rename_i s1 h1
  obtain ⟨a1,Q1,w1,M1,ρ1,todo,g,st⟩:=hcode _ h1
  exact fin s1 none a1 Q1 w1 M1 ρ1 _ h g (st.trans (.one (stepR_ret rfl))) rfl rfl rfl rfl rfl
 ·rename_i v s1 h1
  obtain ⟨a1,Q1,w1,M1,ρ1,todo,x,g,hx,st⟩:=hcode _ h1
  exact fin s1 (some v) a1 Q1 w1 M1 ρ1 _ h g st rfl rfl rfl rfl ⟨x,rfl,hx⟩
 ·cases h
/-! ### rounds -/
theorem bind_ok:∀ (ps:List (Nat×AV)) (qs:List (Nat×Value)) (tmps:Nat->AV) (arr:Array Value),Parts M ρ G ps qs->(∀ p∈ps,p.1 < nt)->TR M ρ G tmps arr->arr.size=nt ->
  TR M ρ G (bindT tmps ps) (qs.foldl (fun arr (t,a)=>arr.setIfInBounds t a) arr)/\(qs.foldl (fun arr (t,a)=>arr.setIfInBounds t a) arr).size=nt
 |[],[],tmps,arr,_,_,hT,hs=>⟨hT,hs⟩
 |[],q::qs,_,_,hp,_,_,_=>by simp [Parts] at hp
 |p::ps,[],_,_,hp,_,_,_=>by simp [Parts] at hp
 |(t,v)::ps,(t',c)::qs,tmps,arr,hp,hlt,hT,hs=>by
  obtain ⟨h1,h2⟩:=hp.2 0 _ _ rfl rfl
  simp only at h1 h2
  subst h1
  refine bind_ok ps qs (upd tmps t v) (arr.setIfInBounds t c) hp.tail (fun p hp=>hlt p (by simp [hp])) (fun u=>?_) (by simpa using hs)
  have hlt':t < arr.size:=by rw [hs];exact hlt (t,v) (by simp)
  by_cases hu:u=t
  ·subst hu
   simp [upd,Array.getD_eq_getD_getElem?,hlt']
   exact h2
  ·simp only [upd,if_neg hu]
   have:=hT u
   rw [Array.getD_eq_getD_getElem?] at this ⊢
   rw [Array.getElem?_setIfInBounds_ne (Ne.symm hu)]
   exact this
theorem lp_put {t:Nat->AV} {n:Nat} {p:List Nat} {x y:Code} {f:FuncId} {st st':Nat} {pe pe':Option Code} {q l:Nat} {r r':Loop} (hI:Inv Q w M ρ G nx) (hG:G q = .lp t n p x y f st pe) (hq:ρ q=some (.func (.yield l) #[] #[])) (hheap:w.heap[l]? = some (.loop r))
  (hL:LoopIs M ρ G t n p x y f st' pe' r'):Inv Q (w.putObj l (.loop r')) M ρ (upd G q (.lp t n p x y f st' pe')) nx/\∀ N,Tr N Q w M ρ G Q (w.putObj l (.loop r')) M ρ (upd G q (.lp t n p x y f st' pe')):=by
 have hlt:q < nx:=by
  rcases Nat.lt_or_ge q nx with h1|h1
  ·exact h1
  ·rw [hI.free q h1] at hq;cases hq
 have hl:(G q).live=true:=by rw [hG];rfl
 have hf:(G q).frozen=false:=by rw [hG];rfl
 have hv:Ev M ρ G M (upd ρ q (some (.func (.yield l) #[] #[]))) (upd G q (.lp t n p x y f st' pe')):=Ev.same hq (fun _ _ _ _ e=>by cases e)
 have hsz:w.heap.size<=(w.putObj l (.loop r')).heap.size:=by simp [World.putObj]
 have hQ:=(hI.own q _ l hl hf hq rfl).2
 have hlt2:l < w.heap.size:=(Array.getElem?_eq_some_iff.1 hheap).1
 have:=hI.put (x := .lp t n p x y f st' pe') (r := .func (.yield l) #[] #[]) (w':=w.putObj l (.loop r')) hlt hv (fun b=>by
  by_cases e:b=l
  ·exact .inr (.inr ⟨hl,hf,_,hq,by rw [e];rfl⟩)
  ·exact .inl (World.putObj_heap_other e)) hsz (by
   unfold ObjOK
   simp only [upd,if_true]
   exact ⟨l,r',rfl,World.putObj_heap_same hlt2,{ hL with tmps:=fun u=>(hL.tmps u).mono hv }⟩) (fun b hb => .inr ⟨hl,hf,_,hq,hb⟩)
 rw [upd_self hq] at this hv
 exact ⟨this,fun N=>⟨fun _ h=>h,hv,⟨rfl,rfl,rfl,hsz,fun b hb=>World.putObj_heap_other fun e=>hb (e▸hQ)⟩,MQ.refl _ _,fun _ _ h=>h⟩⟩
theorem roundF_ok (hC:CfgOK C) (hL:CallOK C.P L) (hR:RoundOK C.P L) {q:Nat} {args:List AV} {pk':Pk} {res:CR} (h:roundF C L lf q args G nx=some (res,pk')) :
  ∀ Q w M ρ vs l,Inv Q w M ρ G nx->VL (VA M ρ G) args vs->ρ q=some (.func (.yield l) #[] #[])->∃ f tmps x y,(Instr.yield l vs).run C.P w = .ok (.round l f tmps x y) w /\
  ∀ c cs,∃ Q' w' M' ρ',Tr (nx <= ·) Q w M ρ G Q' w' M' ρ' res.mem/\Inv Q' w' M' ρ' res.mem res.lim/\nx<=res.lim /\
   RoundEnd C.P (lone (Frame.round l f tmps x y .normal) (c::cs) w) c cs w' M' ρ' res:=by
 intro Q w M ρ vs l hI hv hq
 unfold roundF at h
 split at h
 rotate_left
 ·cases h
 rename_i tmps nt params assign body fid pe hG
 split at h
 rotate_left
 ·cases h
 rename_i hps
 have hobj:=hI.obj q
 unfold ObjOK at hobj
 rw [hG] at hobj
 obtain ⟨l',r,hq',hheap,hLI⟩:=hobj
 have hll:l'=l:=by rw [hq] at hq';simp only [Option.some.injEq,Value.func.injEq,Fn.yield.injEq] at hq';exact hq'.1.symm
 subst hll
 have hsz:vs.size=r.params.size:=by rw [<-hv.1,<-hps.1,<-hLI.params];simp
 refine ⟨_,_,_,_,run_yield hheap hsz,fun c cs=>?_⟩
 let b:Frame:={ (default:Frame) with fn:=r.fn,kind := .normal,roundOf:=some l' }
 have hT0:=bind_ok (nt:=nt) (params.zip args) ((r.params.zip vs).toList) tmps r.tmps ⟨by simp [<-hLI.params,hv.1],fun k p q' hp hq'=>by
   rw [Array.toList_zip,hLI.params] at hq'
   rw [List.getElem?_zip_eq_some] at hp hq'
   refine ⟨Option.some.inj (hp.1.symm.trans hq'.1),?_⟩
   have h1:=hv.2 k _ hp.2
   have h2:=hq'.2
   rw [Array.getElem?_toList] at h2
   simpa [at_,Array.getD_eq_getD_getElem?,h2] using h1⟩
  (fun p hp=>by
   have:=List.all_eq_true.1 hps.2 p.1 (List.of_mem_zip (a:=p.1) (b:=p.2) hp).1
   simpa using this) hLI.tmps hLI.size
 rw [Array.foldl_toList] at hT0
 generalize hfold:((r.params.zip vs).foldl (fun tmps x=>match x with|(t,a)=>tmps.setIfInBounds t a) r.tmps)=tm0 at hT0 ⊢
 let a0:Act:={ tmps:=tm0,defers:=[] }
 have hround:Frame.round l' r.fn tm0 r.assign r.body .normal=b.atR a0 [.code r.assign, .beginRound, .code r.body]:=rfl
 rw [hround]
 have hS0:SR nt Q Q w M ρ ⟨bindT tmps (params.zip args),G,nx,[], .rnd⟩ a0:=⟨hI,hT0.1,hT0.2,fun _ h=>h, .nil⟩
 have hpk0:PkOK M b (c::cs) .rnd:=⟨rfl,by simp [b]⟩
 split at h
 rotate_left
 ·cases h
 rename_i s hassign
 have hA:=code_ok hC hL hR (b:=b) (Q0:=Q) (cs:=c::cs) (hLI.fn) assign _ _ hassign Q w M ρ a0 [.beginRound, .code r.body] hS0 hpk0
 rw [<-hLI.assign] at hA
 obtain ⟨a1,Q1,w1,M1,ρ1,g1,st1⟩:=hA
 have hpk1:=g1.pk.rnd_of (by simp [b])
 rw [hpk1] at st1
 have hq1:ρ1 q=some (.func (.yield l') #[] #[]):=by
  rcases g1.tr.ev.ref _ _ hq with h3|⟨⟨_,_,_,h3⟩,_⟩
  ·exact h3
  ·cases h3
 split at h
 rotate_left
 ·cases h
 rename_i t2 n2 p2 x2 y2 f2 e2 hG2
 have hobj2:=g1.sr.inv.obj q
 unfold ObjOK at hobj2
 rw [hG2] at hobj2
 obtain ⟨l2,r2,hq2,hheap2,hLI2⟩:=hobj2
 have hll:l2=l':=by rw [hq1] at hq2;simp only [Option.some.injEq,Value.func.injEq,Fn.yield.injEq] at hq2;exact hq2.1.symm
 subst hll
 have hready:r2.state = .ready:=by
  rcases hLI2.state with ⟨_,h3⟩|⟨h3,_⟩|⟨h3,_⟩
  ·exact h3
  ·cases h3
  ·cases h3
 obtain ⟨hI2,ht2⟩:=lp_put (st':=1) (pe':=e2) (r':={ r2 with state := .busy }) g1.sr.inv hG2 hq1 hheap2 { hLI2 with state := .inr (.inl ⟨rfl,rfl⟩) }
 have hS2:=g1.sr.turn (ht2 (fun _=>False)) hI2
 have st2:=stepR_beginRound (P:=C.P) (b:=b) (a:=a1) (k:=[.code r.body]) (cs:=c::cs) rfl (run_beginRound hheap2 hready)
 have hpk2:PkOK M1 b (c::cs) s.pk:=g1.pk
 have stA:=st1.trans (.one st2)
 have tA:Tr (nx <= ·) Q w M ρ G Q1 (w1.putObj l2 (.loop { r2 with state := .busy })) M1 ρ1 (upd s.G q (.lp t2 n2 p2 x2 y2 f2 1 e2)):=g1.tr.trans (ht2 (fun _=>False)) (fun _ h=>h) (fun _ h=>h.elim)
 have hbodyOK:∀ out,code C L lf fid nt body { s with G:=upd s.G q (.lp t2 n2 p2 x2 y2 f2 1 e2) }=some out->CodeEnd C.P nt b (c::cs) [] Q (nx <= ·) Q w M ρ G nx (lone (b.atR a0 [.code r.assign, .beginRound, .code r.body]) (c::cs) w) out:=by
  intro out ho
  have hB:=code_ok hC hL hR (b:=b) (Q0:=Q) (cs:=c::cs) (hLI.fn) body _ _ ho Q1 _ M1 ρ1 a1 [] hS2 hpk2
  rw [<-hLI.body] at hB
  refine CodeEnd.after tA g1.nx stA ?_ (fun _ h=>h) (fun o h=>Nat.le_trans g1.nx h)
  have:csM s.pk (c::cs)=c::cs:=by rw [hpk1];rfl
  rw [this] at hB
  exact hB
 -- how a round ends that has not failed
 have fin:∀ (s1:St) (jump:Option Code) (st':Nat) (a2:Act) (Q2:Nat->Prop) (w2:World) (M2:Mem) (ρ2:Ref) (m:Machine) (t3:Nat->AV) (n3:Nat) (p3:List Nat) (x3 y3:Code) (f3:FuncId) (e3:Option Code),
   Goes nt b (c::cs) Q (nx <= ·) Q w M ρ G nx s1 a2 Q2 w2 M2 ρ2->s1.G q = .lp t3 n3 p3 x3 y3 f3 1 e3->Steps C.P (lone (b.atR a0 [.code r.assign, .beginRound, .code r.body]) (c::cs) w) m ->
   (∀ v w',(Instr.endRound l2 jump).run C.P w2 = .ok v w'->step C.P m = .next (lone (c.finish v) cs w'))->((jump=none/\st'=0)\/(jump.isSome=true/\st'=2)) ->
   ∃ Q' w' M' ρ',Tr (nx <= ·) Q w M ρ G Q' w' M' ρ' (upd s1.G q (.lp t3 n3 p3 x3 y3 f3 st' jump))/\Inv Q' w' M' ρ' (upd s1.G q (.lp t3 n3 p3 x3 y3 f3 st' jump)) s1.nx/\nx<=s1.nx /\
    ∃ cv,Steps C.P (lone (b.atR a0 [.code r.assign, .beginRound, .code r.body]) (c::cs) w) (lone (c.finish cv) cs w')/\VA M' ρ' (upd s1.G q (.lp t3 n3 p3 x3 y3 f3 st' jump)) (.imm (.bool jump.isNone)) cv:=by
  intro s1 jump st' a2 Q2 w2 M2 ρ2 m t3 n3 p3 x3 y3 f3 e3 g hG3 st hstep hj
  have hq3:ρ2 q=some (.func (.yield l2) #[] #[]):=by
   rcases g.tr.ev.ref _ _ hq with h3|⟨⟨_,_,_,h3⟩,_⟩
   ·exact h3
   ·cases h3
  have hobj3:=g.sr.inv.obj q
  unfold ObjOK at hobj3
  rw [hG3] at hobj3
  obtain ⟨l3,r3,hq3',hheap3,hLI3⟩:=hobj3
  have hll:l3=l2:=by rw [hq3] at hq3';simp only [Option.some.injEq,Value.func.injEq,Fn.yield.injEq] at hq3';exact hq3'.1.symm
  subst hll
  have hrun:=run_endRound (P:=C.P) jump hheap3
  obtain ⟨hI3,ht3⟩:=lp_put (st':=st') (pe':=jump) (r':={ r3 with state:=if jump.isNone then .ready else .done,pending:=jump }) g.sr.inv hG3 hq3 hheap3 { hLI3 with
   pending:=rfl
   state:=by
    rcases hj with ⟨rfl,rfl⟩|⟨h1,rfl⟩
    ·exact .inl ⟨rfl,rfl⟩
    ·refine .inr (.inr ⟨rfl,?_⟩)
     cases jump with
     |none=>cases h1
     |some x=>rfl }
  exact ⟨Q2,_,M2,ρ2,g.tr.trans (ht3 (fun _=>False)) (fun _ h=>h) (fun _ h=>h.elim),hI3,g.nx,_,st.trans (.one (hstep _ _ hrun)), .imm _ _ (.bool _)⟩
 have hcs:∀ s1:St,PkOK M b (c::cs) s1.pk\/True->s1.pk = .rnd->csM s1.pk (c::cs)=c::cs:=fun s1 _ e=>by rw [e];rfl
 split at h
 ·rename_i s1 h1
  obtain ⟨a2,Q2,w2,M2,ρ2,g,st⟩:=hbodyOK _ h1
  rw [hcs s1 (.inr trivial) (g.pk.rnd_of (by simp [b]))] at st
  split at h
  ·rename_i t3 n3 p3 x3 y3 f3 e3 hG3
   cases h
   exact fin s1 none 0 a2 Q2 w2 M2 ρ2 _ t3 n3 p3 x3 y3 f3 e3 g hG3 st (fun v w' hr=>stepR_round_end rfl rfl hr) (.inl ⟨rfl,rfl⟩)
  ·cases h
 ·rename_i id s1 h1
  obtain ⟨a2,Q2,w2,M2,ρ2,todo,g,hx,st⟩:=hbodyOK _ h1
  rw [hcs s1 (.inr trivial) (g.pk.rnd_of (by simp [b]))] at st
  split at h
  ·rename_i t3 n3 p3 x3 y3 f3 e3 hG3
   cases h
   exact fin s1 (some (.exit id)) 2 a2 Q2 w2 M2 ρ2 _ t3 n3 p3 x3 y3 f3 e3 g hG3 st (fun v w' hr=>stepR_round_exit rfl rfl (by rw [hx];rfl) hr) (.inr ⟨rfl,rfl⟩)
  ·cases h
 ·rename_i s1 h1
  obtain ⟨a2,Q2,w2,M2,ρ2,todo,g,st⟩:=hbodyOK _ h1
  rw [hcs s1 (.inr trivial) (g.pk.rnd_of (by simp [b]))] at st
  split at h
  ·rename_i t3 n3 p3 x3 y3 f3 e3 hG3
   cases h
   exact fin s1 (some .ret) 2 a2 Q2 w2 M2 ρ2 _ t3 n3 p3 x3 y3 f3 e3 g hG3 st (fun v w' hr=>stepR_round_ret rfl rfl hr) (.inr ⟨rfl,rfl⟩)
  ·cases h
 ·rename_i v s1 h1
  obtain ⟨a2,Q2,w2,M2,ρ2,todo,x,g,hx,st⟩:=hbodyOK _ h1
  rw [hcs s1 (.inr trivial) (g.pk.rnd_of (by simp [b]))] at st
  split at h
  ·rename_i hd
   cases h
   simp only [Bool.and_eq_true,List.isEmpty_iff] at hd
   obtain ⟨fn,hfn⟩:=Option.isSome_iff_exists.1 hd.2
   have hfn:C.P.funcs[r.fn]? = some fn:=by rw [hLI.fn];exact hfn
   have hl:leaveA C L [] s1.defers (some v) s1=some (.pan v s1.G s1.nx,s1.pk):=by rw [hd.1];rfl
   obtain ⟨_,Q',w',M',ρ',fr',t,i,n,st',h2,h3,h4,x',h5,h6⟩:=leave_ok (Q0:=Q) (N:=fun o=>nx<=o) hC hL a2.defers s1.defers (some v) s1 Q2 w2 M2 ρ2 { b.atR a2 todo with mode := .panicking [{ v:=x,recovered:=false }] } (c::cs) fn _ _ hl rfl g.sr.dfr g.sr.inv g.sr.sub g.sr.tmps
    ⟨x,rfl,hx⟩ hfn (fun e=>by cases e) (fun _ _ => .inr hd.1) (fun o ho=>Nat.le_trans g.nx ho)
   have t0:Tr (fun o=>nx<=o) Q w M ρ G Q w2 M2 ρ2 s1.G:=⟨fun _ h=>h,g.tr.ev,g.tr.ws,g.tr.mq,g.tr.born⟩
   exact ⟨Q',w',M',ρ',t0.trans0 t,i,Nat.le_trans g.nx n,x',(st.trans st').trans (.one (step_leave_panicked ⟨h5,h2,fn,by rw [h4];exact hfn⟩)),h6⟩
  ·cases h
 ·cases h
theorem low_ok (hC:CfgOK C):∀ n,CallOK C.P (low C n)/\RoundOK C.P (low C n)
 |0=>⟨(fun _ _ _ _ _ _ _ h=>nomatch h),(fun _ _ _ _ _ _ h=>nomatch h)⟩
 |n+1=>⟨fun f _ _ _ _ _ _ h=>callF_ok (C:=C.at f) ⟨hC.mixed,hC.ng,hC.orc⟩ (low_ok hC n).1 (low_ok hC n).2 h,fun _ _ _ _ _ _ h=>roundF_ok (C:=C.ground) ⟨hC.mixed,hC.ng,hC.orc⟩ (low_ok hC n).1 (low_ok hC n).2 h⟩
theorem run_ok (hC:CfgOK C) {n:Nat} {f:FuncId} {ivs:List IV} {v:AV} (h:run C n f ivs=some (.ret v G nx)) {vs:Array Value} (hm:∀ b o,M b=some o->w.heap[b]? = some o) (hv:VL (VI M) ivs vs) :
  Calls C.P f vs w fun e w'=>∃ cv Q' M' ρ',e = .returned cv/\WS (QN w) w w'/\M.le M'/\MQ (QN w) M M'/\Inv Q' w' M' ρ' G nx/\(∀ b,Q' b->w.heap.size<=b)/\VA M' ρ' G v cv:=by
 unfold run at h
 simp only [Option.map_eq_some_iff] at h
 obtain ⟨⟨res,pk'⟩,hcall,hres⟩:=h
 simp only at hres
 subst hres
 intro cs
 obtain ⟨_,hk⟩:=(low_ok hC n).1 _ _ _ _ _ _ _ hcall
 obtain ⟨Q',w',M',ρ',t,i, -,p,fr,cv,fn,st,h1,h2,h3,h4,h5,h6,h7⟩:=hk (QN w) w M (fun _=>none) vs .normal cs (Inv.empty hm) (VL_imms hv) ⟨rfl,rfl⟩
 have hp:pk' = .no:=p.no_of rfl rfl
 subst hp
 exact ⟨.returned cv,w',fr,⟨cv,Q',M',ρ',rfl,t.ws,t.ev.mem,t.mq,i,t.sub,h7⟩,st,h4,h1,h2,h3,fn,by rw [h4];exact h5,h6⟩
theorem WS.below (h:WS (QN w) w w'):Go.RowKit.Below w.heap.size w w':=⟨h.os,h.tape,h.output,h.size,fun k hk=>h.block k (by simp only [QN];omega)⟩
theorem run_bool (hC:CfgOK C) {n:Nat} {f:FuncId} {ivs:List IV} {b:Bool} (h:run C n f ivs=some (.ret (.imm (.bool b)) G nx)) {vs:Array Value} (hm:∀ b o,M b=some o->w.heap[b]? = some o) (hv:VL (VI M) ivs vs) :
  Calls C.P f vs w fun e w'=>e = .returned (.bool b)/\Go.RowKit.Below w.heap.size w w':=
 (run_ok hC h hm hv).mono fun e w' ⟨cv,Q',M',ρ',he,hws,_,_,_,_,hva⟩=>by
  have:=hva.bool_inv
  subst this
  exact ⟨he,hws.below⟩
end Go.Abs

/-
  DERIVED: THE SHELF's CONTRACTS AT THIS DUMP, IN PLAIN WORDS (tools/lay-plain.mjs out of 'TrySh0.lean', which tools/lay-shelf.mjs wrote): THE SAME DECLARATIONS UNDER THE SAME NAMES: 'import', 'namespace', 'open', 'def', 'theorem' AND NOTHING ELSE: no command of the shelf's: FOR A HAND-IN. Each laying: the table of numbers ('.._ren') and one theorem, a field a fact of the dump's own or the kernel's comparison; each contract: ONE APPLICATION.
-/
namespace Go.Proofs
open Go.Shelf
def Tryz.laysNm216_ren : Go.Shelf.Ren := ⟨fun | 16 => 50 | n => n, fun | 24 => 22 | 9 => 9 | 4 => 4 | n => n, fun | n => n⟩
theorem Tryz.laysNm216 : Go.Proofs.Lays2.n16 Tryz.prog Tryz.laysNm216_ren := {
  mixed := by kernel_rfl
  f16 := Tryz.func50.trans (congrArg some (by kernel_rfl))
  t4 := Tryz.underlying4
  a4 := Tryz.isAgg4
  z4 := Tryz.sizeOf4
  v4 := Tryz.zeroValue4
  t9 := Tryz.underlying9
  a9 := Tryz.isAgg9
  z9 := Tryz.sizeOf9
  v9 := Tryz.zeroValue9
  t24 := Tryz.underlying22
  a24 := Tryz.isAgg22
  z24 := Tryz.sizeOf22
  v24 := Tryz.zeroValue22
  i9 := by kernel_rfl }
def Tryz.laysNm215_ren : Go.Shelf.Ren := ⟨fun | 15 => 205 | n => n, fun | 22 => 44 | 3 => 3 | 4 => 4 | n => n, fun | n => n⟩
theorem Tryz.laysNm215 : Go.Proofs.Lays2.n15 Tryz.prog Tryz.laysNm215_ren := {
  mixed := by kernel_rfl
  f15 := Tryz.func205.trans (congrArg some (by kernel_rfl))
  t3 := Tryz.underlying3
  a3 := Tryz.isAgg3
  z3 := Tryz.sizeOf3
  v3 := Tryz.zeroValue3
  t4 := Tryz.underlying4
  a4 := Tryz.isAgg4
  z4 := Tryz.sizeOf4
  v4 := Tryz.zeroValue4
  t22 := Tryz.underlying44
  a22 := Tryz.isAgg44
  z22 := Tryz.sizeOf44
  v22 := Tryz.zeroValue44
  i3 := by kernel_rfl }
def Tryz.lays189_ren : Go.Shelf.Ren := ⟨fun | 189 => 130 | 125 => 174 | 257 => 173 | 128 => 201 | 129 => 202 | 294 => 192 | 295 => 193 | 296 => 194 | 297 => 195 | 298 => 196 | 299 => 197 | 216 => 198 | 300 => 199 | 301 => 200 | 328 => 214 | 329 => 215 | 330 => 216 | 331 => 217 | 332 => 218 | 215 => 219 | 343 => 225 | n => n, fun | 28 => 44 | 3 => 3 | 46 => 240 | 0 => 0 | 51 => 258 | 53 => 260 | 4 => 4 | 183 => 251 | 182 => 250 | 131 => 225 | 5 => 5 | 9 => 9 | 218 => 270 | 222 => 274 | 228 => 280 | 229 => 281 | n => n, fun | n => n⟩
theorem Tryz.lays189 : Go.Proofs.Lays.n189 Tryz.prog Tryz.lays189_ren := {
  mixed := by kernel_rfl
  f125 := Tryz.func174.trans (congrArg some (by kernel_rfl))
  f128 := Tryz.func201.trans (congrArg some (by kernel_rfl))
  f129 := Tryz.func202.trans (congrArg some (by kernel_rfl))
  f189 := Tryz.func130.trans (congrArg some (by kernel_rfl))
  f215 := Tryz.func219.trans (congrArg some (by kernel_rfl))
  f216 := Tryz.func198.trans (congrArg some (by kernel_rfl))
  f257 := Tryz.func173.trans (congrArg some (by kernel_rfl))
  f294 := Tryz.func192.trans (congrArg some (by kernel_rfl))
  f295 := Tryz.func193.trans (congrArg some (by kernel_rfl))
  f296 := Tryz.func194.trans (congrArg some (by kernel_rfl))
  f297 := Tryz.func195.trans (congrArg some (by kernel_rfl))
  f298 := Tryz.func196.trans (congrArg some (by kernel_rfl))
  f299 := Tryz.func197.trans (congrArg some (by kernel_rfl))
  f300 := Tryz.func199.trans (congrArg some (by kernel_rfl))
  f301 := Tryz.func200.trans (congrArg some (by kernel_rfl))
  f328 := Tryz.func214.trans (congrArg some (by kernel_rfl))
  f329 := Tryz.func215.trans (congrArg some (by kernel_rfl))
  f330 := Tryz.func216.trans (congrArg some (by kernel_rfl))
  f331 := Tryz.func217.trans (congrArg some (by kernel_rfl))
  f332 := Tryz.func218.trans (congrArg some (by kernel_rfl))
  f343 := Tryz.func225.trans (congrArg some (by kernel_rfl))
  t0 := Tryz.underlying0
  a0 := Tryz.isAgg0
  z0 := Tryz.sizeOf0
  v0 := Tryz.zeroValue0
  t3 := Tryz.underlying3
  a3 := Tryz.isAgg3
  z3 := Tryz.sizeOf3
  v3 := Tryz.zeroValue3
  t4 := Tryz.underlying4
  a4 := Tryz.isAgg4
  z4 := Tryz.sizeOf4
  v4 := Tryz.zeroValue4
  t5 := Tryz.underlying5
  a5 := Tryz.isAgg5
  z5 := Tryz.sizeOf5
  v5 := Tryz.zeroValue5
  t9 := Tryz.underlying9
  a9 := Tryz.isAgg9
  z9 := Tryz.sizeOf9
  v9 := Tryz.zeroValue9
  t28 := Tryz.underlying44
  a28 := Tryz.isAgg44
  z28 := Tryz.sizeOf44
  v28 := Tryz.zeroValue44
  t46 := Tryz.underlying240
  a46 := Tryz.isAgg240
  z46 := Tryz.sizeOf240
  v46 := Tryz.zeroValue240
  t51 := Tryz.underlying258
  a51 := Tryz.isAgg258
  z51 := Tryz.sizeOf258
  v51 := Tryz.zeroValue258
  t53 := Tryz.underlying260
  a53 := Tryz.isAgg260
  z53 := Tryz.sizeOf260
  v53 := Tryz.zeroValue260
  t131 := Tryz.underlying225
  a131 := Tryz.isAgg225
  z131 := Tryz.sizeOf225
  v131 := Tryz.zeroValue225
  t182 := Tryz.underlying250
  a182 := Tryz.isAgg250
  z182 := Tryz.sizeOf250
  v182 := Tryz.zeroValue250
  t183 := Tryz.underlying251
  a183 := Tryz.isAgg251
  z183 := Tryz.sizeOf251
  v183 := Tryz.zeroValue251
  t218 := Tryz.underlying270
  a218 := Tryz.isAgg270
  z218 := Tryz.sizeOf270
  v218 := Tryz.zeroValue270
  t222 := Tryz.underlying274
  a222 := Tryz.isAgg274
  z222 := Tryz.sizeOf274
  v222 := Tryz.zeroValue274
  t228 := Tryz.underlying280
  a228 := Tryz.isAgg280
  z228 := Tryz.sizeOf280
  v228 := Tryz.zeroValue280
  t229 := Tryz.underlying281
  a229 := Tryz.isAgg281
  z229 := Tryz.sizeOf281
  v229 := Tryz.zeroValue281 }
end Go.Proofs

/- The contract of slices.Clone, at strings. -/
open Go Go.Abs Go.RowKit
namespace Go.Abs
theorem ws_of_below {w w':World} (h:Below w.heap.size w w'):WS (QN w) w w':=⟨h.os,h.tape,h.output,h.size,fun k hk=>h.block k (by simp only [QN] at hk;omega)⟩
theorem mem_below {w w':World} {M:Mem} (hm:∀ b o,M b=some o->w.heap[b]? = some o) (h:Below w.heap.size w w'):∀ b o,M b=some o->w'.heap[b]? = some o:=fun b o hb=>by
 have:=hm b o hb
 rw [h.block b (Array.getElem?_eq_some_iff.1 this).1];exact this
theorem orc_own {w w':World} {M:Mem} {et:TypeId} {xs:List IV} {v:Value} {cs:List Value} (hm:∀ b o,M b=some o->w.heap[b]? = some o) (hB:Below w.heap.size w w') (ho:w'.ownsRow w.heap.size et 1 v xs.length cs)
  (h1:∀ x∈xs,IV.cells x=[x]/\(AV.imm x).fits 1=true) (hc:∀ (i:Nat) x,xs[i]? = some x->VI M x (cs.getD i Go.undef)):∃ cv,Ending.returned v = .returned cv/\WS (QN w) w w'/\OrcEnd w M cv w' (.own et 1 xs):=by
 refine ⟨v,rfl,ws_of_below hB,M,cs,Mem.le_refl M,MQ.refl _ _,mem_below hm hB,by decide,ownsRow_base ho,fun b hb=>?_,fun x hx=>(h1 x hx).2,fun i x j y hx hy=>?_⟩
 ·rcases ho.2 with ⟨rfl,_⟩|⟨g,cap,cur,rfl,hg,_⟩
  ·cases hb
  ·simp [blk] at hb
   subst hb
   refine ⟨?_,hg⟩
   cases e:M g with
   |none=>rfl
   |some o=>have:=(Array.getElem?_eq_some_iff.1 (hm g o e)).1;omega
 ·have hm':=(h1 x (List.mem_of_getElem? hx)).1
  rw [hm'] at hy
  match j,hy with
  |0,hy=>
   simp at hy;subst hy
   simpa using hc i _ hx
  |j+1,hy=>simp at hy
theorem str_all {xs:List IV} (h:xs.all isStrIV=true):∃ zs:List ByteArray,xs=zs.map .str:=by
 induction xs with
 |nil=>exact ⟨[],rfl⟩
 |cons x r ih=>
  rw [List.all_cons,Bool.and_eq_true] at h
  obtain ⟨zs,rfl⟩:=ih h.2
  cases x<;>simp [isStrIV] at h
  exact ⟨_::zs,rfl⟩
theorem VI_str {M:Mem} {s:ByteArray} {v:Value} (h:VI M (.str s) v):v = .string s:=by cases h;rfl
theorem VI_int {M:Mem} {k:IntKind} {n:Int} {v:Value} (h:VI M (.int k n) v):v = .int k n:=by cases h;rfl
theorem one_arg {M:Mem} {x:IV} {vs:Array Value} (h:VL (VI M) [x] vs):∃ v,vs = #[v]/\VI M x v:=⟨_,arr1 (by have:=h.1;simpa using this.symm),h.2 0 x rfl⟩
theorem orc56 {xs:List IV} (hs:xs.all isStrIV=true) (hl:xs.length<=4294967296) {M:Mem} {w:World} {vs:Array Value} (hm:∀ b o,M b=some o->w.heap[b]? = some o) (hv:VL (VI M) [.lst xs] vs) :
  Calls Go.Proofs.Tryz.prog 50 vs w fun e w'=>∃ cv,e = .returned cv/\WS (QN w) w w'/\OrcEnd w M cv w' (.own 9 1 xs):=by
 obtain ⟨v,rfl,hx⟩:=one_arg hv
 obtain ⟨zs,rfl⟩:=str_all hs
 have hfit:∀ x∈zs.map IV.str,IV.cells x=[x]/\(AV.imm x).fits 1=true:=by
  intro x hx
  obtain ⟨z,_,rfl⟩:=List.mem_map.1 hx
  exact ⟨rfl,rfl⟩
 have own0:∀ (w':World),w'.ownsRow w.heap.size 9 1 (.slice none 0 0) 0 []:=fun w'=>⟨rfl, .inl ⟨rfl,rfl⟩⟩
 generalize hxs:zs.map IV.str=xs at hx hfit
 cases hx with
 |nil=>
  refine (Go.Proofs.Any.slices_Clone_string_nil Go.Proofs.Tryz.laysNm216 0 0 w).mono fun e w' ⟨he,hw⟩=>?_
  subst he;subst hw
  exact orc_own hm (Below.refl _ _) (own0 _) (by simp) (fun i x h=>by simp at h)
 |empty a c=>
  refine (Go.Proofs.Any.slices_Clone_string_zero Go.Proofs.Tryz.laysNm216 a c w).mono fun e w' ⟨v',he,ho,_,hB⟩=>?_
  subst he
  exact orc_own hm hB ho (by simp) (fun i x h=>by simp at h)
 |lst _ b off c cs e fr sz h0 hc hM hsz h1 h2 hcell=>
  subst hxs
  have hb:=hm _ _ hM
  have hsz1:sz=1:=by
   cases zs with
   |nil=>simp at h0
   |cons z r=>have:=h1 0 (.str z) rfl;simpa [IV.cells] using this.symm
  subst hsz1
  have hstr:∀ (i:Nat) z,zs[i]? = some z->at_ cs (off+i) = .string z:=by
   intro i z hz
   have:=hcell i (.str z) 0 (.str z) (by simp [hz]) rfl
   simp only [Nat.mul_one,Nat.add_zero] at this
   exact VI_str this
  have key:=Go.Proofs.Any.slices_Clone_string Go.Proofs.Tryz.laysNm216 b off zs.length c zs w (Nat.le_refl _) (by simp at hl;omega) (fun j hj=>by
   have hz:zs[j]? = some zs[j]:=by simp [hj]
   have h3:=hstr j _ hz
   simp only [World.cell?,hb]
   have hlt:off+j < cs.size:=by simp at h2;omega
   simp only [Option.isSome_none,Bool.false_eq_true,if_false,hlt,Array.getElem?_eq_getElem]
   simp only [at_,Array.getD_eq_getD_getElem?,hlt,Array.getElem?_eq_getElem,Option.getD_some] at h3
   rw [h3]
   simp [hj])
  rw [List.length_map]
  refine key.mono fun e w' ⟨v',he,ho,_,hB⟩=>?_
  subst he
  rw [List.take_length] at ho
  refine orc_own (xs:=zs.map IV.str) hm hB (by rw [List.length_map];exact ho) hfit (fun i x h=>?_)
  rw [List.getElem?_map,Option.map_eq_some_iff] at h
  obtain ⟨z,hz,rfl⟩:=h
  have:(zs.map Value.string).getD i Go.undef = .string z:=by simp [hz]
  rw [this]
  exact .str z
theorem intIV_all {xs:List IV} (h:xs.all isIntIV=true):∃ zs:List Int,xs=zs.map (IV.int .i64):=by
 induction xs with
 |nil=>exact ⟨[],rfl⟩
 |cons x r ih=>
  rw [List.all_cons,Bool.and_eq_true] at h
  obtain ⟨zs,rfl⟩:=ih h.2
  cases x<;>simp [isIntIV] at h
  rename_i k n
  cases k<;>simp [isIntIV] at h
  exact ⟨n::zs,rfl⟩
theorem orc505 {xs:List IV} (hs:xs.all isIntIV=true) (hl:xs.length<=4294967296) {M:Mem} {w:World} {vs:Array Value} (hm:∀ b o,M b=some o->w.heap[b]? = some o) (hv:VL (VI M) [.lst xs] vs) :
  Calls Go.Proofs.Tryz.prog 205 vs w fun e w'=>∃ cv,e = .returned cv/\WS (QN w) w w'/\OrcEnd w M cv w' (.own 3 1 xs):=by
 obtain ⟨v,rfl,hx⟩:=one_arg hv
 obtain ⟨zs,rfl⟩:=intIV_all hs
 have hfit:∀ x∈zs.map (IV.int .i64),IV.cells x=[x]/\(AV.imm x).fits 1=true:=by
  intro x hx
  obtain ⟨z,_,rfl⟩:=List.mem_map.1 hx
  exact ⟨rfl,rfl⟩
 have own0:∀ (w':World),w'.ownsRow w.heap.size 3 1 (.slice none 0 0) 0 []:=fun w'=>⟨rfl, .inl ⟨rfl,rfl⟩⟩
 generalize hxs:zs.map (IV.int .i64)=xs at hx hfit
 cases hx with
 |nil=>
  refine (Go.Proofs.Any.slices_Clone_int_nil Go.Proofs.Tryz.laysNm215 0 0 w).mono fun e w' ⟨he,hw⟩=>?_
  subst he;subst hw
  exact orc_own hm (Below.refl _ _) (own0 _) (by simp) (fun i x h=>by simp at h)
 |empty a c=>
  refine (Go.Proofs.Any.slices_Clone_int_zero Go.Proofs.Tryz.laysNm215 a c w).mono fun e w' ⟨v',he,ho,_,hB⟩=>?_
  subst he
  exact orc_own hm hB ho (by simp) (fun i x h=>by simp at h)
 |lst _ b off c cs e fr sz h0 hc hM hsz h1 h2 hcell=>
  subst hxs
  have hb:=hm _ _ hM
  have hsz1:sz=1:=by
   cases zs with
   |nil=>simp at h0
   |cons z r=>have:=h1 0 (.int .i64 z) rfl;simpa [IV.cells] using this.symm
  subst hsz1
  have hint:∀ (i:Nat) z,zs[i]? = some z->at_ cs (off+i) = .int .i64 z:=by
   intro i z hz
   have:=hcell i (.int .i64 z) 0 (.int .i64 z) (by simp [hz]) rfl
   simp only [Nat.mul_one,Nat.add_zero] at this
   exact VI_int this
  have key:=Go.Proofs.Any.slices_Clone_int Go.Proofs.Tryz.laysNm215 b off zs.length c zs w (Nat.le_refl _) (by simp at hl;omega) (fun j hj=>by
   have hz:zs[j]? = some zs[j]:=by simp [hj]
   have h3:=hint j _ hz
   simp only [World.cell?,hb]
   have hlt:off+j < cs.size:=by simp at h2;omega
   simp only [Option.isSome_none,Bool.false_eq_true,if_false,hlt,Array.getElem?_eq_getElem]
   simp only [at_,Array.getD_eq_getD_getElem?,hlt,Array.getElem?_eq_getElem,Option.getD_some] at h3
   rw [h3]
   simp [hj])
  rw [List.length_map]
  refine key.mono fun e w' ⟨v',he,ho,_,hB⟩=>?_
  subst he
  rw [List.take_length] at ho
  refine orc_own (xs:=zs.map (IV.int .i64)) hm hB (by rw [List.length_map];exact ho) hfit (fun i x h=>?_)
  rw [List.getElem?_map,Option.map_eq_some_iff] at h
  obtain ⟨z,hz,rfl⟩:=h
  have:(zs.map (Value.int .i64)).getD i Go.undef = .int .i64 z:=by simp [hz]
  rw [this]
  exact .int _ z
end Go.Abs

/- The contract of sorted: a map's keys, sorted. -/
open Go Go.Abs Go.RowKit Go.Sort
namespace Go.Abs
def keyInt (e:MapEntry):Int:=match e.key with
 | .int _ n=>n
 |_=>0
theorem perm_filter {l:List MapEntry} (hn:(l.map (·.born)).Nodup) (p:MapEntry->Bool) {e:MapEntry} (he:e∈l) (hp:p e=true):(l.filter p).Perm (e::l.filter fun x=>p x && !(x.born==e.born)):=by
 induction l with
 |nil=>simp at he
 |cons x r ih=>
  rw [List.map_cons,List.nodup_cons] at hn
  rcases List.mem_cons.1 he with rfl|hr
  ·have h0:r.filter (fun x=>p x && !(x.born==e.born))=r.filter p:=by
    refine List.filter_congr fun y hy=>?_
    have:y.born≠e.born:=fun h=>hn.1 (h▸List.mem_map.2 ⟨y,hy,rfl⟩)
    have:(y.born==e.born)=false:=by simpa using this
    rw [this];simp
   rw [List.filter_cons,if_pos hp,List.filter_cons,h0]
   simp
  ·have hne:(x.born==e.born)=false:=by
    have:x.born≠e.born:=fun h=>hn.1 (h▸List.mem_map.2 ⟨e,hr,rfl⟩)
    simpa using this
   have:=ih hn.2 hr
   rw [List.filter_cons,List.filter_cons,hne]
   cases p x with
   |true=>exact (this.cons x).trans (.swap _ _ _)
   |false=>simpa using this
theorem left_list (es:Array MapEntry) (seen:Array Nat):(leftOf es seen).toList=es.toList.filter fun x => !seen.contains x.born:=by simp [leftOf]
theorem left_step {es:Array MapEntry} {seen:Array Nat} {e:MapEntry} (hn:(es.toList.map (·.born)).Nodup) (he:e∈(leftOf es seen).toList):(leftOf es seen).toList.Perm (e::(leftOf es (seen.push e.born)).toList):=by
 have hm:=mem_left he
 have h1:=perm_filter hn (fun x => !seen.contains x.born) hm.1 (by simpa using hm.2)
 rw [left_list,left_list]
 refine h1.trans (List.Perm.of_eq ?_)
 congr 1
 refine List.filter_congr fun x _=>?_
 rw [Array.contains_push]
 cases seen.contains x.born<;>simp
theorem cell_new (w:World) (v:Value) (t:TypeId):∀ (j:Nat) u,[v][j]? = some u->(w.alloc (.cells #[v] t)).cell? ((⟨w.heap.size,0,none⟩:Addr).add j)=some u:=by
 intro j u h
 match j,h with
 |0,h=>
  simp at h;subst h
  have h0:(⟨w.heap.size,0,none⟩:Addr).add 0=⟨w.heap.size,0,none⟩:=by simp [Addr.add]
  rw [h0]
  simp only [World.cell?,heap_alloc_new]
  rfl
 |j+1,h=>simp at h
set_option maxRecDepth 100000 in
set_option maxHeartbeats 1000000 in
theorem walk48 (bm:Nat) (es:Array MapEntry) (clk:Nat) (w:World) (hb:w.heap[bm]? = some (.map es clk)) (hbn:Born es clk) (hk:∀ x∈es.toList,x.key = .int .i64 (keyInt x)) (hsz:es.size<=4294967296) :
  Calls Go.Proofs.Tryz.prog 69 #[.map (some bm)] w fun e w'=>∃ (v:Value) (zs:List Int),e = .returned v/\zs.Perm (es.toList.map keyInt)/\w'.ownsRow w.heap.size 3 1 v zs.length ((zs.mergeSort fun x y=>decide (x<=y)).map (Value.int .i64))/\Below w.heap.size w w':=by
 have hrg:=run_range_map (P:=Go.Proofs.Tryz.prog) w 116 3 4 bm es clk Go.Proofs.Tryz.underlying116 hb
 have hbl:bm < w.heap.size:=(Array.getElem?_eq_some_iff.1 hb).1
 obtain ⟨i0,hi,hz0,hz1,hz2⟩:=info_parts (show (Go.Proofs.Tryz.prog.info? 3).map (fun i=>(i.zero,i.size,i.bytes))=some (some (.int .i64 0),1,8) by kernel_rfl)
 go_enter Go.Proofs.Tryz.func69,Go.Proofs.Tryz.ntmps69
 go_wp2
 go_loopw [3] (fun v wr=>∃ (seen:Array Nat) (ss:List Int),wr.heap[w.heap.size]? = some (.mapIter (some bm) clk seen clk)/\wr.heap[bm]? = some (.map es clk)/\wr.ownsRow w.heap.size 3 1 v ss.length (ss.map (Value.int .i64)) /\
   (ss++(leftOf es seen).toList.map keyInt).Perm (es.toList.map keyInt)/\Below w.heap.size w wr) (fun _ wr=>(leftOf es (wr.iterSeen w.heap.size)).size)
 case atStart=>
  refine ⟨#[],[],heap_alloc_new w _,?_,⟨rfl, .inl ⟨rfl,rfl⟩⟩,?_,(Below.refl _ _).alloc (Nat.le_refl _) _⟩
  ·rw [heap_alloc_old w _ hbl];exact hb
  ·have:(leftOf es #[]).toList=es.toList:=by rw [left_list];exact List.filter_eq_self.2 (by simp)
   rw [this];simp
 case round=>
  obtain ⟨seen,ss,hit,hmap,hrow,hperm,hbel⟩:=hrel
  have hle:ss.length<=es.size:=by
   have:=hperm.length_eq
   simp at this
   omega
  rcases run_next_at (P:=Go.Proofs.Tryz.prog) wr 0 w.heap.size bm clk clk seen es clk hit hmap hbn.1 (Nat.le_refl _) with ⟨h0,hrun⟩|⟨e,he,w1,hw1,hrun⟩
  ·have hnx:∀ ty,(Instr.next (.pointer (some ⟨w.heap.size,0,none⟩)) false ty).run Go.Proofs.Tryz.prog wr=_:=fun _=>hrun
   have hp:ss.Perm (es.toList.map keyInt):=by
    have:(leftOf es seen) = #[]:=Array.eq_empty_of_size_eq_zero h0
    rw [this] at hperm
    simpa using hperm
   rcases hrow.2 with ⟨hnil,hlen⟩|⟨g,cap,cur,hv,hbase,hbk,h1,h2,h3,h4⟩
   ·subst hnil
    obtain rfl:ss=[]:=List.eq_nil_of_length_eq_zero hlen
    have hc:Calls Go.Proofs.Tryz.prog 130 #[.slice none 0 0] wr fun e w'=>e = .returned (.tuple #[])/\w'=wr:=Go.Proofs.Any.slices_Sort_int_none Go.Proofs.Tryz.lays189 none 0 wr
    go_wp2_with (go_at_call 130;refine hc.mono ?_;rintro e w' ⟨rfl,rfl⟩)
    go_ret
    exact ⟨_,[],rfl,hp,(by rw [List.mergeSort_nil];exact hrow),hbel⟩
   ·subst hv
    have hH:Holds (Value.int .i64) wr g 0 ss.toArray:=holds_of_blockI hbk (by simpa using h4)
    have hc:Calls Go.Proofs.Tryz.prog 130 #[.slice (some ⟨g,0,none⟩) ss.length cap] wr fun e w'=>e = .returned (.tuple #[])/\∃ n os,w'=grow (putRow (Value.int .i64) (Sort.ahead wr n) g 0 (ss.mergeSort fun x y=>decide (x<=y)).toArray) os:=
     Go.Proofs.Any.slices_Sort_int Go.Proofs.Tryz.lays189 g 0 cap ss wr hH (Array.getElem?_eq_some_iff.1 hbk).1 (by omega)
    go_wp2_with (go_at_call 130;refine hc.mono ?_;rintro e w' ⟨rfl,nn,os,rfl⟩)
    go_ret
    exact ⟨_,ss,rfl,hp,ownsRow_sortedI (by simp) hbase hbk h1 h2 h3,hbel.grown (grownBy_sortedI _) hbel.size (fun j hj=>by cases hj;exact hbase)⟩
  ·have hm:=mem_left he
   rw [hk e hm.1] at hrun
   have hheap:w1.heap=wr.heap:=by rcases hw1 with rfl|rfl<;>rfl
   have hrl:w.heap.size < wr.heap.size:=(Array.getElem?_eq_some_iff.1 hit).1
   have hit2:(ChangeMaps.setBlock w1 w.heap.size (.mapIter (some bm) clk (seen.push e.born) clk)).heap[w.heap.size]? = some (.mapIter (some bm) clk (seen.push e.born) clk):=by
    simp [ChangeMaps.setBlock,hheap,hrl]
   have hmap2:(ChangeMaps.setBlock w1 w.heap.size (.mapIter (some bm) clk (seen.push e.born) clk)).heap[bm]? = some (.map es clk):=by
    simp only [ChangeMaps.setBlock,hheap,Array.getElem?_setIfInBounds]
    rw [if_neg (by omega)];exact hmap
   have hg2:wr.grownBy (ChangeMaps.setBlock w1 w.heap.size (.mapIter (some bm) clk (seen.push e.born) clk)) (some w.heap.size):=by
    refine ⟨?_,?_,?_,?_,fun k hk hne=>?_⟩
    ·rcases hw1 with rfl|rfl<;>rfl
    ·rcases hw1 with rfl|rfl<;>rfl
    ·rcases hw1 with rfl|rfl<;>rfl
    ·simp [ChangeMaps.setBlock,hheap]
    ·simp only [ChangeMaps.setBlock,hheap,Array.getElem?_setIfInBounds]
     rw [if_neg (fun e=>hne (by rw [e]))]
   have hen:=run_entry_at (P:=Go.Proofs.Tryz.prog) _ w.heap.size bm clk seen es clk e hit2 hmap2 hm.1 hbn.2
   rw [hk e hm.1] at hen
   have hs2:(ChangeMaps.setBlock w1 w.heap.size (.mapIter (some bm) clk (seen.push e.born) clk)).heap.size=wr.heap.size:=by simp [ChangeMaps.setBlock,hheap]
   generalize ChangeMaps.setBlock w1 w.heap.size (.mapIter (some bm) clk (seen.push e.born) clk)=w2 at hrun hit2 hmap2 hg2 hen hs2
   have hnx:∀ ty,(Instr.next (.pointer (some ⟨w.heap.size,0,none⟩)) false ty).run Go.Proofs.Tryz.prog wr=_:=fun _=>hrun
   have hown:Value.ownBlock u3≠some w.heap.size:=by
    rcases hrow.2 with ⟨h1,_⟩|⟨g,cap,cur,h1,_,h2,_⟩
    ·rw [h1];simp [Value.ownBlock]
    ·rw [h1]
     simp only [Value.ownBlock]
     intro e
     cases e
     rw [hit] at h2;cases h2
   have hrow2:=hrow.kept hg2 (.inr hown)
   have hle2:ss.length < es.size:=by
    have:=hperm.length_eq
    have h3:=List.length_pos_of_mem he
    simp at this h3
    omega
   have hsz2:w.heap.size<=w2.heap.size:=by omega
   clear hs2
   go_wp2_with (at_builtin;go_loud (refine wpList_append_own _ rfl _ _ 44 rfl w.heap.size 3 i0 (.int .i64 0) 1 8 Go.Proofs.Tryz.underlying44 hi hz0 hz1 hz2 rfl (by decide) _ _ _ rfl (hrow2.alloc _) ⟨w2.heap.size,0,none⟩ 1 1 [.int .i64 (keyInt e)] rfl rfl (cell_new _ _ _) (by simp [Value.oneCell']) (by unfold maxLen;omega) (by omega) (by simp;omega) ?_);intro v' w3 hown' hg3 hnil3)
   have hg3':(w2.alloc (.cells #[.int .i64 (keyInt e)] 3)).grownBy w3 u3.ownBlock:=hg3
   clear hg3
   have hb3:∀ k,k < w2.heap.size->(k=w.heap.size\/k=bm)->w3.heap[k]? = w2.heap[k]? := by
    intro k hk hor
    rw [hg3'.block k (by simp;omega) (fun e=>?_),heap_alloc_old w2 _ hk]
    rcases hrow.2 with ⟨h1,_⟩|⟨g,cap,cur,h1,h2,_⟩
    ·rw [h1] at e;simp [Value.ownBlock] at e
    ·rcases hor with rfl|rfl
     ·exact hown e.symm
     ·rw [h1] at e;simp only [Value.ownBlock,Option.some.injEq] at e;omega
   have hit3:w3.heap[w.heap.size]? = some (.mapIter (some bm) clk (seen.push e.born) clk):=by rw [hb3 _ (Array.getElem?_eq_some_iff.1 hit2).1 (.inl rfl)];exact hit2
   have hmap3:w3.heap[bm]? = some (.map es clk):=by rw [hb3 _ (Array.getElem?_eq_some_iff.1 hmap2).1 (.inr rfl)];exact hmap2
   go_roundw
   case rel=>
    refine ⟨seen.push e.born,ss++[keyInt e],hit3,hmap3,by simpa using hown',?_,?_⟩
    ·refine List.Perm.trans ?_ hperm
     rw [List.append_assoc]
     refine List.Perm.append_left ss ?_
     exact ((left_step hbn.2 he).map keyInt).symm
    ·refine ((hbel.grown hg2 hbel.size (fun j hj=>by cases hj;exact Nat.le_refl _)).alloc hsz2 _).grown hg3' (by simp;omega) (fun j hj=>?_)
     rcases hrow.2 with ⟨h1,_⟩|⟨g,cap,cur,h1,h2,_⟩
     ·rw [h1] at hj;simp [Value.ownBlock] at hj
     ·rw [h1] at hj;simp only [Value.ownBlock,Option.some.injEq] at hj;omega
   case measure=>
    have e1:w3.iterSeen w.heap.size=seen.push e.born:=by simp [World.iterSeen,hit3]
    have e2:wr.iterSeen w.heap.size=seen:=by simp [World.iterSeen,hit]
    rw [e1,e2]
    exact left_shrinks es seen e he
/-! the two sorts are one -/
theorem ins_perm (x:Int):∀ l,(ins x l).Perm (x::l)
 |[] => .refl _
 |y::r=>by
  unfold ins
  split
  ·exact .refl _
  ·exact ((ins_perm x r).cons y).trans (.swap _ _ _)
theorem isort_perm:∀ l,(isort l).Perm l
 |[] => .refl _
 |x::r=>(ins_perm x _).trans ((isort_perm r).cons x)
theorem ins_sorted (x:Int):∀ l:List Int,l.Pairwise (· <= ·)->(ins x l).Pairwise (· <= ·)
 |[],_=>by simp [ins]
 |y::r,h=>by
  unfold ins
  have h':=List.pairwise_cons.1 h
  split
  ·rename_i hle
   refine List.pairwise_cons.2 ⟨fun z hz=>?_,h⟩
   rcases List.mem_cons.1 hz with rfl|hz
   ·exact hle
   ·have:=h'.1 z hz;omega
  ·rename_i hle
   refine List.pairwise_cons.2 ⟨fun z hz=>?_,ins_sorted x r h'.2⟩
   rcases List.mem_cons.1 ((ins_perm x r).mem_iff.1 hz) with rfl|hz
   ·omega
   ·exact h'.1 z hz
theorem isort_sorted:∀ l:List Int,(isort l).Pairwise (· <= ·)
 |[] => .nil
 |x::r=>ins_sorted x _ (isort_sorted r)
theorem sorts_eq {zs ks:List Int} (h:zs.Perm ks):(zs.mergeSort fun x y=>decide (x<=y))=isort ks:=by
 have h1:=List.pairwise_mergeSort (le:=fun x y:Int=>decide (x<=y)) (fun a b c h1 h2=>by simp at *;omega) (fun a b=>by simp;omega) zs
 refine List.Perm.eq_of_pairwise (le:=fun a b:Int=>a<=b) (fun a b _ _ h1 h2=>by omega) (h1.imp fun h=>by simpa using h) (isort_sorted ks) ?_
 exact (List.mergeSort_perm zs _).trans (h.trans (isort_perm ks).symm)
theorem int_all {ks:List IV} (h:ks.all isIntIV=true):ks=(ints ks).map (.int .i64):=by
 induction ks with
 |nil=>rfl
 |cons x r ih=>
  rw [List.all_cons,Bool.and_eq_true] at h
  have hr:=ih h.2
  cases x with
  |int k n=>
   cases k<;>simp [isIntIV] at h
   simp only [ints,List.map_cons]
   rw [<-hr]
  |_=>simp [isIntIV] at h
theorem ints_len:∀ {ks:List IV},ks.all isIntIV=true->(ints ks).length=ks.length:=by
 intro ks h
 have:=congrArg List.length (int_all h)
 simpa using this.symm
theorem orc48 {ks us:List IV} (hs:ks.all isIntIV=true) (hl:ks.length<=4294967296) {M:Mem} {w:World} {vs:Array Value} (hm:∀ b o,M b=some o->w.heap[b]? = some o) (hv:VL (VI M) [.fmp ks us] vs) :
  Calls Go.Proofs.Tryz.prog 69 vs w fun e w'=>∃ cv,e = .returned cv/\WS (QN w) w w'/\OrcEnd w M cv w' (.own 3 1 ((isort (ints ks)).map (.int .i64))):=by
 obtain ⟨v,rfl,hx⟩:=one_arg hv
 have hfit:∀ x∈(isort (ints ks)).map (IV.int .i64),IV.cells x=[x]/\(AV.imm x).fits 1=true:=by
  intro x hx
  obtain ⟨z,_,rfl⟩:=List.mem_map.1 hx
  exact ⟨rfl,rfl⟩
 cases hx with
 |fmp _ _ b es clk hM hk hv hks hvs hbn=>
  have hkeys:∀ (i:Nat) (h:i < es.size),es[i].key = .int .i64 ((ints ks).getD i 0):=by
   intro i h
   have h1:ks[i]? = some (.int .i64 ((ints ks).getD i 0)):=by
    have h2:=int_all hs
    have h3:i < (ints ks).length:=by rw [ints_len hs];omega
    have h4:(ints ks)[i]? = some ((ints ks).getD i 0):=by rw [List.getD_eq_getElem?_getD,List.getElem?_eq_getElem h3];rfl
    have h6:=congrArg (fun l=>l[i]?) h2
    simp only [List.getElem?_map,h4,Option.map_some] at h6
    exact h6
   have h5:=VI_int (hks i _ h1)
   rwa [getD_entry es i h] at h5
  have hkey:∀ x∈es.toList,x.key = .int .i64 (keyInt x):=by
   intro x hx
   obtain ⟨i,hi,rfl⟩:=List.getElem_of_mem hx
   have h6:=hkeys i (by simpa using hi)
   have:(es.toList[i]).key = .int .i64 ((ints ks).getD i 0):=by simpa using h6
   simp only [keyInt,this]
  have hlist:es.toList.map keyInt=ints ks:=by
   apply List.ext_getElem
   ·simp [ints_len hs,hk]
   ·intro i h1 h2
    have h7:i < es.size:=by simpa using h1
    have h8:=hkeys i h7
    simp only [List.getElem_map,Array.getElem_toList,keyInt,h8]
    simp [List.getD_eq_getElem?_getD,h2]
  refine (walk48 b es clk w (hm _ _ hM) hbn hkey (by omega)).mono fun e w' ⟨v,zs,he,hp,ho,hB⟩=>?_
  subst he
  rw [hlist] at hp
  rw [sorts_eq hp] at ho
  have hlen:zs.length=((isort (ints ks)).map (IV.int .i64)).length:=by rw [List.length_map,(isort_perm _).length_eq,hp.length_eq]
  rw [hlen] at ho
  refine orc_own hm hB ho hfit fun i x hx=>?_
  rw [List.getElem?_map,Option.map_eq_some_iff] at hx
  obtain ⟨z,hz,rfl⟩:=hx
  have:((isort (ints ks)).map (Value.int .i64)).getD i Go.undef = .int .i64 z:=by simp [hz]
  rw [this]
  exact .int _ z
theorem orcOK:OrcOK CC:=by
 intro f ivs r h
 have h':orcs f ivs=some r:=h
 unfold orcs at h'
 split at h'
 ·split at h'
  ·rename_i hc
   cases h'
   exact ⟨⟨_,Go.Proofs.Tryz.func50,by kernel_rfl⟩,fun M w vs hm hv=>orc56 hc.1 hc.2 hm hv⟩
  ·cases h'
 ·split at h'
  ·rename_i hc
   cases h'
   exact ⟨⟨_,Go.Proofs.Tryz.func69,by kernel_rfl⟩,fun M w vs hm hv=>orc48 hc.1 hc.2 hm hv⟩
  ·cases h'
 ·split at h'
  ·rename_i hc
   cases h'
   exact ⟨⟨_,Go.Proofs.Tryz.func205,by kernel_rfl⟩,fun M w vs hm hv=>orc505 hc.1 hc.2 hm hv⟩
  ·cases h'
 ·cases h'
end Go.Abs

/- From what is reckoned to the machine; and to the given rows. -/
open Go Go.Abs Go.RowKit Go.ChangeShapes Go.WideShapes Go.ChangeAt
namespace Go.Abs
theorem cfgOK:CfgOK CC where
 mixed:=by kernel_rfl
 ng:=by
  intro f fn hf hb
  have hall : CC.P.funcs.all (fun fn => !(fn.body.isSome && fn.name == "runtime.NumGoroutine")) = true := by kernel_rfl
  rw [Array.all_eq_true_iff_forall_mem] at hall
  have:=hall fn (Array.mem_of_getElem? hf)
  rw [hb] at this
  simpa using this
 orc:=orcOK
theorem peek_bool {G:Nat->Obj} {k:Nat} {v:AV} {b:Bool} {ids:List Nat} (h:peek G k v=some (.bool b,ids)):v = .imm (.bool b):=by
 cases k with
 |zero=>cases v<;>simp [peek] at h;exact congrArg AV.imm h.1
 |succ k=>
  cases v with
  |imm x=>simp [peek] at h;exact congrArg AV.imm h.1
  |nils=>simp [peek] at h
  |undef=>simp [peek] at h
  |rptr=>simp [peek] at h
  |yld=>simp [peek] at h
  |_=>
   simp only [peek] at h
   (repeat' split at h)<;>simp at h
theorem calls_of_ret {f:FuncId} {ivs:List IV} {b:Bool} (h:Ret CC f ivs (.bool b)) {M:Mem} {w:World} {vs:Array Value} (hm:∀ b o,M b=some o->w.heap[b]? = some o) (hv:VL (VI M) ivs vs) :
  Calls Go.Proofs.Tryz.prog f vs w fun e w'=>e = .returned (.bool b)/\Below w.heap.size w w':=by
 obtain ⟨n,v,G',nx',pk',ids,h1,h2⟩:=h
 have hb:=peek_bool h2
 subst hb
 exact run_bool (C:=CC) (n:=n) (G:=G') (nx:=nx') cfgOK (by unfold run;rw [h1];rfl) hm hv
theorem below_all {H:Type} {enc:TypeId×Value->H} {P:Program} (hl:laidOutB P=true) {W W':World} (hb:Below W.heap.size W W'):∀ (ts:List TypeId) (vs:List Value) (ds:List (DataW H)) (ps:List MemPlace),
  (ts.all fun t=>P.readableRec t&&decide (t < P.types.size))=true->DataW.TrodAll enc P W 0 (fun _=>true) true ts vs ds ps->(∀ x∈ps,x.block < W.heap.size)->DataW.TrodAll enc P W' 0 (fun b=>decide (b < W.heap.size)) true ts vs ds ps
 |[],vs,ds,ps,_,h,_=>by
  obtain ⟨rfl,rfl,rfl⟩:=trodAll_nil h
  exact trodAll_mk0
 |t::ts,vs,ds,ps,hr,h,hlt=>by
  obtain ⟨v,vs',d,ds',p,q,rfl,rfl,rfl,h1,h2⟩:=trodAll_cons h
  rw [List.all_cons,Bool.and_eq_true,Bool.and_eq_true] at hr
  exact trodAll_cons_mk (Below.trod hl hr.1.1 (of_decide_eq_true hr.1.2) h1 hb fun x hx=>hlt x (by simp [hx])) (below_all hl hb ts vs' ds' q hr.2 h2 fun x hx=>hlt x (by simp [hx]))
theorem own:ownKnob Go.Proofs.Tryz.prog.godebug=none:=by kernel_rfl
theorem laidOut:laidOutB Go.Proofs.Tryz.prog=true:=by kernel_rfl
theorem law_post {H:Type} {enc:TypeId×Value->H} {f:Func} {s:ChangeSpec} {W W':World} {args:Array Value} {ds gs:List (DataW H)} {before:List MemPlace} (hW:DataW.Whole enc Go.Proofs.Tryz.prog f.params.toList s.vars false W args.toList ds gs before)
  (hres:f.resultTypes = #[4]) (hsv:s.vars=[]) (hr:(s.fn H (ds++gs)).results=[.lit (.bool true)]) (ha:(s.fn H (ds++gs)).args=ds) (hvs:(s.fn H (ds++gs)).vars=[])
  (hread:(f.params.toList.all fun t=>Go.Proofs.Tryz.prog.readableRec t&&decide (t < Go.Proofs.Tryz.prog.types.size))=true) (hb:Below W.heap.size W W') :
  s.post enc Go.Proofs.Tryz.prog f false true false false W args (.bool true) W':=by
 have hW':=hW
 obtain ⟨p,q,hA,hV,rfl,hfz,hnd⟩:=hW
 rw [hsv] at hV
 obtain ⟨rfl,rfl⟩:=trodVars_none hV
 have hlt:∀ x∈p,x.block < W.heap.size:=fun x hx=>by simpa using hW'.lt x (by simp [hx])
 refine ⟨ds,[],p++[],[],p,[],hW',?_,?_,?_,hb.frame _,fun h=>by cases h⟩
 ·rw [hr,hres]
  exact trodAll_cons_mk (shut_bool Go.Proofs.Tryz.underlying4 _) trodAll_mk0
 ·rw [ha]
  exact below_all laidOut hb _ _ _ _ hread hA hlt
 ·rw [hvs,hsv]
  exact rfl
end Go.Abs

/- What is read as data, is data: truth values, numbers, strings, slices, structs. -/
open Go Go.Abs Go.RowKit Go.ChangeShapes Go.WideShapes
namespace Go.Abs
def fieldsAt (P:Program) (S:List TypeId):Nat->List Field->Option Nat
 |n,[]=>some n
 |n,f::r=>if f.offset=n/\S.contains f.type=true then fieldsAt P S (n+P.cellsOf f.type) r else none
def plainT (P:Program) (S:List TypeId) (t:TypeId):Bool:=
 match P.underlying t with
 |some .bool|some .string|some (.int _)=>P.cellsOf t==1
 |some (.slice e)=>P.cellsOf t==1&&S.contains e&&decide (0 < P.cellsOf e)
 |some (.struct fs)=>fieldsAt P S 0 fs.toList==some (P.cellsOf t)
 |_=>false
def closedS (P:Program) (S:List TypeId):Bool:=S.all (plainT P S)
def isSt (P:Program) (t:TypeId):Bool:=match P.underlying t with
 |some (.struct _)=>true
 |_=>false
inductive Shape (P:Program) (N:Nat):TypeId->List IV->Prop where
 |bool (t b) (h:P.underlying t=some .bool):Shape P N t [.bool b]
 |int (t k n) (h:P.underlying t=some (.int k)) (hw:(Lit.int k n).wf=true):Shape P N t [.int k n]
 |str (t s) (h:P.underlying t=some .string) (hl:s.length<=maxLen):Shape P N t [sv s]
 |sl (t e xs) (h:P.underlying t=some (.slice e)) (hl:xs.length<=maxLen) (hN:xs.length<=N) (hx:∀ x∈xs,Shape P N e x.cells) (ha:∀ x∈xs,isSt P e=true->∃ cs,x = .agg cs) (hn:∀ x∈xs,isSt P e=false->x.cells=[x]):Shape P N t [.lst xs]
 |st (t) (fs:Array Field) (css:List (List IV)) (h:P.underlying t=some (.struct fs)) (hl:css.length=fs.size) (hc:∀ (i:Nat) f cs,fs[i]? = some f->css[i]? = some cs->Shape P N f.type cs):Shape P N t css.flatten
theorem fields_len {P:Program} {S:List TypeId}:∀ (l:List Field) (n m:Nat),fieldsAt P S n l=some m->n<=m/\∀ f∈l,S.contains f.type=true/\f.offset+P.cellsOf f.type<=m
 |[],n,m,h=>by cases h;exact ⟨Nat.le_refl _,fun f hf=>by cases hf⟩
 |g::r,n,m,h=>by
  unfold fieldsAt at h
  split at h
  ·rename_i hg
   obtain ⟨h1,h2⟩:=fields_len r _ _ h
   refine ⟨by omega,fun f hf=>?_⟩
   rcases List.mem_cons.1 hf with rfl|hf
   ·exact ⟨hg.2,by omega⟩
   ·exact h2 f hf
  ·cases h
theorem choose_list {α:Type} {n:Nat} {p:Nat->α->Prop} (h:∀ i,i < n->∃ x,p i x):∃ l:List α,l.length=n/\∀ (i:Nat) x,l[i]? = some x->p i x:=by
 induction n with
 |zero=>exact ⟨[],rfl,fun i x h=>by simp at h⟩
 |succ n ih=>
  obtain ⟨l,h1,h2⟩:=ih fun i hi=>h i (by omega)
  obtain ⟨x,hx⟩:=h n (by omega)
  refine ⟨l++[x],by simp [h1],fun i y hy=>?_⟩
  rcases Nat.lt_or_ge i n with hi|hi
  ·exact h2 i y (by rwa [List.getElem?_append_left (by omega)] at hy)
  ·rw [List.getElem?_append_right (by omega),h1] at hy
   have:i-n=0:=by
    rcases Nat.eq_zero_or_pos (i-n) with h|h
    ·exact h
    ·rw [List.getElem?_eq_none (by simp;omega)] at hy;cases hy
   rw [this] at hy
   simp at hy
   subst hy
   have:i=n:=by omega
   subst this
   exact hx
abbrev heapM (w:World):Mem:=fun b=>w.heap[b]?
theorem cell_blk {w:World} {a:Addr} {v:Value} (h:w.cell? a=some v):a.spot=none/\∃ cs e fr,w.heap[a.block]? = some (.cells cs e fr)/\cs[a.off]? = some v:=by
 unfold World.cell? at h
 split at h
 ·rename_i c e fr hb
  split at h
  ·cases h
  ·rename_i hs
   exact ⟨by simpa using hs,c,e,fr,hb,h⟩
 ·cases h
theorem cells_get {w:World} {base:Nat} {a:Addr} {n:Nat} {cs:List Value} (h:w.cells? base a n=some cs):cs.length=n/\∀ j,j < n->∃ v,cs[j]? = some v/\w.cell? (a.add j)=some v:=by
 unfold World.cells? at h
 split at h
 ·have key:∀ (l:List Nat) (cs:List Value),(l.mapM fun i=>w.cell? (a.add i))=some cs->cs.length=l.length/\∀ (j:Nat) i,l[j]? = some i->∃ v,cs[j]? = some v/\w.cell? (a.add i)=some v:=by
   intro l
   induction l with
   |nil=>intro cs h;simp at h;subst h;exact ⟨rfl,fun j i h=>by simp at h⟩
   |cons x r ih=>
    intro cs h
    rw [List.mapM_cons] at h
    simp only [Option.bind_eq_bind,Option.bind_eq_some_iff,Option.pure_def,Option.some.injEq] at h
    obtain ⟨v,hv,vs,hvs,rfl⟩:=h
    obtain ⟨h1,h2⟩:=ih vs hvs
    refine ⟨by simp [h1],fun j i hj=>?_⟩
    cases j with
    |zero=>simp at hj;subst hj;exact ⟨v,rfl,hv⟩
    |succ j=>exact h2 j i (by simpa using hj)
  obtain ⟨h1,h2⟩:=key _ cs h
  refine ⟨by simpa using h1,fun j hj=>?_⟩
  exact h2 j j (by simp [hj])
 ·cases h
theorem bulk_one {H:Type} (d:DataW H):1<=Go.Proofs.YtbdoijpclmhbaaaGreat.Rows.uptoBulk d:=by
 cases d with
 |lit l=>cases l<;>simp [Go.Proofs.YtbdoijpclmhbaaaGreat.Rows.uptoBulk]
 |_=>simp [Go.Proofs.YtbdoijpclmhbaaaGreat.Rows.uptoBulk]
theorem bulk_len {H:Type}:∀ l:List (DataW H),l.length<=Go.Proofs.YtbdoijpclmhbaaaGreat.Rows.uptoBulkAll l
 |[]=>by simp [Go.Proofs.YtbdoijpclmhbaaaGreat.Rows.uptoBulkAll]
 |x::r=>by
  have h1:=bulk_one x
  have h2:=bulk_len r
  simp only [Go.Proofs.YtbdoijpclmhbaaaGreat.Rows.uptoBulkAll,List.length_cons]
  omega
theorem bulk_mem {H:Type} {d:DataW H}:∀ {l:List (DataW H)},d∈l->Go.Proofs.YtbdoijpclmhbaaaGreat.Rows.uptoBulk d<=Go.Proofs.YtbdoijpclmhbaaaGreat.Rows.uptoBulkAll l
 |x::r,h=>by
  simp only [Go.Proofs.YtbdoijpclmhbaaaGreat.Rows.uptoBulkAll]
  rcases List.mem_cons.1 h with rfl|h
  ·omega
  ·have:=bulk_mem h
   omega
theorem read_ok {P:Program} {S:List TypeId} (hS:closedS P S=true) {H:Type} {enc:TypeId×Value->H} {w:World} {held:Bool} {sp:Nat->Bool}:∀ (n:Nat) (t:TypeId) (cs:List Value) (d:DataW H×List MemPlace) (N:Nat),Go.Proofs.YtbdoijpclmhbaaaGreat.Rows.uptoBulk d.1<=N->S.contains t=true ->
  DataW.trod enc P w 0 sp held n t cs=some d->∃ ivs:List IV,ivs.length=cs.length/\cs.length=P.cellsOf t/\(∀ (i:Nat) x,ivs[i]? = some x->VI (heapM w) x (cs.getD i Go.undef))/\Shape P N t ivs:=by
 intro n
 induction n with
 |zero=>intro t cs d N _ _ h;simp [DataW.trod] at h
 |succ n ih=>
  intro t cs d N hN ht h
  have hp:plainT P S t=true:=by
   unfold closedS at hS
   rw [List.all_eq_true] at hS
   exact hS t (by simpa using ht)
  unfold plainT at hp
  have one:∀ (x:IV) (v:Value),VI (heapM w) x v->∀ (i:Nat) y,[x][i]? = some y->VI (heapM w) y ([v].getD i Go.undef):=by
   intro x v hx i y hy
   match i,hy with
   |0,hy=>simp at hy;subst hy;exact hx
   |i+1,hy=>simp at hy
  split at hp
  ·rename_i hu
   obtain ⟨b,rfl,_⟩:=DataW.trod_bool hu h
   exact ⟨[.bool b],rfl,(beq_iff_eq.1 hp).symm,one _ _ (.bool b), .bool t b hu⟩
  ·rename_i hu
   obtain ⟨s,rfl,_,hl⟩:=DataW.trod_string hu h
   exact ⟨[sv s.data.toList],rfl,(beq_iff_eq.1 hp).symm,one _ _ (by rw [<-sv_eta];exact .str s), .str t _ hu (by rw [Array.length_toList];exact hl)⟩
  ·rename_i k hu
   obtain ⟨m,rfl,_,hw⟩:=DataW.trod_int hu h
   exact ⟨[.int k m],rfl,(beq_iff_eq.1 hp).symm,one _ _ (.int k m), .int t k m hu hw⟩
  ·rename_i e hu
   simp only [Bool.and_eq_true,beq_iff_eq,decide_eq_true_eq] at hp
   obtain ⟨⟨hp1,hpe⟩,hpos⟩:=hp
   rcases DataW.trod_slice hu h with ⟨rfl,_⟩|⟨a,len,cap,elems,rest,n',hn,rfl,hd,_,hl,hm,hlen,hel,_,_⟩
   ·exact ⟨[.lst []],rfl,hp1.symm,one _ _ .nil, .sl t e [] hu (Nat.zero_le _) (Nat.zero_le _) (fun x h=>by cases h) (fun x h=>by cases h) (fun x h=>by cases h)⟩
   ·obtain rfl:n=n':=by omega
    subst hd
    simp only [Go.Proofs.YtbdoijpclmhbaaaGreat.Rows.uptoBulk] at hN
    have hb1:=bulk_len (elems.map (·.1))
    rw [List.length_map] at hb1
    have each:∀ i,i < len->∃ x:IV,x.cells.length=P.cellsOf e/\(∀ (j:Nat) y,x.cells[j]? = some y->∃ v,w.cell? ((a.add (i*P.cellsOf e)).add j)=some v/\VI (heapM w) y v)/\Shape P N e x.cells/\(isSt P e=true->∃ cs,x = .agg cs)/\(isSt P e=false->x.cells=[x]):=by
     intro i hi
     have hb:=hel i hi
     have hs:elems[i]? = some elems[i]:=by simp [hlen,hi]
     rw [hs,Option.bind_eq_some_iff] at hb
     obtain ⟨vs,hvs,hd⟩:=hb
     have hbe:=bulk_mem (List.mem_map.2 ⟨elems[i],List.getElem_mem (by omega),rfl⟩:elems[i].1∈elems.map (·.1))
     obtain ⟨ivs,h1,h2,h3,h4⟩:=ih e vs _ N (by omega) hpe hd
     obtain ⟨h5,h6⟩:=cells_get hvs
     have cellv:∀ (j:Nat) y,ivs[j]? = some y->∃ v,w.cell? ((a.add (i*P.cellsOf e)).add j)=some v/\VI (heapM w) y v:=by
      intro j y hy
      have hj:=(List.getElem?_eq_some_iff.1 hy).1
      obtain ⟨v,hv1,hv2⟩:=h6 j (by omega)
      refine ⟨v,hv2,?_⟩
      have:=h3 j y hy
      rwa [List.getD_eq_getElem?_getD,hv1] at this
     cases hst:isSt P e with
     |true=>exact ⟨.agg ivs,by simp [IV.cells];omega,cellv,h4,fun _=>⟨ivs,rfl⟩,fun h=>by cases h⟩
     |false=>
      have h4':=h4
      cases h4 with
      |bool _ b hu'=>exact ⟨.bool b,by simp [IV.cells] at h1 ⊢;omega,cellv,h4',(fun h=>by cases h),fun _=>rfl⟩
      |int _ k m hu' hw=>exact ⟨.int k m,by simp [IV.cells] at h1 ⊢;omega,cellv,h4',(fun h=>by cases h),fun _=>rfl⟩
      |str _ s hu' hl'=>exact ⟨sv s,by simp [IV.cells,sv] at h1 ⊢;omega,cellv,h4',(fun h=>by cases h),fun _=>rfl⟩
      |sl _ e' xs hu' _ _ _ _=>exact ⟨.lst xs,by simp [IV.cells] at h1 ⊢;omega,cellv,h4',(fun h=>by cases h),fun _=>rfl⟩
      |st _ fs css hu' _ _=>simp [isSt,hu'] at hst
    obtain ⟨xs,hx1,hx2⟩:=choose_list each
    have memx:∀ x∈xs,Shape P N e x.cells/\(isSt P e=true->∃ cs,x = .agg cs)/\(isSt P e=false->x.cells=[x]):=by
     intro x hx
     obtain ⟨i,hi⟩:=List.getElem?_of_mem hx
     exact (hx2 i x hi).2.2
    refine ⟨[.lst xs],rfl,hp1.symm,one _ _ ?_, .sl t e xs hu (by omega) (by omega) (fun x h=>(memx x h).1) (fun x h=>(memx x h).2.1) (fun x h=>(memx x h).2.2)⟩
    subst hx1
    rcases Nat.eq_zero_or_pos xs.length with h0|h0
    ·obtain rfl:xs=[]:=List.eq_nil_of_length_eq_zero h0
     exact .empty a cap
    ·-- the block that holds them
     have hcell:∀ (i:Nat) x (j:Nat) y,xs[i]? = some x->x.cells[j]? = some y->∃ v,w.cell? ((a.add (i*P.cellsOf e)).add j)=some v/\VI (heapM w) y v:=fun i x j y hx hy=>(hx2 i x hx).2.1 j y hy
     have h00:xs[0]? = some xs[0]:=by simp [h0]
     have hc0:(xs[0]).cells.length=P.cellsOf e:=(hx2 0 _ h00).1
     have hc00:(xs[0]).cells[0]? = some (xs[0]).cells[0]:=by simp [hc0,hpos]
     obtain ⟨v0,hv0,_⟩:=hcell 0 _ 0 _ h00 hc00
     obtain ⟨hsp0,ca,ea,fra,hblk,_⟩:=cell_blk hv0
     have hsp:a.spot=none:=by
      obtain ⟨b,o,s⟩:=a
      simpa [Addr.add] using hsp0
     obtain ⟨b,off,s⟩:=a
     simp only at hsp
     subst hsp
     simp only [add_none] at hcell hblk
     have inb:∀ (i:Nat) x (j:Nat) y,xs[i]? = some x->x.cells[j]? = some y->off+i*P.cellsOf e+j < ca.size/\VI (heapM w) y (at_ ca (off+i*P.cellsOf e+j)):=by
      intro i x j y hx hy
      obtain ⟨v,hv,hvi⟩:=hcell i x j y hx hy
      obtain ⟨_,ca',ea',fra',hb',hc'⟩:=cell_blk hv
      simp only at hb' hc'
      rw [hblk] at hb'
      simp only [Option.some.injEq,Go.Obj.cells.injEq] at hb'
      obtain ⟨rfl,rfl,rfl⟩:=hb'
      have hlt:=(Array.getElem?_eq_some_iff.1 hc').1
      refine ⟨hlt,?_⟩
      simp only [at_,Array.getD_eq_getD_getElem?,hc',Option.getD_some]
      exact hvi
     refine .lst xs b off cap ca ea fra (P.cellsOf e) (fun e=>by rw [e] at h0;simp at h0) hl hblk hpos (fun i x hx=>(hx2 i x hx).1) ?_ (fun i x j y hx hy=>(inb i x j y hx hy).2)
     have hlast:xs[xs.length-1]? = some xs[xs.length-1]:=by simp [h0]
     have hcl:=(hx2 _ _ hlast).1
     have hcll:(xs[xs.length-1]).cells[P.cellsOf e-1]? = some (xs[xs.length-1]).cells[P.cellsOf e-1]:=by simp [hcl,hpos]
     have:=(inb _ _ _ _ hlast hcll).1
     have e1:xs.length*P.cellsOf e=(xs.length-1)*P.cellsOf e+P.cellsOf e:=by
      have:xs.length=(xs.length-1)+1:=by omega
      conv=>lhs;rw [this,Nat.succ_mul]
     omega
  ·rename_i fs hu
   simp only [beq_iff_eq] at hp
   obtain ⟨xs,n',hn,hd,hcl,hxl,hf⟩:=DataW.trod_struct hu h
   obtain rfl:n=n':=by omega
   subst hd
   simp only [Go.Proofs.YtbdoijpclmhbaaaGreat.Rows.uptoBulk] at hN
   have each:∀ i,i < fs.size->∃ ivs:List IV,∀ f,fs[i]? = some f->ivs.length=P.cellsOf f.type/\(∀ (j:Nat) x,ivs[j]? = some x->VI (heapM w) x (((cs.drop f.offset).take (P.cellsOf f.type)).getD j Go.undef))/\Shape P N f.type ivs:=by
    intro i hi
    have hs:fs[i]? = some fs[i]:=by simp [hi]
    have hfi:=hf i _ hs
    have hxs:xs[i]? = some xs[i]:=by simp [hxl,hi]
    rw [hxs] at hfi
    have hmem:=(fields_len fs.toList 0 _ hp).2 fs[i] (by simp)
    have hbe:=bulk_mem (List.mem_map.2 ⟨xs[i],List.getElem_mem (by omega),rfl⟩:xs[i].1∈xs.map (·.1))
    obtain ⟨ivs,h1,h2,h3,h4⟩:=ih _ _ _ N (by omega) hmem.1 hfi
    refine ⟨ivs,fun f hff=>?_⟩
    rw [hs] at hff
    cases hff
    exact ⟨by omega,h3,h4⟩
   obtain ⟨css,hc1,hc2⟩:=choose_list each
   -- cell by cell
   have key:∀ (l:List Field) (ks:List (List IV)) (k m:Nat),fieldsAt P S k l=some m->m=cs.length->ks.length=l.length->(∀ (i:Nat) f iv,l[i]? = some f->ks[i]? = some iv->iv.length=P.cellsOf f.type/\∀ (j:Nat) x,iv[j]? = some x->VI (heapM w) x (((cs.drop f.offset).take (P.cellsOf f.type)).getD j Go.undef)) ->
     ks.flatten.length+k=m/\∀ (i:Nat) x,ks.flatten[i]? = some x->VI (heapM w) x (cs.getD (k+i) Go.undef):=by
    intro l
    induction l with
    |nil=>
     intro ks k m hk hm hlen _
     obtain rfl:ks=[]:=List.eq_nil_of_length_eq_zero (by simpa using hlen)
     cases hk
     exact ⟨by simp,fun i x hx=>by simp at hx⟩
    |cons f r ihl=>
     intro ks k m hk hm hlen hall
     cases ks with
     |nil=>simp at hlen
     |cons iv ks=>
      unfold fieldsAt at hk
      split at hk
      ·rename_i hg
       obtain ⟨q1,q2⟩:=ihl ks _ m hk hm (by simpa using hlen) (fun i f' iv' h1 h2=>hall (i+1) f' iv' (by simpa using h1) (by simpa using h2))
       obtain ⟨g1,g2⟩:=hall 0 f iv rfl rfl
       refine ⟨by simp only [List.flatten_cons,List.length_append];omega,fun i x hx=>?_⟩
       rw [List.flatten_cons] at hx
       rcases Nat.lt_or_ge i iv.length with hi|hi
       ·rw [List.getElem?_append_left hi] at hx
        have:=g2 i x hx
        rw [List.getD_eq_getElem?_getD,List.getElem?_take_of_lt (by omega),List.getElem?_drop,hg.1] at this
        rwa [List.getD_eq_getElem?_getD]
       ·rw [List.getElem?_append_right hi] at hx
        have:=q2 _ x hx
        rw [<-g1] at this
        rwa [show k+iv.length+(i-iv.length)=k+i by omega] at this
      ·cases hk
   obtain ⟨k1,k2⟩:=key fs.toList css 0 _ hp hcl.symm (by simp [hc1]) (fun i f iv h1 h2=>by
    have:=hc2 i iv h2 f (by simpa using h1)
    exact ⟨this.1,this.2.1⟩)
   refine ⟨css.flatten,by omega,hcl,fun i x hx=>by simpa using k2 i x hx, .st t fs css hu hc1 fun i f iv h1 h2=>(hc2 i iv h2 f h1).2.2⟩
  ·cases hp
end Go.Abs

/- Programs as trees: terms, expressions, definitions. -/
open Go Go.Abs
namespace Go.Abs
set_option maxRecDepth 100000
inductive Trm where
 |mk (op n:Int) (kids:List Trm)
inductive Exp where
 |mk (op:Int) (name:Str) (n fold:Int) (calcs:List Trm) (kids:List Exp)
structure Dfn where
 name:Str
 exp:Exp
structure Pgm where
 srcs:List Str
 defs:List Dfn
def Trm.op:Trm->Int
 | .mk o _ _=>o
def Exp.op:Exp->Int
 | .mk o .. => o
def Exp.name:Exp->Str
 | .mk _ s .. => s
def Exp.n:Exp->Int
 | .mk _ _ n .. => n
def Exp.fold:Exp->Int
 | .mk _ _ _ f .. => f
def Exp.calcs:Exp->List Trm
 | .mk _ _ _ _ c _=>c
def Exp.kids:Exp->List Exp
 | .mk _ _ _ _ _ k=>k
mutual
def Trm.iv:Trm->IV
 | .mk op n kids => .agg [.int .i64 op, .int .i64 n, .lst (Trm.ivs kids)]
def Trm.ivs:List Trm->List IV
 |[]=>[]
 |c::r=>c.iv::Trm.ivs r
end
mutual
def Exp.iv:Exp->IV
 | .mk op name n fold calcs kids => .agg [.int .i64 op,sv name, .int .i64 n, .int .i64 fold, .lst (Trm.ivs calcs), .lst (Exp.ivs kids)]
def Exp.ivs:List Exp->List IV
 |[]=>[]
 |c::r=>c.iv::Exp.ivs r
end
def Dfn.iv (d:Dfn):IV := .agg (sv d.name::d.exp.iv.cells)
def Pgm.iv (p:Pgm):IV := .agg [.lst (p.srcs.map sv), .lst (p.defs.map Dfn.iv)]
theorem Trm.ivs_map:∀ l,Trm.ivs l=l.map Trm.iv
 |[]=>rfl
 |c::r=>by rw [Trm.ivs,Trm.ivs_map r];rfl
theorem Exp.ivs_map:∀ l,Exp.ivs l=l.map Exp.iv
 |[]=>rfl
 |c::r=>by rw [Exp.ivs,Exp.ivs_map r];rfl
def maxI:Nat:=9223372036854775807
inductive Trm.Fits:Trm->Prop where
 |mk (op n kids) (h:kids.length<=maxI) (hk:∀ k∈kids,Trm.Fits k):Trm.Fits (.mk op n kids)
inductive Exp.Fits:Exp->Prop where
 |mk (op name n fold calcs kids) (hn:name.length<=maxI) (hw:(Lit.int .i64 n).wf=true) (hc:calcs.length<=maxI) (hk:kids.length<=maxI) (hcs:∀ c∈calcs,Trm.Fits c) (hks:∀ k∈kids,Exp.Fits k):Exp.Fits (.mk op name n fold calcs kids)
structure Pgm.Fits (p:Pgm):Prop where
 srcs:p.srcs.length<=maxI
 src:∀ s∈p.srcs,s.length<=maxI
 defs:p.defs.length<=maxI
 name:∀ d∈p.defs,d.name.length<=maxI
 exp:∀ d∈p.defs,d.exp.Fits
inductive Trm.Sm:Trm->Prop where
 |mk (op n kids) (h:kids.length<=1048576) (hk:∀ k∈kids,Trm.Sm k):Trm.Sm (.mk op n kids)
inductive Exp.Sm:Exp->Prop where
 |mk (op name n fold calcs kids) (hc:calcs.length<=1048576) (hk:kids.length<=1048576) (hcs:∀ c∈calcs,Trm.Sm c) (hks:∀ k∈kids,Exp.Sm k):Exp.Sm (.mk op name n fold calcs kids)
structure Pgm.Sm (p:Pgm):Prop where
 srcs:p.srcs.length<=1048576
 defs:p.defs.length<=1048576
 exp:∀ d∈p.defs,d.exp.Sm
theorem len3 {α:Type} {l:List α} (h:l.length=3):∃ a b c,l=[a,b,c]:=by
 match l,h with
 |[a,b,c],_=>exact ⟨a,b,c,rfl⟩
theorem len2 {α:Type} {l:List α} (h:l.length=2):∃ a b,l=[a,b]:=by
 match l,h with
 |[a,b],_=>exact ⟨a,b,rfl⟩
theorem len6 {α:Type} {l:List α} (h:l.length=6):∃ a b c d e f,l=[a,b,c,d,e,f]:=by
 match l,h with
 |[a,b,c,d,e,f],_=>exact ⟨a,b,c,d,e,f,rfl⟩
theorem list_of {α:Type} {f:α->IV} {p:α->Prop}:∀ {xs:List IV},(∀ x∈xs,∃ a,x=f a/\p a)->∃ l:List α,xs=l.map f/\∀ a∈l,p a
 |[],_=>⟨[],rfl,fun a h=>by cases h⟩
 |x::r,h=>by
  obtain ⟨a,rfl,ha⟩:=h x (by simp)
  obtain ⟨l,rfl,hl⟩:=list_of (xs:=r) fun y hy=>h y (by simp [hy])
  exact ⟨a::l,rfl,fun b hb=>by
                    rcases List.mem_cons.1 hb with rfl|hb
                    · exact ha
                    · exact hl b hb⟩
open Go.Proofs in
theorem shape_int {N:Nat} {t:TypeId} {k:IntKind} {ivs:List IV} (hu:Tryz.prog.underlying t=some (.int k)) (h:Shape Tryz.prog N t ivs):∃ n,ivs=[.int k n]/\(Lit.int k n).wf=true:=by
 cases h with
 |int _ k' n h hw=>rw [hu] at h;cases h;exact ⟨n,rfl,hw⟩
 |bool _ _ h=>rw [hu] at h;cases h
 |str _ _ h=>rw [hu] at h;cases h
 |sl _ _ _ h=>rw [hu] at h;cases h
 |st _ _ _ h=>rw [hu] at h;cases h
open Go.Proofs in
theorem shape_str {N:Nat} {t:TypeId} {ivs:List IV} (hu:Tryz.prog.underlying t=some .string) (h:Shape Tryz.prog N t ivs):∃ s:Str,ivs=[sv s]/\s.length<=maxI:=by
 cases h with
 |int _ k' n h hw=>rw [hu] at h;cases h
 |bool _ _ h=>rw [hu] at h;cases h
 |str _ s h hl=>exact ⟨s,rfl,hl⟩
 |sl _ _ _ h=>rw [hu] at h;cases h
 |st _ _ _ h=>rw [hu] at h;cases h
open Go.Proofs in
theorem shape_sl {N:Nat} {t e:TypeId} {ivs:List IV} (hu:Tryz.prog.underlying t=some (.slice e)) (h:Shape Tryz.prog N t ivs):∃ xs,ivs=[.lst xs]/\xs.length<=maxI/\xs.length<=N/\(∀ x∈xs,Shape Tryz.prog N e x.cells)/\(∀ x∈xs,isSt Tryz.prog e=true->∃ cs,x = .agg cs)/\(∀ x∈xs,isSt Tryz.prog e=false->x.cells=[x]):=by
 cases h with
 |int _ k' n h hw=>rw [hu] at h;cases h
 |bool _ _ h=>rw [hu] at h;cases h
 |str _ s h hl=>rw [hu] at h;cases h
 |sl _ e' xs h hl hN hx ha hn=>rw [hu] at h;cases h;exact ⟨xs,rfl,hl,hN,hx,ha,hn⟩
 |st _ _ _ h=>rw [hu] at h;cases h
open Go.Proofs in
theorem shape_st {N:Nat} {t:TypeId} {fs:Array Field} {ivs:List IV} (hu:Tryz.prog.underlying t=some (.struct fs)) (h:Shape Tryz.prog N t ivs):∃ css:List (List IV),ivs=css.flatten/\css.length=fs.size/\∀ (i:Nat) f cs,fs[i]? = some f->css[i]? = some cs->Shape Tryz.prog N f.type cs:=by
 cases h with
 |int _ k' n h hw=>rw [hu] at h;cases h
 |bool _ _ h=>rw [hu] at h;cases h
 |str _ s h hl=>rw [hu] at h;cases h
 |sl _ e' xs h hl hN hx ha hn=>rw [hu] at h;cases h
 |st _ fs' css h hl hc=>rw [hu] at h;cases h;exact ⟨css,rfl,hl,hc⟩
open Go.Proofs in
/-- A term, as it is read. -/
theorem shape_trm {N:Nat} {t:TypeId} {ivs:List IV} (h:Shape Tryz.prog N t ivs):(t=172->∃ c:Trm, .agg ivs=c.iv/\c.Fits/\(N<=1048576->c.Sm))/\(t=90->∃ l:List Trm,ivs=[.lst (Trm.ivs l)]/\(l.length<=maxI/\l.length<=N)/\∀ c∈l,c.Fits/\(N<=1048576->c.Sm)):=by
 induction h with
 |bool t b hu=>exact ⟨(fun e=>by subst e;rw [Tryz.underlying172] at hu;cases hu),(fun e=>by subst e;rw [Tryz.underlying90] at hu;cases hu)⟩
 |int t k n hu=>exact ⟨(fun e=>by subst e;rw [Tryz.underlying172] at hu;cases hu),(fun e=>by subst e;rw [Tryz.underlying90] at hu;cases hu)⟩
 |str t s hu=>exact ⟨(fun e=>by subst e;rw [Tryz.underlying172] at hu;cases hu),(fun e=>by subst e;rw [Tryz.underlying90] at hu;cases hu)⟩
 |sl t e xs hu hl hN hx ha hn ih=>
  refine ⟨(fun e=>by subst e;rw [Tryz.underlying172] at hu;cases hu),fun e=>?_⟩
  subst e
  rw [Tryz.underlying90] at hu
  cases hu
  obtain ⟨l,rfl,hl2⟩:=list_of (f:=Trm.iv) (p:=fun c:Trm=>c.Fits/\(N<=1048576->c.Sm)) (xs:=xs) fun x hxm=>by
   obtain ⟨c,hc,hf⟩:=(ih x hxm).1 rfl
   obtain ⟨cs,rfl⟩:=ha x hxm (by kernel_rfl)
   exact ⟨c,hc,hf⟩
  exact ⟨l,by rw [Trm.ivs_map],⟨(show l.length<=maxLen by simpa using hl),by simpa using hN⟩,hl2⟩
 |st t fs css hu hl hc ih=>
  refine ⟨fun e=>?_,(fun e=>by subst e;rw [Tryz.underlying90] at hu;cases hu)⟩
  subst e
  rw [Tryz.underlying172] at hu
  cases hu
  obtain ⟨a,b,c,rfl⟩:=len3 hl
  obtain ⟨op,rfl,_⟩:=shape_int Tryz.underlying170 (hc 0 _ _ rfl rfl)
  obtain ⟨n,rfl,_⟩:=shape_int Tryz.underlying3 (hc 1 _ _ rfl rfl)
  obtain ⟨l,rfl,h1,h2⟩:=(ih 2 _ _ rfl rfl).2 rfl
  exact ⟨.mk op n l,rfl, .mk op n l h1.1 fun c hc=>(h2 c hc).1,fun hN => .mk op n l (Nat.le_trans h1.2 hN) fun c hc=>(h2 c hc).2 hN⟩
open Go.Proofs in
theorem shape_exp {N:Nat} {t:TypeId} {ivs:List IV} (h:Shape Tryz.prog N t ivs):(t=93->∃ c:Exp, .agg ivs=c.iv/\c.Fits/\(N<=1048576->c.Sm))/\(t=91->∃ l:List Exp,ivs=[.lst (Exp.ivs l)]/\(l.length<=maxI/\l.length<=N)/\∀ c∈l,c.Fits/\(N<=1048576->c.Sm)):=by
 induction h with
 |bool t b hu=>exact ⟨(fun e=>by subst e;rw [Tryz.underlying93] at hu;cases hu),(fun e=>by subst e;rw [Tryz.underlying91] at hu;cases hu)⟩
 |int t k n hu=>exact ⟨(fun e=>by subst e;rw [Tryz.underlying93] at hu;cases hu),(fun e=>by subst e;rw [Tryz.underlying91] at hu;cases hu)⟩
 |str t s hu=>exact ⟨(fun e=>by subst e;rw [Tryz.underlying93] at hu;cases hu),(fun e=>by subst e;rw [Tryz.underlying91] at hu;cases hu)⟩
 |sl t e xs hu hl hN hx ha hn ih=>
  refine ⟨(fun e=>by subst e;rw [Tryz.underlying93] at hu;cases hu),fun e=>?_⟩
  subst e
  rw [Tryz.underlying91] at hu
  cases hu
  obtain ⟨l,rfl,hl2⟩:=list_of (f:=Exp.iv) (p:=fun c:Exp=>c.Fits/\(N<=1048576->c.Sm)) (xs:=xs) fun x hxm=>by
   obtain ⟨c,hc,hf⟩:=(ih x hxm).1 rfl
   obtain ⟨cs,rfl⟩:=ha x hxm (by kernel_rfl)
   exact ⟨c,hc,hf⟩
  exact ⟨l,by rw [Exp.ivs_map],⟨(show l.length<=maxLen by simpa using hl),by simpa using hN⟩,hl2⟩
 |st t fs css hu hl hc ih=>
  refine ⟨fun e=>?_,(fun e=>by subst e;rw [Tryz.underlying91] at hu;cases hu)⟩
  subst e
  rw [Tryz.underlying93] at hu
  cases hu
  obtain ⟨a,b,c,d,e,f,rfl⟩:=len6 hl
  obtain ⟨op,rfl,_⟩:=shape_int Tryz.underlying88 (hc 0 _ _ rfl rfl)
  obtain ⟨s,rfl,hs⟩:=shape_str Tryz.underlying9 (hc 1 _ _ rfl rfl)
  obtain ⟨n,rfl,hn⟩:=shape_int Tryz.underlying3 (hc 2 _ _ rfl rfl)
  obtain ⟨fo,rfl,_⟩:=shape_int Tryz.underlying89 (hc 3 _ _ rfl rfl)
  obtain ⟨cl,rfl,g1,g2⟩:=(shape_trm (hc 4 _ _ rfl rfl)).2 rfl
  obtain ⟨l,rfl,h1,h2⟩:=(ih 5 _ _ rfl rfl).2 rfl
  exact ⟨.mk op s n fo cl l,rfl, .mk op s n fo cl l hs hn g1.1 h1.1 (fun c hc=>(g2 c hc).1) fun c hc=>(h2 c hc).1,fun hN => .mk op s n fo cl l (Nat.le_trans g1.2 hN) (Nat.le_trans h1.2 hN) (fun c hc=>(g2 c hc).2 hN) fun c hc=>(h2 c hc).2 hN⟩
open Go.Proofs in
theorem shape_strs {N:Nat} {ivs:List IV} (h:Shape Tryz.prog N 22 ivs):∃ l:List Str,ivs=[.lst (l.map sv)]/\(l.length<=maxI/\l.length<=N)/\∀ s∈l,s.length<=maxI:=by
 obtain ⟨xs,rfl,hl,hN,hx,ha,hn⟩:=shape_sl Tryz.underlying22 h
 obtain ⟨l,rfl,hl2⟩:=list_of (f:=sv) (p:=fun s:Str=>s.length<=maxI) (xs:=xs) fun x hxm=>by
  obtain ⟨s,h1,h2⟩:=shape_str Tryz.underlying9 (hx x hxm)
  have:=hn x hxm (by kernel_rfl)
  rw [this] at h1
  exact ⟨s,by simpa using h1,h2⟩
 exact ⟨l,rfl,⟨by simpa using hl,by simpa using hN⟩,hl2⟩
open Go.Proofs in
theorem shape_dfn {N:Nat} {ivs:List IV} (h:Shape Tryz.prog N 95 ivs):∃ d:Dfn, .agg ivs=d.iv/\d.name.length<=maxI/\d.exp.Fits/\(N<=1048576->d.exp.Sm):=by
 obtain ⟨css,rfl,hl,hc⟩:=shape_st Tryz.underlying95 h
 obtain ⟨a,b,rfl⟩:=len2 hl
 obtain ⟨s,rfl,hs⟩:=shape_str Tryz.underlying9 (hc 0 _ _ rfl rfl)
 obtain ⟨e,he,hf⟩:=(shape_exp (hc 1 _ _ rfl rfl)).1 rfl
 refine ⟨⟨s,e⟩,?_,hs,hf⟩
 unfold Dfn.iv
 rw [<-he]
 simp [IV.cells]
open Go.Proofs in
theorem shape_pgm {N:Nat} {ivs:List IV} (h:Shape Tryz.prog N 25 ivs):∃ p:Pgm, .agg ivs=p.iv/\p.Fits/\(N<=1048576->p.Sm):=by
 obtain ⟨css,rfl,hl,hc⟩:=shape_st Tryz.underlying25 h
 obtain ⟨a,b,rfl⟩:=len2 hl
 obtain ⟨ss,rfl,h1,h2⟩:=shape_strs (hc 0 _ _ rfl rfl)
 obtain ⟨xs,rfl,hl2,hN,hx,ha,hn⟩:=shape_sl Tryz.underlying23 (hc 1 _ _ rfl rfl)
 obtain ⟨ds,rfl,hd⟩:=list_of (f:=Dfn.iv) (p:=fun d:Dfn=>d.name.length<=maxI/\d.exp.Fits/\(N<=1048576->d.exp.Sm)) (xs:=xs) fun x hxm=>by
  obtain ⟨d,q1,q2⟩:=shape_dfn (hx x hxm)
  obtain ⟨cs,rfl⟩:=ha x hxm (by kernel_rfl)
  exact ⟨d,q1,q2⟩
 exact ⟨⟨ss,ds⟩,rfl,⟨h1.1,h2,by simpa using hl2,fun d h=>(hd d h).1,fun d h=>(hd d h).2.1⟩,fun h=>⟨Nat.le_trans h1.2 h,Nat.le_trans (by simpa using hN) h,fun d hm=>(hd d hm).2.2 h⟩⟩
def pgmTypes:List TypeId:=[3,4,5,9,22,23,25,44,91,88,89,90,93,95,170,172]
theorem pgm_closed:closedS Go.Proofs.Tryz.prog pgmTypes=true:=by kernel_rfl
theorem read_pgm {H:Type} {enc:TypeId×Value->H} {w:World} {held:Bool} {sp:Nat->Bool} {v:Value} {d:DataW H} {ps:List MemPlace} {b0:Nat} (hv:Value.okWide Go.Proofs.Tryz.prog w .any b0 25 v) (h:DataW.Trod enc Go.Proofs.Tryz.prog w 0 sp held 25 v d ps) :
  ∃ p:Pgm,VI (heapM w) p.iv v/\p.Fits/\(Go.Proofs.YtbdoijpclmhbaaaGreat.Rows.uptoBulk d<=1048576->p.Sm):=by
 obtain ⟨n,hn⟩:=h
 obtain ⟨ivs,h1,h2,h3,h4⟩:=read_ok pgm_closed n 25 _ _ _ (Nat.le_refl _) (by decide) hn
 obtain ⟨p,hp,hf⟩:=shape_pgm h4
 have hst:∃ cs,v = .agg cs:=by
  simp only [Value.okWide,Go.Proofs.Tryz.underlying25] at hv
  obtain ⟨cs,h,_⟩:=hv
  exact ⟨cs,h⟩
 obtain ⟨cs,rfl⟩:=hst
 refine ⟨p,?_,hf⟩
 rw [<-hp]
 refine .agg ivs cs (by simpa [Value.cells] using h1) fun i x hx=>?_
 have:=h3 i x hx
 simpa [Value.cells,at_] using this
end Go.Abs
