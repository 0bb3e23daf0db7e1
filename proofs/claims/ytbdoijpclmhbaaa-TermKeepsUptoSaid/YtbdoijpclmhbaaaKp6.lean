/- The abstract interpreter: a logic of what code comes to: panics where the order is drawn, deferred calls, maps. -/
import Derived.Test.YtbdoijpclmhbaaaKp5
import Derived.KernelRfl
import Derived.Test.YtbdoijpclmhbaaaRows
import Derived.ProofKit
import Derived.OpenShut
import Derived.JoinedCond
import Derived.Carry
namespace Go.Abs
variable {C:Cfg} {fid nt:Nat} {l:Env} {G G':Nat->Obj} {nx:Nat} {df:List (AV×List AV)} {pk:Pk} {Φ Φ':Out->Prop} {a b:Code} {ol r:List Oper} {base i d:Nat} {ty:TypeId} {pos:String} {af:Array Edge} {v:AV} {id:Nat}
/-! ### regions that draw their order, and panic -/
def Fp.quiet (f:Fp):Bool:=f.wr.isEmpty&&f.fz.isEmpty
def restOK (ops:Array Oper) (i:Nat):List Nat->Bool
 |[]=>true
 |j::r=>ordered ops i j&&restOK ops i r
theorem runX_rest {L:Low} {ops:Array Oper} {i:Nat}:∀ (js:List Nat) (s:St),restOK ops i js=true->runX C L nt ops base js [i] s=some []
 |[],_,_=>rfl
 |j::r,s,h=>by
  unfold restOK at h
  rw [Bool.and_eq_true] at h
  unfold runX
  rw [if_pos (by simp [h.1])]
  exact runX_rest r s h.2
structure DX (C:Cfg) (nt:Nat) (ol:List Oper) (l0:Env) (base i:Nat) (r:List Oper) (l:Env) (G:Nat->Obj) (nx:Nat) (df:List (AV×List AV)) (pk:Pk) (fs:List Fp) (Φ:Out->Prop):Prop where
 st:ol.drop i=r->∀ t,Agree t l->∃ N pre fp v,(∀ n,N<=n->(∀ fs0,runE C (low C n) nt ⟨ol⟩ base i r fs0 ⟨t,G,nx,df,pk⟩=none)/\runX C (low C n) nt ⟨ol⟩ base (List.range' i r.length) [] ⟨t,G,nx,df,pk⟩=some (pre.map (fun f=>(f,none))++[(fp,some v)])) /\
  (pre.all Fp.quiet=true/\fp.quiet=true)/\(drawOK ⟨ol⟩ (fs.reverse++(pre++[fp]))&&edgesOK ⟨ol⟩)=true/\∀ t',Agree t' l0->Φ (.pan v ⟨t',G,nx,df,pk⟩)
theorem contains_nil (q:Nat):([]:List Nat).contains q=false:=rfl
def keepE (ol:List Oper):Env->Env
 |[]=>[]
 |(i,v)::r=>bif ol.any (fun o=>match o.dst with|some d=>Nat.beq d i|none=>false) then keepE ol r else (i,v)::keepE ol r
theorem keepE_ok {ol:List Oper} {i:Nat} {v:AV}:∀ {l:Env},look (keepE ol l) i=some v->look l i=some v/\ol.any (fun o=>o.dst==some i)=false
 |[],h=>by cases h
 |(j,w)::r,h=>by
  unfold keepE at h
  cases hc:ol.any (fun o=>match o.dst with|some d=>Nat.beq d j|none=>false) with
  |true=>
   rw [hc] at h
   obtain ⟨h1,h2⟩:=keepE_ok (l:=r) h
   refine ⟨?_,h2⟩
   unfold look
   split
   ·rename_i hb
    have e:i=j:=Nat.eq_of_beq_eq_true hb
    subst e
    exfalso
    rw [List.any_eq_true] at hc
    obtain ⟨o,ho,hd⟩:=hc
    rw [List.any_eq_false] at h2
    have:=h2 o ho
    split at hd
    ·rename_i d he
     have e:d=i:=Nat.eq_of_beq_eq_true hd
     subst e
     rw [he] at this;simp at this
    ·cases hd
   ·exact h1
  |false=>
   rw [hc] at h
   simp only [cond_false] at h
   unfold look at h ⊢
   split at h
   ·rename_i hb
    refine ⟨h,?_⟩
    have e:i=j:=Nat.eq_of_beq_eq_true hb
    subst e
    rw [List.any_eq_false] at hc ⊢
    intro o ho hd
    have hd:o.dst=some i:=by simpa using hd
    apply hc o ho
    rw [hd]
    exact Nat.beq_refl i
   ·exact keepE_ok (l:=r) h
theorem W.drawX {k:Nat} {ol:List Oper} (h:DX C nt ol (keepE ol l) nx 0 ol l G (nx+ol.length) df pk [] Φ):W C fid nt (.region k ⟨ol⟩ true) l G nx df pk Φ:=by
 refine .mk fun t ht=>?_
 obtain ⟨N,pre,fp,v,h1,⟨hq,hq2⟩,hk,hΦ⟩:=h.st rfl t ht
 obtain ⟨h1,h2⟩:=h1 N (Nat.le_refl _)
 have h1:=h1 []
 rw [<-runP_eq C (low C N) nt ⟨ol⟩ nx ol 0 _ _ rfl,<-List.range_eq_range'] at h1
 rw [<-List.range_eq_range'] at h2
 have e1:runP C (low C N) nt ⟨ol⟩ nx (List.range (Array.mk ol).size) [] { tmps:=t,G:=G,nx:=nx+(Array.mk ol).size,defers:=df,pk:=pk }=none:=h1
 have e2:runX C (low C N) nt ⟨ol⟩ nx (List.range (Array.mk ol).size) [] { tmps:=t,G:=G,nx:=nx+(Array.mk ol).size,defers:=df,pk:=pk }=_:=h2
 have hall:(pre++[fp]).all Fp.quiet=true:=by simp [hq,hq2]
 have hwr:∀ f∈pre++[fp],f.wr=[]/\f.fz=[]:=fun f hf=>by
  have:=List.all_eq_true.1 hall f hf
  unfold Fp.quiet at this
  simpa using this
 have hm1:(pre.map (fun f=>(f,(none:Option IV)))++[(fp,some v)]).filterMap (·.2)=[v]:=by
  rw [List.filterMap_append]
  have:(pre.map (fun f=>(f,(none:Option IV)))).filterMap (·.2)=[]:=by
   rw [List.filterMap_eq_nil_iff];intro x hx;obtain ⟨f,_,rfl⟩:=List.mem_map.1 hx;rfl
  rw [this];rfl
 have hm2:(pre.map (fun f=>(f,(none:Option IV)))++[(fp,some v)]).map (·.1)=pre++[fp]:=by
  rw [List.map_append,List.map_map]
  simp [Function.comp_def]
 have hfz:fzAll (pre.map (fun f=>(f,(none:Option IV)))++[(fp,some v)])=[]:=by
  unfold fzAll
  rw [List.flatMap_eq_nil_iff]
  intro x hx
  have:x.1∈pre++[fp]:=by rw [<-hm2];exact List.mem_map.2 ⟨x,hx,rfl⟩
  exact (hwr _ this).2
 have hw2:((pre.map (fun f=>(f,(none:Option IV)))++[(fp,some v)]).all fun e=>e.1.wr.all fun q=>decide (nx<=q))=true:=by
  rw [List.all_eq_true]
  intro x hx
  have:x.1∈pre++[fp]:=by rw [<-hm2];exact List.mem_map.2 ⟨x,hx,rfl⟩
  rw [(hwr _ this).1];rfl
 have hk':(drawOK ⟨ol⟩ (pre++[fp])&&edgesOK ⟨ol⟩)=true:=hk
 rw [Bool.and_eq_true] at hk'
 refine ⟨N, .pan v ⟨(poison ⟨ol⟩ (pre.map (fun f=>(f,none))++[(fp,some v)]) ⟨t,G,nx,df,pk⟩).tmps,G,nx+ol.length,df,pk⟩,?_,hΦ _ ?_⟩
 rotate_left
 ·intro i v hv
  obtain ⟨h1,h2⟩:=keepE_ok hv
  show (if _ then _ else _)=_
  rw [if_neg]
  ·exact ht i v h1
  ·show ¬ (ol.any fun o=>o.dst==some i)=true
   rw [h2];decide
 unfold code regionA
 rw [if_pos rfl]
 simp only [e1]
 unfold failA
 simp only [e2,hm1]
 rw [if_pos (by rw [hm2,hk'.1,hk'.2,hw2];rfl)]
 unfold poison
 simp only [hfz,contains_nil,Bool.false_eq_true,if_false]
 rfl
theorem DX.op0 {l0:Env} {op:Op} {fs:List Fp} {rd:List Nat} (h:OpV C (base+i) l G nx df pk op v []) (hr:rdE l G op=some rd) (hd:Nat.ble (d+1) nt=true)
  (next:DX C nt ol l0 base (i+1) r ((d,v)::l) G nx df pk (⟨i,rd,[],[]⟩::fs) Φ):DX C nt ol l0 base i (⟨some d,op,ty,pos,af,none⟩::r) l G nx df pk fs Φ:=by
 refine .mk fun ho t ht=>?_
 obtain ⟨n,hn⟩:=h.st t ht
 have h0:(Array.mk ol)[i]? = some ⟨some d,op,ty,pos,af,none⟩:=by
  have:=congrArg (fun l=>l[0]?) ho
  simpa using this
 have h1:ol.drop (i+1)=r:=by
  have:=congrArg List.tail ho
  simpa using this
 obtain ⟨N,pre,fp,v',a1,⟨a2,a3⟩,a4,a5⟩:=next.st h1 (upd t d v) (ht.put d v)
 have hlt:d < nt:=Nat.le_of_ble_eq_true hd
 refine ⟨max n N,⟨i,rd,[],[]⟩::pre,fp,v',fun m hm=>?_,⟨by simp only [List.all_cons,a2];rfl,a3⟩,by simpa using a4,a5⟩
 obtain ⟨b1,b2⟩:=a1 m (by omega)
 have hop:=opA_mono (low_mono (C:=C) (show n<=m by omega)) hn
 constructor
 ·intro fs0
  unfold runE stepP stepD
  simp only [wantA,hop,Go.Abs.put,if_pos hlt,rdE_ok ht hr]
  exact b1 _
 ·simp only [List.length_cons,List.range'_succ,runX,List.any_nil,Bool.false_eq_true,if_false,h0,stepX,wantA,hop,Go.Abs.put,if_pos hlt,rdE_ok ht hr]
  have e:updL G []=G:=rfl
  rw [e,b2];rfl
theorem DX.callPan {l0:Env} {o:Option Nat} {f:FuncId} {ars:List Operand} {ats:Array TypeId} {vs:List AV} {ivs:List IV} {u:IV} {fs:List Fp} {rd:List Nat} [hf:FnIs C f] (ha:looks l ars=some vs) (hi:imms vs=some ivs) (hr:RetPan C f ivs u)
  (hrd:rdE l G (.call { callee := .value (.func f),args:=⟨ars⟩,argTypes:=ats })=some rd) (hk:(drawOK ⟨ol⟩ (fs.reverse++[⟨i,rd,[],[]⟩])&&edgesOK ⟨ol⟩&&restOK ⟨ol⟩ i (List.range' (i+1) r.length))=true)
  (next:∀ t',Agree t' l0->Φ (.pan u ⟨t',G,nx,df,pk⟩)):DX C nt ol l0 base i (⟨o, .call { callee := .value (.func f),args:=⟨ars⟩,argTypes:=ats },ty,pos,af,none⟩::r) l G nx df pk fs Φ:=by
 refine .mk fun ho t ht=>?_
 have h0:(Array.mk ol)[i]? = some ⟨o, .call { callee := .value (.func f),args:=⟨ars⟩,argTypes:=ats },ty,pos,af,none⟩:=by
  have:=congrArg (fun l=>l[0]?) ho
  simpa using this
 obtain ⟨n,G',nx',pk',h1,hs⟩:=hr
 rw [Bool.and_eq_true] at hk
 have hop:∀ m,n<=m->opA C (low C m) (base+i) ⟨t,G,nx,df,pk⟩ (.call { callee := .value (.func f),args:=⟨ars⟩,argTypes:=ats })=some (.pan u ⟨t,G,nx,df,pk⟩):=fun m hm=>by
  obtain rfl:=imms_eq hi
  refine opA_mono (low_mono hm) ?_
  simp only [opA,ev,aCall,fnOf,List.map_nil,List.append_nil,callA,hf.byref,Bool.false_eq_true,if_false,ht.evs ha,peeks_imm,hf.orc,h1,hs,if_true]
 refine ⟨n,[],⟨i,rd,[],[]⟩,u,fun m hm=>⟨?_,?_⟩,⟨rfl,rfl⟩,by rw [List.nil_append];exact hk.1,next⟩
 ·intro fs0
  unfold runE stepP stepD stepA
  simp only [wantA,hop m hm]
  split
  ·rename_i hc;split at hc<;>cases hc
  ·rfl
 ·have hp:panOK C ⟨t,G,nx,df,pk⟩ (.call { callee := .value (.func f),args:=⟨ars⟩,argTypes:=ats })=true:=by
   simp only [panOK,ev,fnOf,hf.byref,Bool.not_false]
  simp only [List.length_cons,List.range'_succ,runX,List.any_nil,Bool.false_eq_true,if_false,h0,stepX,wantA,hop m hm,hp,if_true,rdE_ok ht hrd,runX_rest _ _ hk.2]
  rfl
/-! ### deferred calls -/
theorem R.defer {f:Operand} {ars:List Operand} {ats:Array TypeId} {fv:AV} {vs:List AV} {g:Fn×List AV} (hf:lookO l f=some fv) (hfn:fnOf fv=some g) (ha:looks l ars=some vs) (hpk:pk.isRnd=false)
  (next:R C nt ol base (i+1) r l G nx ((fv,vs)::df) pk Φ):R C nt ol base i (⟨none, .defer { callee := .value f,args:=⟨ars⟩,argTypes:=ats },ty,pos,af,none⟩::r) l G nx df pk Φ:=by
 refine .mk fun t ht=>?_
 obtain ⟨m,o,h1,h2⟩:=next.st t ht
 refine ⟨m,o,?_,h2⟩
 unfold runL stepA
 have:opA C (low C m) (base+i) ⟨t,G,nx,df,pk⟩ (.defer { callee := .value f,args:=⟨ars⟩,argTypes:=ats })=some (.wr .undef ⟨t,G,nx,(fv,vs)::df,pk⟩):=by
  cases pk with
  |rnd=>simp [Pk.isRnd] at hpk
  |no=>simp only [opA,ht.ev hf,hfn,ht.evs ha]
  |dfr _ _=>simp only [opA,ht.ev hf,hfn,ht.evs ha]
 simp only [wantA,this,put]
 exact h1
theorem R.recover {bt:Array TypeId} {u:IV} (hd:Nat.ble (d+1) nt=true) (next:R C nt ol base (i+1) r ((d, .imm u)::l) G nx df (.dfr (some u) true) Φ) :
  R C nt ol base i (⟨some d, .call { callee := .builtin .recover,args := #[],argTypes:=bt },ty,pos,af,none⟩::r) l G nx df (.dfr (some u) false) Φ:=by
 refine .mk fun t ht=>?_
 obtain ⟨m,o,h1,h2⟩:=next.st (upd t d (.imm u)) (ht.put d _)
 refine ⟨m,o,?_,h2⟩
 have hlt:d < nt:=Nat.le_of_ble_eq_true hd
 unfold runL stepA
 simp only [wantA,opA,aBuiltin,put,if_pos hlt]
 exact h1
theorem O.recoverN {bt:Array TypeId} {x:Bool}:OpV C id l G nx df (.dfr none x) (.call { callee := .builtin .recover,args := #[],argTypes:=bt }) (.imm .niliface) []:=
 O.of fun t L ht=>by simp only [opA,aBuiltin]
def CalD (C:Cfg) (f:FuncId) (vs:List AV) (m:Option IV) (G:Nat->Obj) (nx:Nat) (Ψ:Bool->(Nat->Obj)->Nat->Prop):Prop:=∃ n v m' x G' nx',(low C n).call f vs (.dfr m false) G nx=some (.ret v G' nx', .dfr m' x)/\Ψ x G' nx'
def finDf (Ψ:Bool->(Nat->Obj)->Nat->Prop):Out->Prop
 | .norm s | .ret s=>s.defers=[]/\∃ m x,s.pk = .dfr m x/\Ψ x s.G s.nx
 |_=>False
theorem CalD.of {f:FuncId} {fn:Func} {b:Code} {vs:List AV} {m:Option IV} {Ψ:Bool->(Nat->Obj)->Nat->Prop} (hf:C.fn f=some fn) (hb:fn.body=some b) (hn:Nat.ble vs.length fn.ntmps=true) (hrs:fn.results.toList=[])
  (h:W C f fn.ntmps b (envOf 0 vs) G nx [] (.dfr m false) (finDf Ψ)) (ha:C.at f=C:=by exact rfl):CalD C f vs m G nx Ψ:=by
 obtain ⟨n,o,h1,h2⟩:=h.st _ (agree_init vs)
 have hn:=Nat.le_of_ble_eq_true hn
 have go:∀ s:St,(s.defers=[]/\∃ m x,s.pk = .dfr m x/\Ψ x s.G s.nx)->∃ v m' x,leaveA C (low C n) fn.results.toList s.defers none s=some (.ret v s.G s.nx, .dfr m' x)/\Ψ x s.G s.nx:=by
  intro s ⟨hd,m,x,hp,hΨ⟩
  exact ⟨_,m,x,by rw [hd,hrs];simp only [leaveA,resultsA,resultsL,hp];rfl,hΨ⟩
 cases o with
 |norm s=>
  obtain ⟨v,m',x,h3,h4⟩:=go s h2
  exact ⟨n+1,v,m',x,_,_,by simp only [low,ha,callF,hf,hb,if_pos hn,h1,h3],h4⟩
 |ret s=>
  obtain ⟨v,m',x,h3,h4⟩:=go s h2
  exact ⟨n+1,v,m',x,_,_,by simp only [low,ha,callF,hf,hb,if_pos hn,h1,h3],h4⟩
 |exit _ _=>exact h2.elim
 |pan _ _=>exact h2.elim
def finD (C:Cfg) (rs:List ResultVar) (Ψ:AV->(Nat->Obj)->Nat->Prop):Out->Prop
 | .norm s | .ret s=>s.pk = .no/\∃ g ars k cap,s.defers=[(g,ars)]/\fnOf g=some (.func k,cap)/\CalD C k (ars++cap) none s.G s.nx fun _ G nx=>∃ v,resultsA C ⟨s.tmps,G,nx,[(g,ars)], .no⟩ rs=some v/\Ψ v G nx
 | .pan u s=>s.pk = .no/\∃ g ars k cap,s.defers=[(g,ars)]/\fnOf g=some (.func k,cap)/\CalD C k (ars++cap) (some u) s.G s.nx fun x G nx=>x=true/\∃ v,resultsA C ⟨s.tmps,G,nx,[(g,ars)], .no⟩ rs=some v/\Ψ v G nx
 | .exit _ _=>False
theorem Cal.ofD {f:FuncId} {fn:Func} {b:Code} {vs:List AV} {Ψ:AV->(Nat->Obj)->Nat->Prop} (hf:C.fn f=some fn) (hb:fn.body=some b) (hn:Nat.ble vs.length fn.ntmps=true)
  (h:W C f fn.ntmps b (envOf 0 vs) G nx [] .no (finD C fn.results.toList Ψ)) (ha:C.at f=C:=by exact rfl):Cal C f vs G nx Ψ:=by
 obtain ⟨n,o,h1,h2⟩:=h.st _ (agree_init vs)
 have hn:=Nat.le_of_ble_eq_true hn
 have up:∀ (m:Option IV) (s:St) (g:AV) (ars:List AV) (k:FuncId) (cap:List AV) (n2:Nat) (v':AV) (m':Option IV) (x:Bool) (G':Nat->Obj) (nx':Nat) (v:AV),s.pk = .no->s.defers=[(g,ars)]->fnOf g=some (.func k,cap)->(low C n2).call k (ars++cap) (.dfr m false) s.G s.nx=some (.ret v' G' nx', .dfr m' x)->(m=none\/x=true) ->
   resultsA C ⟨s.tmps,G',nx',[(g,ars)], .no⟩ fn.results.toList=some v->leaveA C (low C (max n n2)) fn.results.toList s.defers m s=some (.ret v G' nx', .no):=by
  intro m s g ars k cap n2 v' m' x G' nx' v hp hd hfn hc hm hv
  obtain ⟨t,G0,nx0,df0,pk0⟩:=s
  simp only at hp hd hc hv
  subst hp hd
  have hc':=(low_mono (C:=C) (Nat.le_max_right n n2)).1 _ _ _ _ _ _ hc
  have hmm:(if x=true then none else m)=none:=by rcases hm with rfl|rfl<;>simp
  simp only [leaveA,hfn,hc',hmm,hv]
 cases o with
 |norm s=>
  obtain ⟨hp,g,ars,k,cap,hd,hfn,n2,v',m',x,G',nx',hc,v,hv,hΨ⟩:=h2
  refine ⟨max n n2+1,v,G',nx',?_,hΨ⟩
  simp only [low,ha,callF,hf,hb,if_pos hn,code_mono (low_mono (Nat.le_max_left n n2)) (Nat.le_max_left n n2) _ _ _ h1]
  exact up none s g ars k cap n2 v' m' x G' nx' v hp hd hfn hc (.inl rfl) hv
 |ret s=>
  obtain ⟨hp,g,ars,k,cap,hd,hfn,n2,v',m',x,G',nx',hc,v,hv,hΨ⟩:=h2
  refine ⟨max n n2+1,v,G',nx',?_,hΨ⟩
  simp only [low,ha,callF,hf,hb,if_pos hn,code_mono (low_mono (Nat.le_max_left n n2)) (Nat.le_max_left n n2) _ _ _ h1]
  exact up none s g ars k cap n2 v' m' x G' nx' v hp hd hfn hc (.inl rfl) hv
 |exit _ _=>exact h2.elim
 |pan u s=>
  obtain ⟨hp,g,ars,k,cap,hd,hfn,n2,v',m',x,G',nx',hc,hx,v,hv,hΨ⟩:=h2
  refine ⟨max n n2+1,v,G',nx',?_,hΨ⟩
  simp only [low,ha,callF,hf,hb,if_pos hn,code_mono (low_mono (Nat.le_max_left n n2)) (Nat.le_max_left n n2) _ _ _ h1]
  exact up (some u) s g ars k cap n2 v' m' x G' nx' v hp hd hfn hc (.inr hx) hv
theorem Cal.ret {f:FuncId} {ivs:List IV} {x:IV} (h:Cal C f (ivs.map .imm) (fun _ => .gone) 0 fun v G _=>∃ ids,Go.Abs.peek G pkDepth v=some (x,ids)):Ret C f ivs x:=by
 obtain ⟨n,v,G',nx',h1,ids,h2⟩:=h
 exact ⟨n,v,G',nx', .no,ids,h1,h2⟩
/-! ### closures, maps -/
theorem O.nilP {x:Operand} {o off:Nat} (hx:lookO l x=some (.ptr o off)):OpV C id l G nx df pk (.nilCheck x) (.ptr o off) []:=O.of fun t L ht=>by simp only [opA,ht.ev hx,aNilCheck]
theorem O.nilF {x:Operand} {cs:List IV} {off:Nat} (hx:lookO l x=some (.imm (.fptr cs off))):OpV C id l G nx df pk (.nilCheck x) (.imm (.fptr cs off)) []:=O.of fun t L ht=>by simp only [opA,ht.ev hx,aNilCheck]
theorem O.makeFunc {f:Fn} {cap:List Operand} {first:Array Operand} {vs:List AV} (h0:first.size=0) (ha:looks l cap=some vs) (hv:mkFn f vs=v):OpV C id l G nx df pk (.makeFunc f first ⟨cap⟩) v []:=O.of fun t L ht=>by simp only [opA,ht.evs ha,if_pos h0,hv]
theorem O.makeMap {t:TypeId}:OpV C id l G nx df pk (.makeMap t none) (.map id) [(id, .set (.mp [] [] false))]:=O.of fun t L ht=>by simp only [opA]
theorem O.extrT {x:Operand} {ix:Nat} {vs:List AV} {u:AV} (hx:lookO l x=some (.tup vs)) (hu:vs[ix]? = some u):OpV C id l G nx df pk (.extract x ix) u []:=O.of fun t L ht=>by simp only [opA,ht.ev hx,aExtract,hu]
theorem O.lookT {t kt e:TypeId} {m x:Operand} {k kk:TyI} {key:IV} {ks:List IV} {vs:List AV} {ok:Bool} {mv u w:AV} {j:Nat} [hk:TyIs C t k] (ht:k.d = .mp kt e) (hkk:TyIs C kt kk) (hm:lookO l m=some mv) (hx:lookO l x=some (.imm key)) (hkv:mapKV G mv=some (ks,vs)) (ho:keyOk kk.d key=true)
  (hj:keyFind key ks=some (some j)) (hu:vs[j]? = some u) (hw:(if ok then mkTup [u, .imm (.bool true)] else u)=w):OpV C id l G nx df pk (.lookup t m x ok) w []:=by
 refine O.of fun t' L hA=>?_
 simp only [opA,hA.ev hm,hA.ev hx,lookA,hk.is,ht,hkv,hkk.is,if_pos ho,hj,hu,hw]
theorem O.lookN {t kt e:TypeId} {m x:Operand} {k kk ke:TyI} {key:IV} {ks:List IV} {vs:List AV} {ok:Bool} {mv w:AV} [hk:TyIs C t k] (ht:k.d = .mp kt e) (hkk:TyIs C kt kk) (hke:TyIs C e ke) (hm:lookO l m=some mv) (hx:lookO l x=some (.imm key)) (hkv:mapKV G mv=some (ks,vs)) (ho:keyOk kk.d key=true)
  (hj:keyFind key ks=some none) (hw:(if ok then mkTup [ke.zero, .imm (.bool false)] else ke.zero)=w):OpV C id l G nx df pk (.lookup t m x ok) w []:=by
 refine O.of fun t' L hA=>?_
 simp only [opA,hA.ev hm,hA.ev hx,lookA,hk.is,ht,hkv,hkk.is,if_pos ho,hj,hke.is,hw]
theorem O.mapNew {t kt e:TypeId} {m x y:Operand} {k kk:TyI} {key:IV} {ks:List IV} {vs:List AV} {q:Nat} [hk:TyIs C t k] (ht:k.d = .mp kt e) (hkk:TyIs C kt kk) (hm:lookO l m=some (.map q)) (hx:lookO l x=some (.imm key)) (hy:lookO l y=some v) (hG:G q = .mp ks vs false) (ho:keyOk kk.d key=true)
  (hj:keyFind key ks=some none):OpV C id l G nx df pk (.mapUpdate t m x y) .undef [(q, .set (.mp (ks++[key]) (vs++[v]) false))]:=by
 refine O.of fun t' L hA=>?_
 simp only [opA,hA.ev hm,hA.ev hx,hA.ev hy,aMapUpdate,hk.is,ht,hG,hkk.is,if_pos ho,hj]
theorem O.typeIs {t st:TypeId} {x:Operand} {k:TyI} {u:IV} [hk:TyIs C t k] (hx:lookO l x=some (.imm (.iface t u))) (hd:k.d ≠ .ifc/\k.d ≠ .oth):OpV C id l G nx df pk (.typeAssert x st t true) (.imm (.tup [u, .bool true])) []:=by
 refine O.of fun t' L hA=>?_
 simp only [opA,hA.ev hx,aTypeAssert,hk.is]
 split
 ·rename_i h;exact (hd.1 h).elim
 ·rename_i h;exact (hd.2 h).elim
 ·simp
end Go.Abs

/- The abstract interpreter: a logic of what code comes to: ends of functions that may panic; what memory holds. -/
namespace Go.Abs
variable {C:Cfg} {fid nt:Nat} {l:Env} {G G':Nat->Obj} {nx:Nat} {df:List (AV×List AV)} {pk:Pk} {Φ Φ':Out->Prop} {a b:Code} {ol r:List Oper} {base i d:Nat} {ty:TypeId} {pos:String} {af:Array Edge} {v:AV} {id:Nat}
theorem at_upd {q:Nat} {x:Obj} (h:G q=x:=by (repeat (first|exact upd_same _ _ _|assumption|(refine (upd_ne _ _ _ _ (by omega)).trans ?_)|exact rfl))):G q=x:=h
def resV:List AV->AV
 |[v]=>v
 |l=>mkTup l
theorem res_ok {s:St} (h:Agree s.tmps l) {rs:List ResultVar} {vs:List AV} (hr:resE l rs=some vs):resultsA C s rs=some (resV vs):=by
 simp only [resultsA,resE_ok h hr]
 match vs with
 |[]=>rfl
 |[v]=>rfl
 |_::_::_=>rfl
theorem W.skipFinP {rs:List ResultVar} {vs:List AV} {Ψ:CR->Prop} (hv:resE l rs=some vs) (h:Ψ (.ret (resV vs) G nx)):W C fid nt .skip l G nx [] .no (finP C rs Ψ):=
 .skip fun t ht=>⟨rfl,rfl,_,res_ok (s:=⟨t,G,nx,[], .no⟩) ht hv,h⟩
theorem W.retFinP {rs:List ResultVar} {vs:List AV} {Ψ:CR->Prop} (hv:resE l rs=some vs) (h:Ψ (.ret (resV vs) G nx)):W C fid nt .ret l G nx [] .no (finP C rs Ψ):=
 .ret fun t ht=>⟨rfl,rfl,_,res_ok (s:=⟨t,G,nx,[], .no⟩) ht hv,h⟩
class Len (l:List Oper) (n:outParam Nat):Prop where
 eq:l.length=n
instance len0:Len [] 0:=⟨rfl⟩
instance len1 {x:Oper} {l:List Oper} {n:Nat} [h:Len l n]:Len (x::l) (n+1):=⟨by rw [List.length_cons,h.eq]⟩
theorem W.regionN {k:Nat} {n:Nat} [hn:Len ol n] (h:R C nt ol nx 0 ol l G (nx+n) df pk Φ):W C fid nt (.region k ⟨ol⟩ false) l G nx df pk Φ:=W.region (by rw [hn.eq];exact h)
theorem W.drawN {k:Nat} {n:Nat} [hn:Len ol n] (h:D C nt ol nx 0 ol l G (nx+n) df pk [] Φ):W C fid nt (.region k ⟨ol⟩ true) l G nx df pk Φ:=W.draw (by rw [hn.eq];exact h)
theorem W.drawXN {k:Nat} {n:Nat} [hn:Len ol n] (h:DX C nt ol (keepE ol l) nx 0 ol l G (nx+n) df pk [] Φ):W C fid nt (.region k ⟨ol⟩ true) l G nx df pk Φ:=W.drawX (by rw [hn.eq];exact h)
class PanTo (Φ:Out->Prop) (pk:outParam Pk) (Ψ:outParam (CR->Prop)):Prop where
 ok:∀ u t G nx,Ψ (.pan u G nx)->Φ (.pan u ⟨t,G,nx,[],pk⟩)
instance panToFin {rs:List ResultVar} {Ψ:CR->Prop}:PanTo (finP C rs Ψ) .no Ψ:=⟨fun _ _ _ _ h=>⟨rfl,rfl,h⟩⟩
instance panToAft {Ψ:CR->Prop} [h:PanTo Φ pk Ψ]:PanTo (aft C fid nt b Φ) pk Ψ:=⟨h.ok⟩
instance panToBlk {Ψ:CR->Prop} [h:PanTo Φ pk Ψ]:PanTo (blk' id Φ) pk Ψ:=⟨h.ok⟩
instance panToLop {X:Type} {le:X->Env} {Ge:X->Nat->(Nat->Obj)->Prop} {mu:X->Nat} {pk':Pk} {x:X} {Ψ:CR->Prop} [h:PanTo Φ pk Ψ]:PanTo (lop le Ge mu df pk' x Φ) pk Ψ:=⟨h.ok⟩
theorem panTo {u:IV} {Ψ:CR->Prop} [hp:PanTo Φ pk Ψ] (h:Ψ (.pan u G nx)):∀ t,Agree t l->Φ (.pan u ⟨t,G,nx,[],pk⟩):=fun t _=>hp.ok u t G nx h
noncomputable def panOf (C:Cfg) (n:Nat) (f:FuncId) (ivs:List IV):Option IV:=match (low C n).call f (ivs.map .imm) .no (fun _ => .gone) 0 with
 |some (.pan v _ _,_)=>some v
 |_=>none
theorem RetPan.reckon {n:Nat} {f:FuncId} {ivs:List IV} {v:IV} {C:Cfg} (h:panOf C n f ivs=some v) (hs:v.scalar=true):RetPan C f ivs v:=by
 unfold panOf at h
 split at h
 ·rename_i u G' nx' pk' hc
  cases h
  exact ⟨n,G',nx',pk',hc,hs⟩
 ·cases h
/-! ### boxes that are data -/
theorem O.fieldF {x:Operand} {t:TypeId} {f:Nat} {k:TyI} {fs:List (Nat×Nat)} {cs:List IV} {off0 off sz:Nat} [hk:TyIs C t k] (hd:k.d = .st fs) (hf:fs[f]? = some (off,sz)) (hs:Nat.beq sz 0=false) (hx:lookO l x=some (.imm (.fptr cs off0))) :
  OpV C id l G nx df pk (.fieldAddr t x f) (.imm (.fptr cs (off0+off))) []:=
 O.of fun t L hA=>by
  have:¬ sz=0:=fun e=>by subst e;cases hs
  simp only [opA,hA.ev hx,aFieldAddr,hk.is,hd,hf,if_neg this,moveAt]
theorem O.loadF {x:Operand} {t:TypeId} {k:TyI} {cs:List IV} {off:Nat} {u:IV} [hk:TyIs C t k] (hg:k.d.isAgg=false) (hs:k.sz=1) (hx:lookO l x=some (.imm (.fptr cs off))) (hu:cs[off]? = some u) :
  OpV C id l G nx df pk (.load t x) (.imm u) []:=
 O.of fun t L hA=>by simp only [opA,hA.ev hx,aLoad,hk.is,hs,readAt,sub_one hu,Option.map_some,List.map_cons,List.map_nil,hg,Bool.false_eq_true,if_false]
theorem O.loadFA {x:Operand} {t:TypeId} {k:TyI} {cs us:List IV} {off:Nat} [hk:TyIs C t k] (hg:k.d.isAgg=true) (hx:lookO l x=some (.imm (.fptr cs off))) (hu:Go.Abs.sub cs off k.sz=some us) :
  OpV C id l G nx df pk (.load t x) (.imm (.agg us)) []:=
 O.of fun t L hA=>by simp only [opA,hA.ev hx,aLoad,hk.is,readAt,hu,Option.map_some,hg,if_true,mkAgg_imm]
def lookIs (kt e:Option TyI) (kv:Option (List IV×List AV)) (key:IV) (ok:Bool) (w:AV):Prop:=
 match kt,e,kv with
 |some kk,some ke,some (ks,vs)=>keyOk kk.d key=true/\((∃ j u,keyFind key ks=some (some j)/\vs[j]? = some u/\(if ok then mkTup [u, .imm (.bool true)] else u)=w)\/(keyFind key ks=some none/\(if ok then mkTup [ke.zero, .imm (.bool false)] else ke.zero)=w))
 |_,_,_=>False
theorem O.lookA {t kt e:TypeId} {m x:Operand} {k kk ke:TyI} {key:IV} {ok:Bool} {mv w:AV} [hk:TyIs C t k] (ht:k.d = .mp kt e) (hkk:TyIs C kt kk) (hke:TyIs C e ke) (hm:lookO l m=some mv) (hx:lookO l x=some (.imm key)) {kv:Option (List IV×List AV)} (hkv:mapKV G mv=kv) (h:lookIs (some kk) (some ke) kv key ok w) :
  OpV C id l G nx df pk (.lookup t m x ok) w []:=by
 match kv,h with
 |some (ks,vs),⟨h1, .inl ⟨j,u,h2,h3,h4⟩⟩=>exact O.lookT ht hkk hm hx hkv h1 h2 h3 h4
 |some (ks,vs),⟨h1, .inr ⟨h2,h4⟩⟩=>exact O.lookN ht hkk hke hm hx hkv h1 h2 h4
/-! ### regions that draw their order: where addresses are not known -/
def nrm (base q:Nat):Nat:=if q < base then 0 else q-base+1
theorem nrm_lt {base q:Nat} (h:q < base):nrm base q=0:=if_pos h
theorem nrm_ge (base k:Nat):nrm base (base+k)=k+1:=by
 unfold nrm;rw [if_neg (by omega)];omega
def Fp.nrm (base:Nat) (f:Fp):Fp:=⟨f.i,f.rd.map (Go.Abs.nrm base),f.wr.map (Go.Abs.nrm base),f.fz.map (Go.Abs.nrm base)⟩
def Fp.hi (base:Nat) (f:Fp):Bool:=f.wr.all fun w=>decide (base<=w)
theorem nrm_mem {base w:Nat} (hw:base<=w) (l:List Nat):(l.map (Go.Abs.nrm base)).contains (Go.Abs.nrm base w)=l.contains w:=by
 induction l with
 |nil=>rfl
 |cons x r ih=>
  simp only [List.map_cons,List.contains_cons,ih]
  congr 1
  unfold Go.Abs.nrm
  rw [if_neg (show ¬ w < base by omega)]
  split
  ·have:¬ w=x:=by omega
   simp [this]
  ·by_cases h:w=x
   ·simp [h]
   ·have h2:¬ w-base+1=x-base+1:=by omega
    rw [beq_eq_false_iff_ne.2 h,beq_eq_false_iff_ne.2 h2]
theorem any_nrm {base:Nat} (f:Nat->Bool) (g:Nat->Bool) (h:∀ w,base<=w->g (Go.Abs.nrm base w)=f w):∀ l:List Nat,(l.all fun w=>decide (base<=w))=true->(l.map (Go.Abs.nrm base)).any g=l.any f
 |[],_=>rfl
 |w::r,hl=>by
  simp only [List.all_cons,Bool.and_eq_true,decide_eq_true_eq] at hl
  simp only [List.map_cons,List.any_cons,h w hl.1,any_nrm f g h r hl.2]
theorem clash_nrm {base:Nat} {a b:Fp} (ha:a.hi base=true) (hb:b.hi base=true):clash (a.nrm base) (b.nrm base)=clash a b:=by
 unfold clash
 congr 1
 ·exact any_nrm _ _ (fun w hw=>by simp only [Fp.nrm,nrm_mem hw]) _ ha
 ·exact any_nrm _ _ (fun w hw=>by simp only [Fp.nrm,nrm_mem hw]) _ hb
theorem clearOf_nrm {ops:Array Oper} {base:Nat} {a:Fp} (ha:a.hi base=true):∀ fs:List Fp,fs.all (Fp.hi base)=true->clearOf ops (a.nrm base) (fs.map (Fp.nrm base))=clearOf ops a fs
 |[],_=>rfl
 |b::r,h=>by
  simp only [List.all_cons,Bool.and_eq_true] at h
  simp only [List.map_cons,clearOf,clash_nrm ha h.1,clearOf_nrm ha r h.2]
  rfl
theorem drawOK_nrm {ops:Array Oper} {base:Nat}:∀ fs:List Fp,fs.all (Fp.hi base)=true->drawOK ops (fs.map (Fp.nrm base))=drawOK ops fs
 |[],_=>rfl
 |a::r,h=>by
  simp only [List.all_cons,Bool.and_eq_true] at h
  simp only [List.map_cons,drawOK,clearOf_nrm h.1 r h.2,drawOK_nrm r h.2]
theorem D.doneN {fs:List Fp} (hh:fs.reverse.all (Fp.hi base)=true) (hk:(drawOK ⟨ol⟩ (fs.reverse.map (Fp.nrm base))&&edgesOK ⟨ol⟩)=true) (h:W C fid nt b l G nx df pk Φ):D C nt ol base i [] l G nx df pk fs (aft C fid nt b Φ):=
 D.done (by rw [<-drawOK_nrm _ hh];exact hk) h
theorem peek_mp {q:Nat} {ks vs:List IV} {fr:Bool} (h:G q = .mp ks (vs.map .imm) fr):∃ ids,Go.Abs.peek G pkDepth (.map q)=some (.fmp ks vs,ids):=by
 refine ⟨[q],?_⟩
 have hp:∀ x,Go.Abs.peek G 99 (.imm x)=some (x,[]):=fun x=>rfl
 show Go.Abs.peek G (99+1) _=_
 unfold Go.Abs.peek
 rw [h]
 dsimp only
 rw [peekL_imm hp]
theorem O.callV {f:Operand} {k:FuncId} {ars:List Operand} {ats:Array TypeId} {vs:List AV} {ivs cap:List IV} {x:IV} (hf:lookO l f=some (.imm (.fn (.func k) cap))) (hk:FnIs C k) (ha:looks l ars=some vs) (hi:imms vs=some ivs) (hr:Ret C k (ivs++cap) x) :
  OpV C id l G nx df pk (.call { callee := .value f,args:=⟨ars⟩,argTypes:=ats }) (.imm x) []:=by
 obtain ⟨n,v,G',nx',pk',ids,h1,h2⟩:=hr
 refine ⟨fun t ht=>⟨n,?_⟩⟩
 have e:ivs.map AV.imm++cap.map AV.imm=(ivs++cap).map AV.imm:=by simp
 simp only [opA,ht.ev hf,aCall,fnOf,callA,hk.byref,Bool.false_eq_true,if_false,ht.evs ha,imms_eq hi,e,peeks_imm,hk.orc,h1,h2,give_nil]
theorem D.auto {fs:List Fp} (h:W C fid nt b l G nx df pk Φ) (hh:fs.reverse.all (Fp.hi base)=true:=by simp [Fp.hi])
  (hk:(drawOK ⟨ol⟩ (fs.reverse.map (Fp.nrm base))&&edgesOK ⟨ol⟩)=true:=by
   simp (disch:=omega) only [List.reverse_cons,List.reverse_nil,List.nil_append,List.cons_append,List.map_cons,List.map_nil,Fp.nrm,direct,nrm_lt,nrm_ge]
   kernel_rfl):D C nt ol base i [] l G nx df pk fs (aft C fid nt b Φ):=D.doneN hh hk h
theorem O.buildX {t e:TypeId} {n:Nat} {parts:List (Nat×Operand)} {k ke:TyI} {xs:List AV} [hk:TyIs C t k] (ht:k.d = .sl e) (he:TyIs C e ke) (hp:looks l (parts.map (·.2))=some xs) (hi:parts.map (·.1)=List.range n)
  (hn:n*ke.sz<=4096) (hz:ke.zero.fits ke.sz=true) (hx:xs.all (AV.fits ke.sz)=true) (hs:0 < ke.sz) :
  OpV C id l G nx df pk (.buildSlice t n ⟨parts⟩) (.row id n) [(id, .set (.row e ke.sz xs false))]:=O.buildS ht hp hi hn hz hx hs
theorem elems_row {o n et sz:Nat} {xs:List AV} {fr:Bool} (h:G o = .row et sz xs fr) (hn:xs.length=n):Go.Abs.elems G (.row o n)=some xs:=by
 simp [Go.Abs.elems,h,hn]
theorem Own.fr {e sz lo hi hi':Nat} {xs:List IV} {G G':Nat->Obj} {v:AV} (h:Own e sz lo hi xs G v) (hh:hi<=hi':=by omega) (hG:∀ o,lo<=o->o < hi->G' o=G o:=by intro o _ _;exact at_upd):Own e sz lo hi' xs G' v:=h.frame hh hG
theorem R.app1 {x y:Operand} {t u e e' lo hi q sz sz':Nat} {k ke:TyI} {xs:List IV} {z:IV} {fr:Bool} {G0:Nat->Obj} (ho:Own e sz lo hi xs G0 v) (hq:G q = .row e' sz' [.imm z] fr) [hk:TyIs C t k] (hm:xs.length+1<=most)
  (next:∀ v' G',Own e sz lo nx (xs++[z]) G' v'->(∀ o,o < lo->G' o=G o)->R C nt ol base (i+1) r ((d,v')::l) G' nx df pk Φ)
  (ht:k.d = .sl e:=by exact rfl) (he:TyIs C e ke:=by infer_instance) (hsz:sz=ke.sz:=by exact rfl) (hu:Nat.beq t u=true:=by exact rfl) (hx:lookO l x=some v:=by exact rfl) (hy:lookO l y=some (.row q 1):=by exact rfl)
  (hG:∀ o,lo<=o->o < hi->G o=G0 o:=by intro o _ _;exact at_upd) (hf:(AV.imm z).fits sz=true:=by first|exact rfl|assumption) (hs:0 < ke.sz:=by decide) (hb:ke.bytes<=4096:=by decide) (hz:ke.zero.fits ke.sz=true:=by exact rfl) (hid:lo<=base+i/\base+i < nx:=by omega)
  (hhi:hi<=nx:=by omega) (hd:Nat.ble (d+1) nt=true:=by exact rfl) :
  R C nt ol base i (⟨some d, .call { callee := .builtin .append,args := #[x,y],argTypes := #[t,u] },ty,pos,af,none⟩::r) l G nx df pk Φ:=by
 subst hsz
 exact R.appOwn (ys:=[z]) ht hu hx (ho.frame hhi hG) hy (elems_row hq rfl) hs hb hz (fun y hy=>by rw [List.mem_singleton.1 hy];exact hf) hm hid hd next
def astQ (C:Cfg) (q:Nat) (lp0 lp1:Obj) (fid nt:Nat) (body:Code) (Φ:Out->Prop):Out->Prop
 | .norm s=>s.G q=lp0/\Wst C fid nt body { s with G:=upd s.G q lp1 } Φ
 |_=>False
theorem R.doneAstQ {q:Nat} {lp0 lp1:Obj} {body:Code} (hG:G q=lp0) (h:W C fid nt body l (upd G q lp1) nx df pk Φ):R C nt ol base i [] l G nx df pk (astQ C q lp0 lp1 fid nt body Φ):=
 .mk fun t ht=>⟨0,_,rfl,hG,h.st t ht⟩
/-! ### interfaces, and functions with one deferred call -/
theorem O.ifcNil {t:TypeId} {x y:Operand} {t2:TypeId} {k:TyI} [hk:TyIs C t k] (hb:k.d = .ifc) (hx:lookO l x=some (.imm .niliface)) (hy:lookO l y=some (.imm .niliface)) (hc:(isNilC x||isNilC y)=true):OpV C id l G nx df pk (.binOp .eql t x y t2) (.imm (.bool true)) []:=
 O.of fun t L ht=>by simp only [opA,ht.ev hx,ht.ev hy,binA,eqAV,hk.is,hb,eqOp,hc,if_true,Option.map_some]
theorem O.ifcSome {t:TypeId} {x y:Operand} {t2 tt:TypeId} {u:IV} {k:TyI} [hk:TyIs C t k] (hb:k.d = .ifc) (hx:lookO l x=some (.imm (.iface tt u))) (hy:lookO l y=some (.imm .niliface)):OpV C id l G nx df pk (.binOp .eql t x y t2) (.imm (.bool false)) []:=
 O.of fun t L ht=>by simp only [opA,ht.ev hx,ht.ev hy,binA,eqAV,hk.is,hb,eqOp,Option.map_some]
theorem W.skipFinDf {m:Option IV} {x:Bool} {Ψ:Bool->(Nat->Obj)->Nat->Prop} (h:Ψ x G nx):W C fid nt .skip l G nx [] (.dfr m x) (finDf Ψ) := .skip fun _ _=>⟨rfl,m,x,rfl,h⟩
theorem res_cell {a:Nat} {t:TypeId} {o:Nat} {k:TyI} {u:AV} {fr:Bool} {s:St} [hk:TyIs C t k] (hg:k.d.isAgg=false) (hs:k.sz=1) (ha:s.tmps a = .ptr o 0) (hG:s.G o = .box [u] fr):resultsA C s [.cell a t]=some u:=by
 simp [resultsA,resultsL,resultA,ha,aLoad,hk.is,hg,hs,readAt,hG,Go.Abs.sub]
theorem W.retFinD {g:AV} {ars cap:List AV} {kf:FuncId} {a:Nat} {t:TypeId} {o:Nat} {k:TyI} {Ψ:AV->(Nat->Obj)->Nat->Prop} [hk:TyIs C t k] (hg:k.d.isAgg=false) (hs:k.sz=1) (ha:look l a=some (.ptr o 0)) (hf:fnOf g=some (.func kf,cap))
  (hc:CalD C kf (ars++cap) none G nx fun _ G' nx'=>∃ u fr,G' o = .box [u] fr/\Ψ u G' nx'):W C fid nt .ret l G nx [(g,ars)] .no (finD C [.cell a t] Ψ) := .ret fun t' ht=>by
 refine ⟨rfl,g,ars,kf,cap,rfl,hf,?_⟩
 obtain ⟨n,v,m',x,G',nx',h1,u,fr,h2,h3⟩:=hc
 exact ⟨n,v,m',x,G',nx',h1,u,res_cell hg hs (ht a _ ha) h2,h3⟩
theorem panD {g:AV} {ars cap:List AV} {kf:FuncId} {a:Nat} {t:TypeId} {o:Nat} {k:TyI} {w:IV} {Ψ:AV->(Nat->Obj)->Nat->Prop} [hk:TyIs C t k] (hg:k.d.isAgg=false) (hs:k.sz=1) (ha:look l a=some (.ptr o 0)) (hf:fnOf g=some (.func kf,cap))
  (hc:CalD C kf (ars++cap) (some w) G nx fun x G' nx'=>x=true/\∃ u fr,G' o = .box [u] fr/\Ψ u G' nx'):∀ t',Agree t' l->finD C [.cell a t] Ψ (.pan w ⟨t',G,nx,[(g,ars)], .no⟩):=fun t' ht=>by
 refine ⟨rfl,g,ars,kf,cap,rfl,hf,?_⟩
 obtain ⟨n,v,m',x,G',nx',h1,h0,u,fr,h2,h3⟩:=hc
 exact ⟨n,v,m',x,G',nx',h1,h0,u,res_cell hg hs (ht a _ ha) h2,h3⟩
theorem peek_box {q off:Nat} {cs:List IV} {fr:Bool} (h:G q = .box (cs.map .imm) fr):Go.Abs.peek G pkDepth (.ptr q off)=some (.fptr cs off,[q]):=by
 have hp:∀ x,Go.Abs.peek G 99 (.imm x)=some (x,[]):=fun x=>rfl
 show Go.Abs.peek G (99+1) _=_
 unfold Go.Abs.peek
 rw [h]
 dsimp only
 rw [peekL_imm hp]
theorem peeks_cons {v:AV} {x:IV} {ids:List Nat} {vs:List IV} (h:Go.Abs.peek G pkDepth v=some (x,ids)):peeks G (v::vs.map .imm)=some (x::vs,ids):=by
 have:=peeks_imm G vs
 unfold peeks at this ⊢
 rw [peekL,h,this]
 simp
theorem O.callFz {f:FuncId} {ar:List Operand} {ats:Array TypeId} {vs:List AV} {ivs:List IV} {ids:List Nat} {x:IV} [hf:FnIs C f] (ha:looks l ar=some vs) (hi:peeks G vs=some (ivs,ids)) (hr:Ret C f ivs x) (hx:x.scalar=false) :
  OpV C id l G nx df pk (.call { callee := .value (.func f),args:=⟨ar⟩,argTypes:=ats }) (.imm x) (frz ids):=by
 obtain ⟨n,v,G',nx',pk',ids,h1,h2⟩:=hr
 refine ⟨fun t ht=>⟨n,?_⟩⟩
 simp only [opA,ev,aCall,fnOf,List.map_nil,List.append_nil,callA,hf.byref,Bool.false_eq_true,if_false,ht.evs ha,hi,hf.orc,h1,h2,hx,give]
theorem frz1 {q:Nat} {cs:List AV} {fr:Bool} (h:G q = .box cs fr):updL G (frz [q]) q = .box cs true:=by
 show upd G q (Obj.freeze (G q)) q=_
 rw [upd_same,h];rfl
theorem frz1_ne {q o:Nat} (h:o≠q):updL G (frz [q]) o=G o:=upd_ne _ _ _ _ h
/-! ### pointers, and nil -/
def isNilp (x y:AV):Option Bool:=match x,y with
 | .imm .nilp, .imm .nilp=>some true
 | .imm .nilp, .ptr _ _ | .ptr _ _, .imm .nilp | .imm .nilp, .imm (.fptr _ _) | .imm (.fptr _ _), .imm .nilp=>some false
 |_,_=>none
theorem isNilp_ok {x y:AV} {b:Bool} (h:isNilp x y=some b) (c:Bool):eqOp c .ptr x y=some b:=by
 unfold isNilp at h
 unfold eqOp
 split at h<;>cases h<;>rfl
theorem isNilp_notStr {x y:AV} {b:Bool} (h:isNilp x y=some b) (op:BinOp) (c:Bool) (t:TypeId):binA C op c t x y=match op with
   | .eql=>(eqAV C c t x y).map fun b => .imm (.bool b)
   | .neq=>(eqAV C c t x y).map fun b => .imm (.bool !b)
   |_=>none:=by
 unfold isNilp at h
 unfold binA
 split at h<;>cases h<;>rfl
theorem O.ptrEq {t:TypeId} {x y:Operand} {t2:TypeId} {k:TyI} {u w:AV} {b:Bool} [hk:TyIs C t k] (hb:k.d = .ptr) (hx:lookO l x=some u) (hy:lookO l y=some w) (h:isNilp u w=some b):OpV C id l G nx df pk (.binOp .eql t x y t2) (.imm (.bool b)) []:=
 O.of fun t' L ht=>by simp only [opA,ht.ev hx,ht.ev hy,isNilp_notStr h,eqAV,hk.is,hb,isNilp_ok h,Option.map_some]
theorem O.ptrNe {t:TypeId} {x y:Operand} {t2:TypeId} {k:TyI} {u w:AV} {b:Bool} [hk:TyIs C t k] (hb:k.d = .ptr) (hx:lookO l x=some u) (hy:lookO l y=some w) (h:isNilp u w=some b):OpV C id l G nx df pk (.binOp .neq t x y t2) (.imm (.bool !b)) []:=
 O.of fun t' L ht=>by simp only [opA,ht.ev hx,ht.ev hy,isNilp_notStr h,eqAV,hk.is,hb,isNilp_ok h,Option.map_some]
end Go.Abs

/- The abstract interpreter: a logic of what code comes to: slices that grow where the order is drawn; structs that hold slices. -/
namespace Go.Abs
variable {C:Cfg} {fid nt:Nat} {l:Env} {G G':Nat->Obj} {nx:Nat} {df:List (AV×List AV)} {pk:Pk} {Φ Φ':Out->Prop} {a b:Code} {ol r:List Oper} {base i d:Nat} {ty:TypeId} {pos:String} {af:Array Edge} {v:AV} {id:Nat}
theorem O.max {x y:Operand} {t u:TypeId} {m n:Int} {k:IntKind} (hx:lookO l x=some (.imm (.int k m))) (hy:lookO l y=some (.imm (.int k n))):OpV C id l G nx df pk (.call { callee := .builtin .max,args := #[x,y],argTypes := #[t,u] }) (.imm (.int k (if n > m then n else m))) []:=
 O.of fun t' L hA=>by simp only [opA,List.map_cons,List.map_nil,hA.ev hx,hA.ev hy,aBuiltin]
theorem D.app1 {x y:Operand} {t u e e' lo hi q sz sz':Nat} {k ke:TyI} {xs:List IV} {z:IV} {fr:Bool} {fs:List Fp} {G0:Nat->Obj} (ho:Own e sz lo hi xs G0 v) (hq:G q = .row e' sz' [.imm z] fr) [hk:TyIs C t k] (hm:xs.length+1<=most)
  (next:∀ v' G' rd o',Own e sz lo nx (xs++[z]) G' v'->(∀ o,o < lo->G' o=G o)->lo<=o'->D C nt ol base (i+1) r ((d,v')::l) G' nx df pk (⟨i,rd,[o'],[]⟩::fs) Φ)
  (ht:k.d = .sl e:=by exact rfl) (he:TyIs C e ke:=by infer_instance) (hsz:sz=ke.sz:=by exact rfl) (hu:Nat.beq t u=true:=by exact rfl) (hx:lookO l x=some v:=by exact rfl) (hy:lookO l y=some (.row q 1):=by exact rfl)
  (hG:∀ o,lo<=o->o < hi->G o=G0 o:=by intro o _ _;exact at_upd) (hf:(AV.imm z).fits sz=true:=by first|exact rfl|assumption) (hs:0 < ke.sz:=by decide) (hb:ke.bytes<=4096:=by decide) (hz:ke.zero.fits ke.sz=true:=by exact rfl) (hid:lo<=base+i/\base+i < nx:=by omega)
  (hhi:hi<=nx:=by omega) (hd:Nat.ble (d+1) nt=true:=by exact rfl) :
  D C nt ol base i (⟨some d, .call { callee := .builtin .append,args := #[x,y],argTypes := #[t,u] },ty,pos,af,none⟩::r) l G nx df pk fs Φ:=by
 subst hsz
 have hrd:rdE l G (.call { callee := .builtin .append,args := #[x,y],argTypes := #[t,u] })=some ([v, .row q 1].flatMap direct):=by
  simp only [rdE,pureOp,looks,hx,hy]
 have hys:([z].map AV.imm).all (AV.fits ke.sz)=true:=by simp [hf]
 have hw:elems G (.row q 1)=some ([z].map AV.imm):=elems_row hq rfl
 rcases ho with ⟨rfl,rfl⟩|⟨o,h1,h2,rfl,hG2⟩
 ·refine D.op1 (O.appNil (hk:=hk) (he:=he) ht hu hx hy hw hs hb hz hys (by simp [most])) hrd hd (next _ _ _ _ (.inr ⟨base+i,hid.1,hid.2,by simp,by rw [upd_same];simp⟩) (fun o ho=>upd_ne _ _ _ _ (by omega)) hid.1)
 ·refine D.op1 (O.appRow (hk:=hk) (he:=he) ht hu hx ((hG o h1 h2).trans hG2) (by simp) hy hw hs hb hz hys (by simpa using hm)) hrd hd (next _ _ _ _ (.inr ⟨o,h1,by omega,by simp,by rw [upd_same];simp⟩) (fun o' ho'=>upd_ne _ _ _ _ (by omega)) h1)
theorem All2.nil {α β:Type} {R:α->β->Prop}:All2 R [] []:=trivial
theorem All2.cons {α β:Type} {R:α->β->Prop} {x:α} {y:β} {l:List α} {m:List β} (h:R x y) (hr:All2 R l m):All2 R (x::l) (y::m):=⟨h,hr⟩
theorem Rdx.agg {d:Nat} {P:Nat->Prop} {vs:List AV} {xs:List IV} (h:All2 (Rdx d G P) vs xs):Rdx (d+1) G P (.agg vs) (.agg xs):=by
 obtain ⟨ids,h1,h2⟩:=h.peekL
 refine ⟨ids,fun k=>?_,h2⟩
 show Go.Abs.peek G (k+d+1) _=_
 unfold Go.Abs.peek
 rw [h1 k]
theorem Rdx.tup {d:Nat} {P:Nat->Prop} {vs:List AV} {xs:List IV} (h:All2 (Rdx d G P) vs xs):Rdx (d+1) G P (.tup vs) (.tup xs):=by
 obtain ⟨ids,h1,h2⟩:=h.peekL
 refine ⟨ids,fun k=>?_,h2⟩
 show Go.Abs.peek G (k+d+1) _=_
 unfold Go.Abs.peek
 rw [h1 k]
theorem allImm_none:∀ {cs:List AV},(∃ v∈cs,∀ x,v ≠ .imm x)->allImm cs=none
 |[],h=>by obtain ⟨v,hv,_⟩:=h;cases hv
 |c::r,h=>by
  obtain ⟨v,hv,hn⟩:=h
  cases c with
  |imm x=>
   have hr:v∈r:=by
    rcases List.mem_cons.1 hv with h|h
    ·exact absurd h (hn x)
    ·exact h
   unfold allImm
   rw [allImm_none ⟨v,hr,hn⟩];rfl
  |_=>rfl
theorem mkAgg_not {cs:List AV} (h:∃ v∈cs,∀ x,v ≠ .imm x):mkAgg cs = .agg cs:=by
 unfold mkAgg
 rw [allImm_none h]
theorem Own.cells1 {e sz lo hi:Nat} {xs:List IV} {v:AV} (h:Own e sz lo hi xs G v):v.cells=[v]:=by
 rcases h with ⟨_,rfl⟩|⟨o,_,_,rfl,_⟩<;>rfl
theorem Own.one1 {e sz lo hi:Nat} {xs:List IV} {v:AV} (h:Own e sz lo hi xs G v):v.one=true:=by
 rcases h with ⟨_,rfl⟩|⟨o,_,_,rfl,_⟩<;>rfl
theorem O.storeP1 {a x:Operand} {t:TypeId} {k:TyI} {o off:Nat} {cs cs':List AV} [hk:TyIs C t k] (hs:k.sz=1) (ha:lookO l a=some (.ptr o off)) (hx:lookO l x=some v) (hc:v.cells=[v]) (h1:v.one=true) (hG:G o = .box cs false) (hn:Nat.ble (off+1) cs.length=true) (hcs:splice cs off [v]=cs') :
  OpV C id l G nx df pk (.store t a x) .undef [(o, .set (.box cs' false))]:=
 O.storeP ha hx (by unfold AV.fits;rw [hc,hs];simp [h1]) hG (by rw [hs];exact hn) (by rw [hc];exact hcs)
/-! ### regions that draw their order: addresses told apart -/
def Fp.ren (g:Nat->Nat) (f:Fp):Fp:=⟨f.i,f.rd.map g,f.wr.map g,f.fz.map g⟩
def fpAddrs (fs:List Fp):List Nat:=fs.flatMap fun f=>f.rd++f.wr++f.fz
def fpWrs (fs:List Fp):List Nat:=fs.flatMap (·.wr)
theorem ren_mem {g:Nat->Nat} {w:Nat} {l:List Nat} (h:∀ x∈l,g w=g x->w=x):(l.map g).contains (g w)=l.contains w:=by
 rw [Bool.eq_iff_iff]
 simp only [List.contains_iff_mem,List.mem_map]
 constructor
 ·rintro ⟨x,hx,he⟩
  rw [h x hx he.symm];exact hx
 ·intro hw;exact ⟨w,hw,rfl⟩
theorem any_ren {g:Nat->Nat} {f f':Nat->Bool}:∀ {l:List Nat},(∀ w∈l,f' (g w)=f w)->(l.map g).any f'=l.any f
 |[],_=>rfl
 |w::r,h=>by
  rw [List.map_cons,List.any_cons,List.any_cons,h w (by simp),any_ren (l:=r) fun x hx=>h x (by simp [hx])]
theorem clash_ren {g:Nat->Nat} {a b:Fp} (hg:∀ w∈a.wr++b.wr,∀ x∈a.rd++a.wr++a.fz++(b.rd++b.wr++b.fz),g w=g x->w=x):clash (a.ren g) (b.ren g)=clash a b:=by
 unfold clash
 congr 1
 ·refine any_ren fun w hw=>?_
  have:=fun x hx=>hg w (by simp [hw]) x hx
  simp only [Fp.ren]
  rw [ren_mem fun x hx=>this x (by simp [hx]),ren_mem fun x hx=>this x (by simp [hx]),ren_mem fun x hx=>this x (by simp [hx])]
 ·refine any_ren fun w hw=>?_
  have:=fun x hx=>hg w (by simp [hw]) x hx
  simp only [Fp.ren]
  rw [ren_mem fun x hx=>this x (by simp [hx]),ren_mem fun x hx=>this x (by simp [hx])]
theorem clearOf_ren {ops:Array Oper} {g:Nat->Nat} {a:Fp}:∀ {fs:List Fp},(∀ w∈fpWrs (a::fs),∀ x∈fpAddrs (a::fs),g w=g x->w=x)->clearOf ops (a.ren g) (fs.map (Fp.ren g))=clearOf ops a fs
 |[],_=>rfl
 |b::r,h=>by
  simp only [List.map_cons,clearOf]
  rw [clash_ren fun w hw x hx=>h w (by simp [fpWrs] at hw ⊢;rcases hw with h|h<;>simp [h]) x (by simp [fpAddrs] at hx ⊢;rcases hx with h|h|h|h|h|h<;>simp [h]),
   clearOf_ren fun w hw x hx=>h w (by simp [fpWrs] at hw ⊢;rcases hw with h|h;simp [h];exact .inr (.inr h)) x (by simp [fpAddrs] at hx ⊢;rcases hx with h|h|h|h;simp [h];simp [h];simp [h];exact .inr (.inr (.inr (.inr (.inr (.inr h))))))]
  rfl
theorem drawOK_ren {ops:Array Oper} {g:Nat->Nat}:∀ {fs:List Fp},(∀ w∈fpWrs fs,∀ x∈fpAddrs fs,g w=g x->w=x)->drawOK ops (fs.map (Fp.ren g))=drawOK ops fs
 |[],_=>rfl
 |a::r,h=>by
  simp only [List.map_cons,drawOK]
  rw [clearOf_ren h,drawOK_ren fun w hw x hx=>h w (by simp [fpWrs] at hw ⊢;exact .inr hw) x (by simp [fpAddrs] at hx ⊢;exact .inr (.inr (.inr hx)))]
def g4 (a b c d:Nat) (k:Nat):Nat:=if k=1 then a else if k=2 then b else if k=3 then c else d
theorem O.callOwn {f:FuncId} {ar:List Operand} {ats:Array TypeId} {vs:List AV} {ivs:List IV} {ids:List Nat} {et sz:Nat} {xs:List IV} (hb:C.byref f=false) (ho:C.orc f ivs=some (.own et sz xs)) (ha:looks l ar=some vs) (hi:peeks G vs=some (ivs,ids)) :
  OpV C id l G nx df pk (.call { callee := .value (.func f),args:=⟨ar⟩,argTypes:=ats }) (.row id xs.length) (frz ids++[(id, .set (.row et sz (xs.map .imm) false))]):=by
 refine O.of fun t L ht=>?_
 simp only [opA,ev,aCall,fnOf,List.map_nil,List.append_nil,callA,hb,Bool.false_eq_true,if_false,ht.evs ha,hi,ho]
theorem O.callOwnI {f:FuncId} {ar:List Operand} {ats:Array TypeId} {vs:List AV} {ivs:List IV} {et sz:Nat} {xs:List IV} (hb:C.byref f=false) (ho:C.orc f ivs=some (.own et sz xs)) (ha:looks l ar=some vs) (hi:imms vs=some ivs) :
  OpV C id l G nx df pk (.call { callee := .value (.func f),args:=⟨ar⟩,argTypes:=ats }) (.row id xs.length) [(id, .set (.row et sz (xs.map .imm) false))]:=
 O.callOwn (ids:=[]) hb ho ha (by rw [imms_eq hi];exact peeks_imm G ivs)
theorem peek_mpx {q:Nat} {ks vs:List IV} {fr:Bool} (h:G q = .mp ks (vs.map .imm) fr):Go.Abs.peek G pkDepth (.map q)=some (.fmp ks vs,[q]):=by
 have hp:∀ x,Go.Abs.peek G 99 (.imm x)=some (x,[]):=fun x=>rfl
 show Go.Abs.peek G (99+1) _=_
 unfold Go.Abs.peek
 rw [h]
 dsimp only
 rw [peekL_imm hp]
theorem updL_frz1 {q id o:Nat} {x:Obj}:updL G (frz [q]++[(id, .set x)]) o=if o=id then x else if o=q then (G q).freeze else G o:=by
 show upd (upd G q (Obj.freeze (G q))) id x o=_
 unfold upd
 rfl
end Go.Abs

/- The logic: ends of drawn regions at any addresses; slices of rows; rows as data. -/
namespace Go.Abs
variable {C:Cfg} {fid nt:Nat} {l:Env} {G:Nat->Obj} {nx:Nat} {df:List (AV×List AV)} {pk:Pk} {Φ:Out->Prop} {a b:Code} {id:Nat}
variable {ol r:List Oper} {base i d:Nat} {ty:TypeId} {pos:String} {af:Array Edge} {v:AV} {ups:List (Nat×U)}
def gN (ads:List Nat) (k:Nat):Nat:=ads.getD (k-1) 0
theorem gN_inj {ads:List Nat} (hn:ads.Nodup) {w x:Nat} (hw:1<=w/\w<=ads.length) (hx:1<=x/\x<=ads.length) (he:gN ads w=gN ads x):w=x:=by
 unfold gN at he
 rw [List.getD_eq_getElem?_getD,List.getD_eq_getElem?_getD,List.getElem?_eq_getElem (by omega),List.getElem?_eq_getElem (by omega)] at he
 simp only [Option.getD_some] at he
 rcases Nat.lt_trichotomy w x with h|h|h
 ·exact absurd he (List.pairwise_iff_getElem.1 hn _ _ (by omega) (by omega) (by omega))
 ·exact h
 ·exact absurd he.symm (List.pairwise_iff_getElem.1 hn _ _ (by omega) (by omega) (by omega))
theorem D.skipN' {fs:List Fp} (ads:List Nat) (hn:ads.Nodup) (fs0:List Fp) (hfs:fs.reverse=fs0.map (Fp.ren (gN ads))) (hb:((fpWrs fs0++fpAddrs fs0).all fun w=>decide (1<=w)&&decide (w<=ads.length))=true)
  (hk:(drawOK ⟨ol⟩ fs0&&edgesOK ⟨ol⟩)=true) (h:W C 0 nt .skip l G nx df pk Φ):D C nt ol base i [] l G nx df pk fs Φ:=
 D.skip (by
  rw [hfs,drawOK_ren fun w hw x hx he=>?_]
  ·exact hk
  ·have h1:=List.all_eq_true.1 hb w (List.mem_append_left _ hw)
   have h2:=List.all_eq_true.1 hb x (List.mem_append_right _ hx)
   simp only [Bool.and_eq_true,decide_eq_true_eq] at h1 h2
   exact gN_inj hn h1 h2 he) h
theorem peek_row1 {o n et sz:Nat} {xs:List IV} {fr:Bool} (h:G o = .row et sz (xs.map .imm) fr) (hn:xs.length=n):Go.Abs.peek G pkDepth (.row o n)=some (.lst xs,[o]):=by
 have hp:∀ x,Go.Abs.peek G 99 (.imm x)=some (x,[]):=fun x=>rfl
 show Go.Abs.peek G (99+1) _=_
 unfold Go.Abs.peek
 rw [h]
 dsimp only
 rw [if_pos (by simpa using hn),peekL_imm hp]
theorem peeks_nil:peeks G []=some ([],[]):=rfl
theorem peeks_one {v:AV} {x:IV} {ids ids2:List Nat} {vs:List AV} {xs:List IV} (h:Go.Abs.peek G pkDepth v=some (x,ids)) (hr:peeks G vs=some (xs,ids2)):peeks G (v::vs)=some (x::xs,ids++ids2):=by
 unfold peeks at hr ⊢
 rw [peekL,h,hr]
theorem peeks_im {x:IV} {ids2:List Nat} {vs:List AV} {xs:List IV} (hr:peeks G vs=some (xs,ids2)):peeks G (.imm x::vs)=some (x::xs,ids2):=peeks_one (ids:=[]) rfl hr
theorem frz_at {q o:Nat} {G:Nat->Obj}:updL G (frz [q]) o=if o=q then (G q).freeze else G o:=by
 show upd G q ((G q).freeze) o=_
 unfold upd;rfl
/-! what is read may be said to be more -/
theorem any_or_le {xs ys:List Nat} (h:∀ x∈xs,x∈ys) (x:Nat) (hx:xs.contains x=true):ys.contains x=true:=by
 simp at hx ⊢;exact h x hx
theorem clash_le1 {a:Fp} {rd':List Nat} {b:Fp} (h:∀ x∈a.rd,x∈rd') (hc:clash { a with rd:=rd' } b=false):clash a b=false:=by
 unfold clash at hc ⊢
 rw [Bool.or_eq_false_iff] at hc ⊢
 refine ⟨hc.1,?_⟩
 have h2:=hc.2
 rw [List.any_eq_false] at h2 ⊢
 intro x hx he
 refine h2 x hx ?_
 rw [Bool.or_eq_true] at he ⊢
 rcases he with he|he
 ·exact .inl (any_or_le h x he)
 ·exact .inr he
theorem clash_le2 {a b:Fp} {rd':List Nat} (h:∀ x∈b.rd,x∈rd') (hc:clash a { b with rd:=rd' }=false):clash a b=false:=by
 unfold clash at hc ⊢
 rw [Bool.or_eq_false_iff] at hc ⊢
 refine ⟨?_,hc.2⟩
 have h1:=hc.1
 rw [List.any_eq_false] at h1 ⊢
 intro x hx he
 refine h1 x hx ?_
 rw [Bool.or_eq_true,Bool.or_eq_true] at he ⊢
 rcases he with (he|he)|he
 ·exact .inl (.inl (any_or_le h x he))
 ·exact .inl (.inr he)
 ·exact .inr he
theorem clearOf_le1 {ops:Array Oper} {a:Fp} {rd':List Nat} (h:∀ x∈a.rd,x∈rd'):∀ fs:List Fp,clearOf ops { a with rd:=rd' } fs=true->clearOf ops a fs=true
 |[],_=>rfl
 |b::r,hc=>by
  unfold clearOf at hc ⊢
  rw [Bool.and_eq_true] at hc ⊢
  refine ⟨?_,clearOf_le1 h r hc.2⟩
  have h1:=hc.1
  rw [Bool.or_eq_true,Bool.and_eq_true] at h1 ⊢
  rcases h1 with h1|⟨h1,h2⟩
  ·exact .inl h1
  ·exact .inr ⟨by rw [clash_le1 h (by simpa using h1)];rfl,h2⟩
theorem clearOf_le2 {ops:Array Oper} {a c:Fp} {rd':List Nat} (h:∀ x∈c.rd,x∈rd') {B:List Fp}:∀ A:List Fp,clearOf ops a (A++{ c with rd:=rd' }::B)=true->clearOf ops a (A++c::B)=true
 |[],hc=>by
  simp only [List.nil_append] at hc ⊢
  unfold clearOf at hc ⊢
  rw [Bool.and_eq_true] at hc ⊢
  refine ⟨?_,hc.2⟩
  have h1:=hc.1
  rw [Bool.or_eq_true,Bool.and_eq_true] at h1 ⊢
  rcases h1 with h1|⟨h1,h2⟩
  ·exact .inl h1
  ·exact .inr ⟨by rw [clash_le2 h (by simpa using h1)];rfl,h2⟩
 |b::A,hc=>by
  rw [List.cons_append] at hc ⊢
  unfold clearOf at hc ⊢
  rw [Bool.and_eq_true] at hc ⊢
  exact ⟨hc.1,clearOf_le2 h A hc.2⟩
theorem drawOK_le {ops:Array Oper} {c:Fp} {rd':List Nat} (h:∀ x∈c.rd,x∈rd') {B:List Fp}:∀ A:List Fp,drawOK ops (A++{ c with rd:=rd' }::B)=true->drawOK ops (A++c::B)=true
 |[],hc=>by
  simp only [List.nil_append] at hc ⊢
  unfold drawOK at hc ⊢
  rw [Bool.and_eq_true] at hc ⊢
  exact ⟨clearOf_le1 h B hc.1,hc.2⟩
 |b::A,hc=>by
  rw [List.cons_append] at hc ⊢
  unfold drawOK at hc ⊢
  rw [Bool.and_eq_true] at hc ⊢
  exact ⟨clearOf_le2 h A hc.1,drawOK_le h A hc.2⟩
theorem drawOK_more {ops:Array Oper} {A fs:List Fp} {j:Nat} {rd rd' wr fz:List Nat} (h:∀ x∈rd,x∈rd') (hd:drawOK ops (A++⟨j,rd',wr,fz⟩::fs).reverse=true):drawOK ops (A++⟨j,rd,wr,fz⟩::fs).reverse=true:=by
 rw [List.reverse_append,List.reverse_cons,List.append_assoc] at hd ⊢
 exact drawOK_le (c:=⟨j,rd,wr,fz⟩) h fs.reverse hd
theorem runE_more {L:Low} {ops:Array Oper} {j:Nat} {rd rd' wr fz:List Nat} (h:∀ x∈rd,x∈rd'):∀ (r:List Oper) (i:Nat) (A fs:List Fp) (s:St) {s':St} {fs':List Fp},runE C L nt ops base i r (A++⟨j,rd',wr,fz⟩::fs) s=some (s',fs')->drawOK ops fs'.reverse=true ->
  ∃ fs2,runE C L nt ops base i r (A++⟨j,rd,wr,fz⟩::fs) s=some (s',fs2)/\drawOK ops fs2.reverse=true
 |[],_,A,fs,s,s',fs',he,hd=>by
  cases he
  exact ⟨_,rfl,drawOK_more h hd⟩
 |o::r,i,A,fs,s,s',fs',he,hd=>by
  unfold runE stepP at he ⊢
  cases hs:stepD C L nt ops base i o s with
  |some y=>rw [hs] at he;exact runE_more h r (i+1) (y.2::A) fs y.1 he hd
  |none=>
   rw [hs] at he
   simp only at he ⊢
   by_cases hk:(pivot ops i&&drawOK ops (A++⟨j,rd',wr,fz⟩::fs).reverse)=true
   ·have hk2:(pivot ops i&&drawOK ops (A++⟨j,rd,wr,fz⟩::fs).reverse)=true:=by
     rw [Bool.and_eq_true] at hk ⊢
     exact ⟨hk.1,drawOK_more h hk.2⟩
    rw [if_pos hk] at he
    rw [if_pos hk2]
    exact ⟨_,he,hd⟩
   ·rw [if_neg hk] at he;cases he
theorem D.more {fs:List Fp} {j:Nat} {rd rd' wr fz:List Nat} (h:∀ x∈rd,x∈rd') (hd:D C nt ol base i r l G nx df pk (⟨j,rd',wr,fz⟩::fs) Φ):D C nt ol base i r l G nx df pk (⟨j,rd,wr,fz⟩::fs) Φ := .mk fun t ht=>by
 obtain ⟨n,s',fs',h1,h2,h3⟩:=hd.st t ht
 rw [Bool.and_eq_true] at h2
 obtain ⟨fs2,h4,h5⟩:=runE_more h r i [] fs _ h1 h2.1
 exact ⟨n,s',fs2,h4,by rw [Bool.and_eq_true];exact ⟨h5,h2.2⟩,h3⟩
theorem D.app2 {x y:Operand} {t u e e' lo hi q sz sz':Nat} {k ke:TyI} {xs:List IV} {z:IV} {fr:Bool} {fs:List Fp} {G0:Nat->Obj} (ho:Own e sz lo hi xs G0 v) (hq:G q = .row e' sz' [.imm z] fr) [hk:TyIs C t k] (hm:xs.length+1<=most)
  (next:∀ v' G' o',Own e sz lo nx (xs++[z]) G' v'->(∀ o,o < lo->G' o=G o)->(∀ o,o≠o'->G' o=G o)->lo<=o'->(o' < hi\/o'=base+i)->D C nt ol base (i+1) r ((d,v')::l) G' nx df pk (⟨i,[o',q],[o'],[]⟩::fs) Φ)
  (ht:k.d = .sl e:=by exact rfl) (he:TyIs C e ke:=by infer_instance) (hsz:sz=ke.sz:=by exact rfl) (hu:Nat.beq t u=true:=by exact rfl) (hx:lookO l x=some v:=by exact rfl) (hy:lookO l y=some (.row q 1):=by exact rfl)
  (hG:∀ o,lo<=o->o < hi->G o=G0 o:=by intro o _ _;exact at_upd) (hf:(AV.imm z).fits sz=true:=by first|exact rfl|assumption) (hs:0 < ke.sz:=by decide) (hb:ke.bytes<=4096:=by decide) (hz:ke.zero.fits ke.sz=true:=by exact rfl) (hid:lo<=base+i/\base+i < nx/\base+i≠q:=by omega)
  (hhi:hi<=nx/\hi<=q:=by omega) (hd:Nat.ble (d+1) nt=true:=by exact rfl) :
  D C nt ol base i (⟨some d, .call { callee := .builtin .append,args := #[x,y],argTypes := #[t,u] },ty,pos,af,none⟩::r) l G nx df pk fs Φ:=by
 subst hsz
 have hrd:rdE l G (.call { callee := .builtin .append,args := #[x,y],argTypes := #[t,u] })=some ([v, .row q 1].flatMap direct):=by
  simp only [rdE,pureOp,looks,hx,hy]
 have hys:([z].map AV.imm).all (AV.fits ke.sz)=true:=by simp [hf]
 have hw:elems G (.row q 1)=some ([z].map AV.imm):=elems_row hq rfl
 rcases ho with ⟨rfl,rfl⟩|⟨o,h1,h2,rfl,hG2⟩
 ·refine D.op1 (O.appNil (hk:=hk) (he:=he) ht hu hx hy hw hs hb hz hys (by simp [most])) hrd hd (D.more (rd':=[base+i,q]) (by simp [direct]) (next _ _ _ (.inr ⟨base+i,hid.1,hid.2.1,by simp,by rw [upd_same];simp⟩) (fun o ho=>upd_ne _ _ _ _ (by omega)) (fun o ho=>upd_ne _ _ _ _ ho) hid.1 (.inr rfl)))
 ·refine D.op1 (O.appRow (hk:=hk) (he:=he) ht hu hx ((hG o h1 h2).trans hG2) (by simp) hy hw hs hb hz hys (by simpa using hm)) hrd hd (D.more (rd':=[o,q]) (by simp [direct]) (next _ _ _ (.inr ⟨o,h1,by omega,by simp,by rw [upd_same];simp⟩) (fun o' ho'=>upd_ne _ _ _ _ (by omega)) (fun o' ho'=>upd_ne _ _ _ _ ho') h1 (.inl h2)))
theorem O.min {x y:Operand} {t u:TypeId} {m n:Int} {k:IntKind} (hx:lookO l x=some (.imm (.int k m))) (hy:lookO l y=some (.imm (.int k n))):OpV C id l G nx df pk (.call { callee := .builtin .min,args := #[x,y],argTypes := #[t,u] }) (.imm (.int k (if n < m then n else m))) []:=
 O.of fun t' L hA=>by simp only [opA,List.map_cons,List.map_nil,hA.ev hx,hA.ev hy,aBuiltin]
theorem O.loadRA {x:Operand} {t et:TypeId} {k:TyI} {o m n sz:Nat} {xs us:List AV} {fr:Bool} {u:AV} [hk:TyIs C t k] (hx:lookO l x=some (.rptr o m n 0)) (hG:G o = .row et sz xs fr) (hm:xs.length=m) (hu:xs[n]? = some u)
  (hc:Go.Abs.sub u.cells 0 k.sz=some us) (hg:k.d.isAgg=true):OpV C id l G nx df pk (.load t x) (mkAgg us) []:=
 O.of fun t L hA=>by simp [opA,hA.ev hx,aLoad,hk.is,hg,readAt,hG,hm,hu,hc]
theorem mul64 {m n:Int} (h : -9223372036854775808<=m*n/\m*n<=9223372036854775807):intOp .mul .i64 m n=some (.int .i64 (m*n)):=by simp only [intOp,wrap64 h]
theorem O.neg {t:TypeId} {x:Operand} {n:Int} {id:Nat} {l:Env} {G:Nat->Obj} {nx:Nat} {df:List (AV×List AV)} {pk:Pk} {C:Cfg} (hx:lookO l x=some (.imm (.int .i64 n))) (h : -9223372036854775807<=n/\n<=9223372036854775807):OpV C id l G nx df pk (.unOp .neg t x) (.imm (.int .i64 (-n))) []:=
 O.of fun t L ht=>by
  have:IntKind.i64.wrap (0-n) = -n:=by rw [wrap64 (by omega)];omega
  simp only [opA,ht.ev hx,unA,this]
end Go.Abs

/- Code whose walks over maps come in whatever order: what it comes to from all states of the machine. -/
open Go Go.Abs Go.RowKit
namespace Go.Abs
variable {M M' M'':Mem} {ρ ρ' ρ'':Ref} {G G' G'':Nat->Obj} {w w' w'':World} {nx nx':Nat} {Q Q' Q'' Q0:Nat->Prop} {P:Program} {C:Cfg}
variable {nt fid:Nat} {b:Frame} {cs:List Frame} {k:List Item} {s s':St} {a:Act} {l:Env} {df:List (AV×List AV)} {pk:Pk} {Φ Φ':Out->Prop} {x y:Code}
def MS (C:Cfg) (fid nt:Nat) (c:Code) (s:St) (Φ:Out->Prop):Prop:=
 ∀ (b:Frame) (cs:List Frame) (Q0 Q:Nat->Prop) (w:World) (M:Mem) (ρ:Ref) (a:Act) (k:List Item),b.fn=fid->SR nt Q0 Q w M ρ s a->PkOK M b cs s.pk ->
  ∃ out,Φ out/\CodeEnd C.P nt b cs k Q0 (s.nx <= ·) Q w M ρ s.G s.nx (lone (b.atR a (.code c::k)) (csM s.pk cs) w) out
structure MW (C:Cfg) (fid nt:Nat) (c:Code) (l:Env) (G:Nat->Obj) (nx:Nat) (df:List (AV×List AV)) (pk:Pk) (Φ:Out->Prop):Prop where
 st:∀ t,Agree t l->MS C fid nt c ⟨t,G,nx,df,pk⟩ Φ
theorem MS.of (hC:CfgOK C) {c:Code} (h:Wst C fid nt c s Φ):MS C fid nt c s Φ:=by
 obtain ⟨n,o,h1,h2⟩:=h
 intro b cs Q0 Q w M ρ a k hb hS hp
 exact ⟨o,h2,code_ok hC (low_ok hC n).1 (low_ok hC n).2 hb c s o h1 Q w M ρ a k hS hp⟩
theorem MW.of (hC:CfgOK C) {c:Code} (h:W C fid nt c l G nx df pk Φ):MW C fid nt c l G nx df pk Φ := .mk fun t ht => .of hC (h.st t ht)
theorem MS.mono {c:Code} (h:MS C fid nt c s Φ) (hi:∀ o,Φ o->Φ' o):MS C fid nt c s Φ':=fun b cs Q0 Q w M ρ a k hb hS hp=>by
 obtain ⟨o,h1,h2⟩:=h b cs Q0 Q w M ρ a k hb hS hp
 exact ⟨o,hi o h1,h2⟩
theorem MW.mono {c:Code} (h:MW C fid nt c l G nx df pk Φ) (hi:∀ o,Φ o->Φ' o):MW C fid nt c l G nx df pk Φ' := .mk fun t ht=>(h.st t ht).mono hi
def aftM (C:Cfg) (fid nt:Nat) (y:Code) (Φ:Out->Prop):Out->Prop
 | .norm s=>MS C fid nt y s Φ
 |o=>Φ o
theorem MS.seq (h:MS C fid nt x s (aftM C fid nt y Φ)):MS C fid nt (.seq x y) s Φ:=by
 intro b cs Q0 Q w M ρ a k hb hS hp
 obtain ⟨o,h1,h2⟩:=h b cs Q0 Q w M ρ a (.code y::k) hb hS hp
 cases o with
 |norm s1=>
  obtain ⟨a1,Q1,w1,M1,ρ1,g,st⟩:=h2
  obtain ⟨o2,h3,h4⟩:=h1 b cs Q0 Q1 w1 M1 ρ1 a1 k hb g.sr g.pk
  exact ⟨o2,h3, .head stepR_seq (CodeEnd.after g.tr g.nx st h4 (fun _ h=>h) (fun o h=>Nat.le_trans g.nx h))⟩
 |exit i s1=>exact ⟨_,h1, .head stepR_seq (h2.thru (fun s' e=>by cases e) (fun id _=>rfl))⟩
 |ret s1=>exact ⟨_,h1, .head stepR_seq (h2.thru (fun s' e=>by cases e) (fun id _=>rfl))⟩
 |pan v s1=>exact ⟨_,h1, .head stepR_seq (h2.thru (fun s' e=>by cases e) (fun id _=>rfl))⟩
theorem MW.seq (h:MW C fid nt x l G nx df pk (aftM C fid nt y Φ)):MW C fid nt (.seq x y) l G nx df pk Φ := .mk fun t ht=>(h.st t ht).seq
theorem MW.cond {c:Operand} {v:Bool} (hc:lookO l c=some (.imm (.bool v))) (h1:v=true->MW C fid nt x l G nx df pk Φ) (h0:v=false->MW C fid nt y l G nx df pk Φ):MW C fid nt (.cond c x y) l G nx df pk Φ:=by
 refine .mk fun t ht b cs Q0 Q w M ρ a k hb hS hp=>?_
 have hv:=hS.tmps.ev c
 rw [show Go.Abs.ev t c = .imm (.bool v) from ht.ev hc] at hv
 have hst:=stepR_cond (P:=C.P) (b:=b) (a:=a) (cs:=csM pk cs) (w:=w) (k:=k) (c:=c) (x:=x) (y:=y) (t:=v) (by rw [eval_evV];exact hv.bool_inv)
 cases v with
 |true=>
  obtain ⟨o,h2,h3⟩:=(h1 rfl).st t ht b cs Q0 Q w M ρ a k hb hS hp
  exact ⟨o,h2, .head hst h3⟩
 |false=>
  obtain ⟨o,h2,h3⟩:=(h0 rfl).st t ht b cs Q0 Q w M ρ a k hb hS hp
  exact ⟨o,h2, .head hst h3⟩
theorem MS.block {id:Nat} (h:MS C fid nt x s (blk' id Φ)):MS C fid nt (.block id x) s Φ:=by
 intro b cs Q0 Q w M ρ a k hb hS hp
 obtain ⟨o,h1,h2⟩:=h b cs Q0 Q w M ρ a (.inBlock id::k) hb hS hp
 cases o with
 |norm s1=>
  obtain ⟨a1,Q1,w1,M1,ρ1,g,st⟩:=h2
  exact ⟨.norm s1,h1, .head stepR_block ⟨a1,Q1,w1,M1,ρ1,g,st.trans (.one stepR_inBlock)⟩⟩
 |exit i s1=>
  obtain ⟨a1,Q1,w1,M1,ρ1,todo,g,he,st⟩:=h2
  have h1:if i=id then Φ (.norm s1) else Φ (.exit i s1):=h1
  by_cases hid:i=id
  ·have h4:Φ (.norm s1):=by rw [if_pos hid] at h1;exact h1
   subst hid
   exact ⟨.norm s1,h4, .head stepR_block ⟨a1,Q1,w1,M1,ρ1,g,st.trans (.one (stepR_exit (by rw [he];simp [exitTo])))⟩⟩
  ·have h4:Φ (.exit i s1):=by rw [if_neg hid] at h1;exact h1
   exact ⟨.exit i s1,h4, .head stepR_block ⟨a1,Q1,w1,M1,ρ1,todo,g,by rw [he];simp [exitTo,Ne.symm hid],st⟩⟩
 |ret s1=>exact ⟨_,h1, .head stepR_block (h2.thru (fun s' e=>by cases e) (fun id e=>by obtain ⟨_,e⟩:=e;cases e))⟩
 |pan v s1=>exact ⟨_,h1, .head stepR_block (h2.thru (fun s' e=>by cases e) (fun id e=>by obtain ⟨_,e⟩:=e;cases e))⟩
theorem MW.block {id:Nat} (h:MW C fid nt x l G nx df pk (blk' id Φ)):MW C fid nt (.block id x) l G nx df pk Φ := .mk fun t ht=>(h.st t ht).block
theorem MW.loop {X:Type} (le:X->Env) (Ge:X->Nat->(Nat->Obj)->Prop) (mu:X->Nat) (x0:X) (hl:Sub (le x0) l) (hG:Ge x0 nx G)
  (h:∀ z nx G,Ge z nx G->MW C fid nt x (le z) G nx df pk (lop le Ge mu df pk z Φ)):MW C fid nt (.loop x) l G nx df pk Φ:=by
 have key:∀ m z nx G t,mu z<=m->Ge z nx G->Agree t (le z)->∀ (b:Frame) (cs:List Frame) (Q0 Q:Nat->Prop) (w:World) (M:Mem) (ρ:Ref) (a:Act) (k:List Item),b.fn=fid->SR nt Q0 Q w M ρ ⟨t,G,nx,df,pk⟩ a->PkOK M b cs pk ->
   ∃ out,Φ out/\CodeEnd C.P nt b cs k Q0 (nx <= ·) Q w M ρ G nx (lone (b.atR a (.code x :: .inLoop x::k)) (csM pk cs) w) out:=by
  intro m
  induction m with
  |zero=>
   intro z nx G t hm hg ht b cs Q0 Q w M ρ a k hb hS hp
   obtain ⟨o,h1,h2⟩:=(h z nx G hg).st t ht b cs Q0 Q w M ρ a (.inLoop x::k) hb hS hp
   cases o with
   |norm s1=>obtain ⟨z',h3,_⟩:=h1;omega
   |exit i s1=>exact ⟨_,h1,h2.thru (fun s' e=>by cases e) (fun id _=>rfl)⟩
   |ret s1=>exact ⟨_,h1,h2.thru (fun s' e=>by cases e) (fun id _=>rfl)⟩
   |pan v s1=>exact ⟨_,h1,h2.thru (fun s' e=>by cases e) (fun id _=>rfl)⟩
  |succ m ih=>
   intro z nx G t hm hg ht b cs Q0 Q w M ρ a k hb hS hp
   obtain ⟨o,h1,h2⟩:=(h z nx G hg).st t ht b cs Q0 Q w M ρ a (.inLoop x::k) hb hS hp
   cases o with
   |norm s1=>
    obtain ⟨z',h3,h4,h5,h6,h7⟩:=h1
    obtain ⟨a1,Q1,w1,M1,ρ1,g,st⟩:=h2
    obtain ⟨t1,G1,n1,d1,p1⟩:=s1
    simp only at h4 h5 h6 h7
    subst h6;subst h7
    obtain ⟨o2,h8,h9⟩:=ih z' n1 G1 t1 (by omega) h5 h4 b cs Q0 Q1 w1 M1 ρ1 a1 k hb g.sr g.pk
    exact ⟨o2,h8,CodeEnd.after g.tr g.nx (st.trans (.one stepR_inLoop)) h9 (fun _ h=>h) (fun o h=>Nat.le_trans g.nx h)⟩
   |exit i s1=>exact ⟨_,h1,h2.thru (fun s' e=>by cases e) (fun id _=>rfl)⟩
   |ret s1=>exact ⟨_,h1,h2.thru (fun s' e=>by cases e) (fun id _=>rfl)⟩
   |pan v s1=>exact ⟨_,h1,h2.thru (fun s' e=>by cases e) (fun id _=>rfl)⟩
 refine .mk fun t ht b cs Q0 Q w M ρ a k hb hS hp=>?_
 obtain ⟨o,h1,h2⟩:=key _ x0 nx G t (Nat.le_refl _) hG (ht.sub hl) b cs Q0 Q w M ρ a k hb hS hp
 exact ⟨o,h1, .head stepR_loop h2⟩
/-! ### from code to calls -/
theorem MW.calls (hC:CfgOK C) {f:FuncId} {fn:Func} {body:Code} {ivs:List IV} {x:IV} (hf:C.fn f=some fn) (hb:fn.body=some body) (hn:Nat.ble ivs.length fn.ntmps=true)
  (h:MW C f fn.ntmps body (envOf 0 (ivs.map .imm)) (fun _ => .gone) 0 [] .no (fin C fn.results.toList fun v G _=>∃ ids,peek G pkDepth v=some (x,ids))) {vs:Array Value}
  (hm:∀ b o,M b=some o->w.heap[b]? = some o) (hv:VL (VI M) ivs vs):Calls C.P f vs w fun e w'=>∃ cv,e = .returned cv/\WS (QN w) w w'/\OrcEnd w M cv w' (.dat x):=by
 intro cs
 have hfn:C.P.funcs[f]? = some fn:=hf
 let b:Frame:={ (default:Frame) with fn:=f,kind := .normal,roundOf:=none }
 let a0:Act:={ tmps:=vs++Array.replicate (fn.ntmps-vs.size) undef,defers:=[] }
 have henter:Frame.enter C.P f vs .normal=b.atR a0 [.code body]:=by simp [Frame.enter,Frame.atR,hfn,hb,b,a0]
 have hvi:VL (VA M (fun _=>none) (fun _ => .gone)) (ivs.map .imm) vs:=VL_imms hv
 have hn':=Nat.le_of_ble_eq_true hn
 have hS:SR fn.ntmps (QN w) (QN w) w M (fun _=>none) ⟨initT (ivs.map .imm),fun _ => .gone,0,[], .no⟩ a0:=
  ⟨Inv.empty hm,TR_init hvi,by have:=hv.1;simp [a0];omega,fun _ h=>h, .nil⟩
 obtain ⟨out,h1,h2⟩:=h.st _ (agree_init _) b cs (QN w) (QN w) w M _ a0 [] rfl hS ⟨rfl,rfl⟩
 have h2:CodeEnd C.P fn.ntmps b cs [] (QN w) (0 <= ·) (QN w) w M (fun _=>none) (fun _ => .gone) 0 (lone (Frame.enter C.P f vs .normal) cs w) out:=by rw [henter];exact h2
 have fin':∀ (s1:St) (a1:Act) (Q1:Nat->Prop) (w1:World) (M1:Mem) (ρ1:Ref) (fr:Frame),(s1.defers=[]/\s1.pk = .no/\∃ v,resultsA C s1 fn.results.toList=some v/\∃ ids,peek s1.G pkDepth v=some (x,ids)) ->
   Goes fn.ntmps b cs (QN w) (0 <= ·) (QN w) w M (fun _=>none) (fun _ => .gone) 0 s1 a1 Q1 w1 M1 ρ1->Steps C.P (lone (Frame.enter C.P f vs .normal) cs w) (lone fr (csM s1.pk cs) w1)->fr.defers=a1.defers->fr.tmps=a1.tmps->fr.fn=f->fr.kind = .normal->fr.mode = .returning ->
   ∃ (e:Ending) (w':World) (fr':Frame),(∃ cv,e = .returned cv/\WS (QN w) w w'/\OrcEnd w M cv w' (.dat x))/\Comes C.P (lone (Frame.enter C.P f vs .normal) cs w) (lone fr' cs w') e/\fr'.fn=f/\fr'.leaving C.P w' e:=by
  intro s1 a1 Q1 w1 M1 ρ1 fr ⟨hd,hp,v,hv,ids,hpeek⟩ g st hfd hft hff hk hmode
  have hl:leaveA C (low C 0) fn.results.toList s1.defers none s1=some (.ret v s1.G s1.nx,s1.pk):=by rw [hd];simp [leaveA,hv]
  obtain ⟨_,hleft⟩:=leave_ok (Q0:=QN w) (N:=fun o=>0<=o) hC (low_ok hC 0).1 a1.defers s1.defers none s1 Q1 w1 M1 ρ1 fr (csM s1.pk cs) fn (.ret v s1.G s1.nx) s1.pk hl hfd g.sr.dfr g.sr.inv g.sr.sub (by rw [hft];exact g.sr.tmps) hmode (by rw [hff];exact hfn) (fun _=>rfl) (fun _ _ => .inl rfl) (fun o ho=>Nat.zero_le _)
  obtain ⟨Q',w',M',ρ',t,i',n,e⟩:=CallEnd.of_left (pk':=s1.pk) st hk hff ⟨fn,hfn⟩ hleft
  have t0:Tr (fun o=>0<=o) (QN w) w M (fun _=>none) (fun _ => .gone) (QN w) w1 M1 ρ1 s1.G:=⟨fun _ h=>h,g.tr.ev,g.tr.ws,g.tr.mq,g.tr.born⟩
  have t:=t0.trans0 t
  rw [hp] at e
  obtain ⟨fr',cv,fn',st',h3,h4,h5,h6,h7,h8,h9⟩:=e
  have hr:=peek_VI i' _ _ _ _ _ hpeek (fun o h=>h) h9
  have hdat:=peek_live _ _ _ _ hpeek
  have hmq:MQ (QN w) M (memOf w' M' ρ' ids):=t.mq.trans ((MQ.memOf i' hdat).sub t.sub)
  have st2:Steps C.P (lone (Frame.enter C.P f vs .normal) cs w) (lone fr' cs w'):=st'
  exact ⟨.returned cv,w',fr',⟨cv,rfl,t.ws,_,Mem.le_trans t.ev.mem (memOf_le _ _ _ _),hmq,(i'.frz hdat).mem,hr⟩,st2,h6,h3,h4,h5,fn',by rw [h6];exact h7,h8⟩
 cases out with
 |norm s1=>
  obtain ⟨a1,Q1,w1,M1,ρ1,g,st⟩:=h2
  exact fin' s1 a1 Q1 w1 M1 ρ1 _ h1 g (st.trans (.one (stepR_end rfl))) rfl rfl rfl rfl rfl
 |ret s1=>
  obtain ⟨a1,Q1,w1,M1,ρ1,todo,g,st⟩:=h2
  exact fin' s1 a1 Q1 w1 M1 ρ1 _ h1 g (st.trans (.one (stepR_ret rfl))) rfl rfl rfl rfl rfl
 |exit i s1=>exact h1.elim
 |pan v s1=>exact h1.elim
/-! ### walks over maps -/
structure Itr (o bi bm clk:Nat) (es:Array MapEntry) (seen:Array Nat) (Q:Nat->Prop) (w:World) (M:Mem) (ρ:Ref):Prop where
 ref:ρ o=some (.pointer (some ⟨bi,0,none⟩))
 it:w.heap[bi]? = some (.mapIter (some bm) clk seen clk)
 mp:M bm=some (.map es clk)
 out:¬ Q bi
 mn:M bi=none
theorem Itr.tr {N:Nat->Prop} {o bi bm clk:Nat} {es:Array MapEntry} {seen:Array Nat} (h:Itr o bi bm clk es seen Q w M ρ) (t:Tr N Q w M ρ G Q' w' M' ρ' G'):Itr o bi bm clk es seen Q' w' M' ρ' where
 ref:=by
  rcases t.ev.ref _ _ h.ref with h1|⟨⟨_,_,_,h1⟩,_⟩
  ·exact h1
  ·cases h1
 it:=by rw [t.ws.block _ h.out];exact h.it
 mp:=t.ev.mem _ _ h.mp
 out:=fun hq=>h.out (t.sub _ hq)
 mn:=by
  cases e:M' bi with
  |none=>rfl
  |some z=>
   rcases t.mq bi (by rw [e];simp) with h1|h1
   ·exact absurd h.mn h1
   ·exact absurd h1 h.out
theorem Tr.wide {N Q1:Nat->Prop} (t:Tr N Q w M ρ G Q' w' M' ρ' G') (hq:∀ b,Q b->Q1 b):Tr N Q1 w M ρ G Q' w' M' ρ' G':=
 ⟨fun b h=>hq b (t.sub b h),t.ev,t.ws.sub hq,t.mq.sub hq,t.born⟩
theorem Tr.next {N N1 N2:Nat->Prop} {bi:Nat} (h:Tr N1 (fun b=>Q b\/b=bi) w M ρ G Q' w' M' ρ' G') (k:Tr N2 (fun b=>Q' b\/b=bi) w' M' ρ' G' Q'' w'' M'' ρ'' G'') (h1:∀ o,N1 o->N o) (h2:∀ o,N2 o->N o):Tr N (fun b=>Q b\/b=bi) w M ρ G Q'' w'' M'' ρ'' G'':=by
 have hq:∀ b,Q' b\/b=bi->Q b\/b=bi:=fun b hb=>hb.elim (h.sub b) .inr
 exact ⟨fun b hb=>hq b (k.sub b hb),h.ev.trans k.ev,h.ws.trans (k.ws.sub hq),h.mq.trans (k.mq.sub hq),fun o ho hr=>k.born o (fun e=>ho (h2 o e)) (h.born o (fun e=>ho (h1 o e)) hr)⟩
theorem DR.move {Q1:Nat->Prop} {ds:List (AV×List AV)} {dcs:List Deferred} (h:DR Q0 Q w M ρ G ds dcs) (h0:∀ r,r < w.heap.size->Q0 r->Q1 r) (h1:∀ r,Q' r->Q r) (h2:∀ r,r < w.heap.size->Q0 r->w'.heap[r]? = w.heap[r]?) (hv:Ev M ρ G M ρ' G):DR Q1 Q' w' M ρ' G ds dcs:=by
 induction h with
 |nil=>exact .nil
 |cons f cap ht hg ha h ih=>exact .cons f cap ht (hg.mono hv) (ha.imp fun _ _=>VA.mono hv) ih
 |mark r ht q0 q hm hr hn h ih=>
  have hlt:r < w.heap.size:=(Array.getElem?_eq_some_iff.1 hr).1
  exact .mark r ht (h0 r hlt q0) (fun e=>q (h1 r e)) hm ((h2 r hlt q0).trans hr) hn ih
theorem rest_ok (hC:CfgOK C) {ol r:List Oper} {base i:Nat} {t:Nat->AV} (hr:ol.drop i=r) (h:R C nt ol base i r l G nx df pk Φ) (ht:Agree t l) (hfree:∀ j,base<=j->j < base+ol.length->ρ j=none) (hb:base+ol.length<=nx) (hS:SR nt Q0 Q w M ρ ⟨t,G,nx,df,pk⟩ a) (hp:PkOK M b cs pk) :
  ∃ out,Φ out/\LineEnd C.P nt b cs k Q0 (base <= ·) Q w M ρ G nx (lone (b.atR a (.inRegion ⟨ol⟩ (List.range' i r.length)::k)) (csM pk cs) w) out:=by
 obtain ⟨n,o,h1,h2⟩:=h.st t ht
 rw [<-runA_eq C (low C n) nt ⟨ol⟩ base r i _ hr] at h1
 refine ⟨o,h2,runA_ok hC (low_ok hC n).1 (low_ok hC n).2 _ h1 List.nodup_range' (fun j hj=>?_) (by simpa using hb) hS hp⟩
 have hl:=congrArg List.length hr
 rw [List.length_drop] at hl
 rw [List.mem_range'] at hj
 obtain ⟨m,hm,rfl⟩:=hj
 have hlt:i+1*m < ol.length:=by omega
 exact ⟨by simpa using hlt,hfree _ (by omega) (by omega)⟩
theorem first_ok (hC:CfgOK C) {op0:Oper} {r:List Oper} {d id:Nat} {t:Nat->AV} {l':Env} {v:AV} {c:Value} (hd:op0.dst=some d) (hg:op0.guard=none) (hnd:∀ c,op0.op ≠ .defer c) (hlt:d < nt)
  (hrun:(execOp (evV a.tmps) op0).run C.P w = .ok (.value c) w') (hS:SR nt Q0 Q w' M ρ ⟨t,G,nx,df,pk⟩ a) (hv:VA M ρ G v c) (ht:Agree t l) (hp:PkOK M b cs pk)
  (hR:R C nt (op0::r) nx 1 r ((d,v)::l) G (nx+(op0::r).length) df pk (fun o=>∃ t',o = .norm ⟨t',G,nx+(op0::r).length,df,pk⟩/\Agree t' l')) :
  ∃ t' a' Q' w'' M' ρ',Agree t' l'/\Goes nt b cs Q0 (nx <= ·) Q w' M ρ G nx ⟨t',G,nx+(op0::r).length,df,pk⟩ a' Q' w'' M' ρ'/\Steps C.P (lone (b.atR a (.code (.region id ⟨op0::r⟩ false)::k)) (csM pk cs) w) (lone (b.atR a' k) (csM pk cs) w''):=by
 have hput:Go.Abs.put nt ⟨t,G,nx+(op0::r).length,df,pk⟩ op0.dst v=some ⟨upd t d v,G,nx+(op0::r).length,df,pk⟩:=by rw [hd];simp only [Go.Abs.put,if_pos hlt]
 have hS1:SR nt Q0 Q w' M ρ ⟨t,G,nx+(op0::r).length,df,pk⟩ a:=⟨hS.inv.later (by simp),hS.tmps,hS.size,hS.sub,hS.dfr⟩
 obtain ⟨hS2,_⟩:=hS1.put hput hv
 obtain ⟨o,⟨t',rfl,ht'⟩,hl⟩:=rest_ok (k:=k) (i:=1) hC rfl hR (ht.put d v) (fun j hj _=>hS.inv.free j hj) (Nat.le_refl _) hS2 hp
 obtain ⟨a',Q',w'',M',ρ',g,st⟩:=hl
 have h0:(⟨op0::r⟩:Array Oper)[0]? = some op0:=by simp
 have hw:Region.wanted op0 (yielded (⟨op0::r⟩:Array Oper) a.tmps)=true:=by simp [Region.wanted,hg]
 have s1:=stepR_region (P:=C.P) (b:=b) (a:=a) (k:=k) (cs:=csM pk cs) (w:=w) (id:=id) (ops:=⟨op0::r⟩)
 have s2:=step_value (P:=C.P) (b:=b) (a:=a) (k:=k) (cs:=csM pk cs) (ops:=⟨op0::r⟩) (i:=0) (rest:=List.range' 1 r.length) (nxt := .value c) h0 hw hnd hrun (.inl rfl)
 have e:List.range (⟨op0::r⟩:Array Oper).size=0::List.range' 1 r.length:=by
  rw [List.range_eq_range']
  show List.range' 0 (r.length+1)=_
  rw [List.range'_succ]
 rw [e] at s1
 exact ⟨t',a',Q',w'',M',ρ',ht',⟨g.tr,Nat.le_trans (by simp) g.nx,g.sr,g.pk⟩, .head s1 (.head s2 st)⟩
structure WalkH {X:Type} (C:Cfg) (fid nt:Nat) (le:X->Env) (Ge:X->Nat->(Nat->Obj)->Prop) (so:X->List Nat) (ks:List IV) (o it d1 fl d3 dk:Nat) (oN oE:Oper) (r12 r13:List Oper) (r14:Code) (df:List (AV×List AV)) (pk:Pk):Prop where
 its:∀ x,look (le x) it=some (.ptr o 0)
 n12:oN.dst=some d1/\oN.op = .next (.tmp it) false/\oN.guard=none/\d1 < nt
 n13:oE.dst=some d3/\oE.op = .entry (.tmp it)/\oE.guard=none/\d3 < nt
 h12:∀ x nx G (v:IV) (bb:Bool),Ge x nx G->(v = .tup [.bool bb]\/∃ k u,v = .tup [.bool bb,k,u])->R C nt (oN::r12) nx 1 r12 ((d1, .imm v)::le x) G (nx+(oN::r12).length) df pk (fun o=>∃ t,o = .norm ⟨t,G,nx+(oN::r12).length,df,pk⟩/\Agree t ((fl, .imm (.bool bb))::le x))
 sub:∀ x v,Sub (le x) ((fl,v)::le x)
 h13:∀ x nx G k u,Ge x nx G->R C nt (oE::r13) nx 1 r13 ((d3, .imm (.tup [k,u]))::le x) G (nx+(oE::r13).length) df pk (fun o=>∃ t,o = .norm ⟨t,G,nx+(oE::r13).length,df,pk⟩/\Agree t ((dk, .imm k)::le x))
 h14:∀ x nx G j k,Ge x nx G->ks[j]? = some k->j∉so x->W C fid nt r14 ((dk, .imm k)::le x) G nx df pk (fun o=>∃ s x',o = .norm s/\so x'=j::so x/\Agree s.tmps (le x')/\Ge x' s.nx s.G/\s.defers=df/\s.pk=pk)
 up:∀ x nx nx' G,Ge x nx G->nx<=nx'->Ge x nx' G
def walkB (oN oE:Oper) (r12 r13:List Oper) (r14:Code) (fl i12 i13 e2 e3:Nat):Code:=
 .seq (.region i12 ⟨oN::r12⟩ false) (.seq (.cond (.tmp fl) .skip (.exit e2)) (.block e3 (.seq (.region i13 ⟨oE::r13⟩ false) r14)))
theorem evV_ptr {t:Nat->AV} {arr:Array Value} {it o bi:Nat} (hT:TR M ρ G t arr) (h:t it = .ptr o 0) (hr:ρ o=some (.pointer (some ⟨bi,0,none⟩))):evV arr (.tmp it) = .pointer (some ⟨bi,0,none⟩):=by
 have:=hT it
 rw [h] at this
 show arr.getD it Go.undef=_
 generalize arr.getD it Go.undef=z at *
 cases this with
 |ptr _ _ b hb=>rw [hr] at hb;cases hb;rfl
theorem leftOf_lt {es:Array MapEntry} {seen:Array Nat} {e:MapEntry} (hn:(es.toList.map (·.born)).Nodup) (he:e∈(leftOf es seen).toList):(leftOf es (seen.push e.born)).size+1=(leftOf es seen).size:=by
 have:=(left_step hn he).length_eq
 simp at this
 omega
theorem walk_loop {X:Type} {le:X->Env} {Ge:X->Nat->(Nat->Obj)->Prop} {so:X->List Nat} {ks:List IV} {o it d1 fl d3 dk bi bm clk i12 i13 e2 e3:Nat} {oN oE:Oper} {r12 r13:List Oper} {r14:Code} {es:Array MapEntry} (hC:CfgOK C) (hbf:b.fn=fid)
  (H:WalkH C fid nt le Ge so ks o it d1 fl d3 dk oN oE r12 r13 r14 df pk) (hbn:Born es clk) (hq0:¬ Q0 bi):∀ (m:Nat) (seen:Array Nat) (x:X) (t:Nat->AV) (G:Nat->Obj) (nx:Nat) (Q:Nat->Prop) (w:World) (M:Mem) (ρ:Ref) (a:Act),
   (leftOf es seen).size=m->SR nt Q0 Q w M ρ ⟨t,G,nx,df,pk⟩ a->PkOK M b cs pk->Itr o bi bm clk es seen Q w M ρ->Agree t (le x)->Ge x nx G->(∀ (j:Nat) (hj:j < es.size),seen.contains es[j].born=true↔j∈so x) ->
   (∀ (j:Nat) (hj:j < es.size),∃ k u,ks[j]? = some k/\VI M k es[j].key/\VI M u es[j].val) ->
   ∃ x' t' G' nx' a' Q' w' M' ρ',(∀ (j:Nat),j < es.size->j∈so x')/\Agree t' (le x')/\Ge x' nx' G'/\Tr (nx <= ·) (fun b=>Q b\/b=bi) w M ρ G Q' w' M' ρ' G'/\nx<=nx'/\SR nt Q0 Q' w' M' ρ' ⟨t',G',nx',df,pk⟩ a'/\PkOK M' b cs pk /\
    Steps C.P (lone (b.atR a (.code (walkB oN oE r12 r13 r14 fl i12 i13 e2 e3) :: .inLoop (walkB oN oE r12 r13 r14 fl i12 i13 e2 e3) :: .inBlock e2::k)) (csM pk cs) w) (lone (b.atR a' k) (csM pk cs) w'):=by
 intro m
 obtain ⟨ds1,op1,ty1,p1,af1,gd1⟩:=oN
 obtain ⟨ds3,op3,ty3,p3,af3,gd3⟩:=oE
 obtain ⟨n1,n2,n3,hlt1⟩:=H.n12
 obtain ⟨n4,n5,n6,hlt3⟩:=H.n13
 simp only at n1 n2 n3 n4 n5 n6
 subst n1 n2 n3 n4 n5 n6
 induction m using Nat.strongRecOn with
 |_ m ih=>
 intro seen x t G nx Q w M ρ a hm hS hp hI ht hg hso hkv
 have hmp:=hS.inv.mem _ _ hI.mp
 have hev:=evV_ptr hS.tmps (ht _ _ (H.its x)) hI.ref
 have hexec:∀ {c:Value} {w':World},(Instr.next (.pointer (some ⟨bi,0,none⟩)) false ty1).run C.P w = .ok c w'->(execOp (evV a.tmps) ⟨some d1, .next (.tmp it) false,ty1,p1,af1,none⟩).run C.P w = .ok (.value c) w':=fun {c w'} h=>by
  show (vNext (Instr.next (evV a.tmps (.tmp it)) false ty1)).run C.P w=_
  rw [hev];exact run_vNext h
 generalize hB:walkB ⟨some d1, .next (.tmp it) false,ty1,p1,af1,none⟩ ⟨some d3, .entry (.tmp it),ty3,p3,af3,none⟩ r12 r13 r14 fl i12 i13 e2 e3=B at *
 rcases run_next_at (P:=C.P) w ty1 bi bm clk clk seen es clk hI.it hmp hbn.1 (Nat.le_refl _) with ⟨h0,hrun⟩|⟨e,he,w1,hw1,hrun⟩
 ·obtain ⟨t',a',Q',w'',M',ρ',ht',g,st⟩:=first_ok (k := .code (.seq (.cond (.tmp fl) .skip (.exit e2)) (.block e3 (.seq (.region i13 ⟨⟨some d3, .entry (.tmp it),ty3,p3,af3,none⟩::r13⟩ false) r14))) :: .inLoop B :: .inBlock e2::k) (id:=i12) hC rfl rfl (by simp) hlt1 (hexec hrun) hS (.imm _ _ VI_tup1) ht hp (H.h12 x nx G (.tup [.bool false]) false hg (.inl rfl))
  have hc:a'.eval (.tmp fl) = .bool false:=by
   have hv:=g.sr.tmps.ev (.tmp fl)
   rw [show Go.Abs.ev t' (.tmp fl) = .imm (.bool false) from ht' _ _ (by simp [look])] at hv
   rw [eval_evV];exact hv.bool_inv
  refine ⟨x,t',G,_,a',Q',w'',M',ρ',fun j hj=>(hso j hj).1 ?_,ht'.sub (H.sub x _),H.up x _ _ G hg g.nx,g.tr.wide fun _ => .inl,g.nx,g.sr,g.pk,?_⟩
  ·cases hcs:seen.contains es[j].born with
   |true=>rfl
   |false=>
    have:es[j]∈(leftOf es seen).toList:=by
     rw [left_list,List.mem_filter]
     exact ⟨by simp,by rw [hcs];rfl⟩
    have:=List.length_pos_of_mem this
    simp at this
    omega
  ·rw [<-hB]
   exact .head stepR_seq (by rw [hB];exact st.trans (.head stepR_seq (.head (stepR_cond hc) (.one (stepR_exit (by simp [exitTo]))))))
 ·have hml:=mem_left he
  obtain ⟨j,hj,hje⟩:=List.getElem_of_mem hml.1
  have hj':j < es.size:=by simpa using hj
  have hje:es[j]=e:=by rw [<-hje];simp
  obtain ⟨kk,uu,hk1,hk2,hk3⟩:=hkv j hj'
  rw [hje] at hk2 hk3
  have hnot:j∉so x:=fun hc=>by
   have:=(hso j hj').2 hc
   rw [hje,hml.2] at this;cases this
  have hheap:w1.heap=w.heap:=by rcases hw1 with rfl|rfl<;>rfl
  have hlt:bi < w.heap.size:=(Array.getElem?_eq_some_iff.1 hI.it).1
  have hsame:∀ r,r≠bi->(ChangeMaps.setBlock w1 bi (.mapIter (some bm) clk (seen.push e.born) clk)).heap[r]? = w.heap[r]? := fun r hr=>by
   simp only [ChangeMaps.setBlock,hheap,Array.getElem?_setIfInBounds]
   rw [if_neg (Ne.symm hr)]
  have hsz:(ChangeMaps.setBlock w1 bi (.mapIter (some bm) clk (seen.push e.born) clk)).heap.size=w.heap.size:=by simp [ChangeMaps.setBlock,hheap]
  have hit2:(ChangeMaps.setBlock w1 bi (.mapIter (some bm) clk (seen.push e.born) clk)).heap[bi]? = some (.mapIter (some bm) clk (seen.push e.born) clk):=by simp [ChangeMaps.setBlock,hheap,hlt]
  have hws:WS (fun b=>Q b\/b=bi) w (ChangeMaps.setBlock w1 bi (.mapIter (some bm) clk (seen.push e.born) clk)):=by
   refine ⟨?_,?_,?_,by omega,fun r hr=>hsame r fun e=>hr (.inr e)⟩
   ·rcases hw1 with rfl|rfl<;>rfl
   ·rcases hw1 with rfl|rfl<;>rfl
   ·rcases hw1 with rfl|rfl<;>rfl
  generalize ChangeMaps.setBlock w1 bi (.mapIter (some bm) clk (seen.push e.born) clk)=w2 at hrun hsame hsz hit2 hws
  have hS2:SR nt Q0 Q w2 M ρ ⟨t,G,nx,df,pk⟩ a:=⟨hS.inv.turn (fun r=>by
   by_cases h:r=bi
   ·subst h;exact .inr ⟨hI.out,hI.mn⟩
   ·exact .inl (hsame r h)) (by omega),hS.tmps,hS.size,hS.sub,hS.dfr.move (fun _ _ h=>h) (fun _ h=>h) (fun r _ hq=>hsame r fun h=>hq0 (h▸hq)) (Ev.refl _ _ _)⟩
  have hI2:Itr o bi bm clk es (seen.push e.born) Q w2 M ρ:=⟨hI.ref,hit2,hI.mp,hI.out,hI.mn⟩
  have hv2:VA M ρ G (.imm (.tup [.bool true,kk,uu])) (.tuple #[.bool true,e.key,e.val]) := .imm _ _ (.tup _ _ rfl fun i y hy=>by
   match i,hy with
   |0,hy=>simp at hy;subst hy;exact .bool _
   |1,hy=>simp at hy;subst hy;exact hk2
   |2,hy=>simp at hy;subst hy;exact hk3
   |i+3,hy=>simp at hy)
  obtain ⟨t',a',Q',w'',M',ρ',ht',g,st⟩:=first_ok (k := .code (.seq (.cond (.tmp fl) .skip (.exit e2)) (.block e3 (.seq (.region i13 ⟨⟨some d3, .entry (.tmp it),ty3,p3,af3,none⟩::r13⟩ false) r14))) :: .inLoop B :: .inBlock e2::k) (id:=i12) hC rfl rfl (by simp) hlt1 (hexec hrun) hS2 hv2 ht hp (H.h12 x nx G (.tup [.bool true,kk,uu]) true hg (.inr ⟨kk,uu,rfl⟩))
  have hc:a'.eval (.tmp fl) = .bool true:=by
   have hv:=g.sr.tmps.ev (.tmp fl)
   rw [show Go.Abs.ev t' (.tmp fl) = .imm (.bool true) from ht' _ _ (by simp [look])] at hv
   rw [eval_evV];exact hv.bool_inv
  have ht2:=ht'.sub (H.sub x _)
  have hI3:=hI2.tr g.tr
  have hev3:=evV_ptr g.sr.tmps (ht2 _ _ (H.its x)) hI3.ref
  have hen:=run_entry_at (P:=C.P) w'' bi bm clk seen es clk e hI3.it (g.sr.inv.mem _ _ hI3.mp) hml.1 hbn.2
  have hexec3:(execOp (evV a'.tmps) ⟨some d3, .entry (.tmp it),ty3,p3,af3,none⟩).run C.P w'' = .ok (.value (.tuple #[e.key,e.val])) w'':=by
   show (vNext (Instr.entry (evV a'.tmps (.tmp it)))).run C.P w''=_
   rw [hev3];exact run_vNext hen
  have hv3:VA M' ρ' G (.imm (.tup [kk,uu])) (.tuple #[e.key,e.val]) := .imm _ _ (.tup _ _ rfl fun i y hy=>by
   match i,hy with
   |0,hy=>simp at hy;subst hy;exact hk2.mono g.tr.ev.mem
   |1,hy=>simp at hy;subst hy;exact hk3.mono g.tr.ev.mem
   |i+2,hy=>simp at hy)
  obtain ⟨t3,a3,Q3,w3,M3,ρ3,ht3,g3,st3⟩:=first_ok (k := .code r14 :: .inBlock e3 :: .inLoop B :: .inBlock e2::k) (id:=i13) hC rfl rfl (by simp) hlt3 hexec3 g.sr hv3 ht2 g.pk (H.h13 x _ G kk uu (H.up x _ _ G hg g.nx))
  obtain ⟨out,⟨s4,x4,rfl,hso4,hA4,hG4,hd4,hp4⟩,hce⟩:=MS.of hC ((H.h14 x _ G j kk (H.up x _ _ G hg (Nat.le_trans g.nx g3.nx)) hk1 hnot).st t3 ht3) b cs Q0 Q3 w3 M3 ρ3 a3 (.inBlock e3 :: .inLoop B :: .inBlock e2::k) hbf g3.sr g3.pk
  obtain ⟨a4,Q4,w4,M4,ρ4,g4,st4⟩:=hce
  obtain ⟨t4,G4,nx4,d4,pk4⟩:=s4
  simp only at hA4 hG4 hd4 hp4
  subst d4 pk4
  have hI5:=(hI3.tr g3.tr).tr g4.tr
  obtain ⟨x5,t5,G5,nx5,a5,Q5,w5,M5,ρ5,h1,h2,h3,tr5,h4,h5,h6,st5⟩:=ih (leftOf es (seen.push e.born)).size (by have:=leftOf_lt hbn.2 he;omega) (seen.push e.born) x4 t4 G4 nx4 Q4 w4 M4 ρ4 a4 rfl g4.sr g4.pk hI5 hA4 hG4 (fun j2 hj2=>by
   rw [hso4,List.mem_cons,<-hso j2 hj2,Array.contains_push,Bool.or_eq_true,beq_iff_eq]
   constructor
   ·rintro (h|h)
    ·right;exact h
    ·left
     have h7:(es.toList.map (·.born))[j2]? = (es.toList.map (·.born))[j]? := by
      rw [List.getElem?_map,List.getElem?_map,Array.getElem?_toList,Array.getElem?_toList,Array.getElem?_eq_getElem hj2,Array.getElem?_eq_getElem hj',hje]
      simp [h]
     exact (List.getElem?_inj (by simpa using hj2) hbn.2).1 h7
   ·rintro (h|h)
    ·subst h;right;rw [hje]
    ·left;exact h) (fun j2 hj2=>by
   obtain ⟨k2,u2,h7,h8,h9⟩:=hkv j2 hj2
   have hle:M.le M4:=Mem.le_trans g.tr.ev.mem (Mem.le_trans g3.tr.ev.mem g4.tr.ev.mem)
   exact ⟨k2,u2,h7,h8.mono hle,h9.mono hle⟩)
  have T1:Tr (fun o=>nx<=o) (fun b=>Q b\/b=bi) w M ρ G Q w2 M ρ G:=⟨fun _ h => .inl h,Ev.refl _ _ _,hws,MQ.refl _ _,fun _ _ h=>h⟩
  have n4:nx<=nx4:=Nat.le_trans g.nx (Nat.le_trans g3.nx g4.nx)
  have T2:=T1.next (N:=fun o=>nx<=o) (g.tr.wide fun _ => .inl) (fun _ h=>h) (fun _ h=>h)
  have T3:=T2.next (N:=fun o=>nx<=o) (g3.tr.wide fun _ => .inl) (fun _ h=>h) (fun _ h=>Nat.le_trans g.nx h)
  have T4:=T3.next (N:=fun o=>nx<=o) (g4.tr.wide fun _ => .inl) (fun _ h=>h) (fun _ h=>Nat.le_trans (Nat.le_trans g.nx g3.nx) h)
  have T5:=T4.next (N:=fun o=>nx<=o) tr5 (fun _ h=>h) (fun _ h=>Nat.le_trans n4 h)
  refine ⟨x5,t5,G5,nx5,a5,Q5,w5,M5,ρ5,h1,h2,h3,T5,Nat.le_trans n4 h4,h5,h6,?_⟩
  have sA:Steps C.P (lone (b.atR a (.code B :: .inLoop B :: .inBlock e2::k)) (csM pk cs) w) (lone (b.atR a' (.code (.seq (.cond (.tmp fl) .skip (.exit e2)) (.block e3 (.seq (.region i13 ⟨⟨some d3, .entry (.tmp it),ty3,p3,af3,none⟩::r13⟩ false) r14))) :: .inLoop B :: .inBlock e2::k)) (csM pk cs) w''):=by
   rw [<-hB];exact .head stepR_seq (by rw [hB];exact st)
  have sB:Steps C.P (lone (b.atR a' (.code (.seq (.cond (.tmp fl) .skip (.exit e2)) (.block e3 (.seq (.region i13 ⟨⟨some d3, .entry (.tmp it),ty3,p3,af3,none⟩::r13⟩ false) r14))) :: .inLoop B :: .inBlock e2::k)) (csM pk cs) w'') (lone (b.atR a3 (.code r14 :: .inBlock e3 :: .inLoop B :: .inBlock e2::k)) (csM pk cs) w3):=
   .head stepR_seq (.head (stepR_cond hc) (.head stepR_skip (.head stepR_block (.head stepR_seq st3))))
  exact sA.trans (sB.trans (st4.trans (.head stepR_inBlock (.head stepR_inLoop st5))))
theorem pre_steps (hC:CfgOK C) {ol:List Oper} {base n:Nat} {rest:List Nat}:∀ (A:List Oper) (i:Nat) (s s':St) (a:Act) (Q:Nat->Prop) (w:World) (M:Mem) (ρ:Ref),(∀ m,m < A.length->ol[i+m]? = A[m]?)->i+A.length<=ol.length->runL C (low C n) nt ⟨ol⟩ base i A s=some (.norm s') ->
  (∀ j,base+i<=j->j < base+ol.length->ρ j=none)->base+ol.length<=s.nx->SR nt Q0 Q w M ρ s a->PkOK M b cs s.pk ->
  ∃ a' Q' w' M' ρ',Goes nt b cs Q0 (fun o=>(base+i<=o/\o < base+i+A.length)\/s.nx<=o) Q w M ρ s.G s.nx s' a' Q' w' M' ρ' /\
   Steps C.P (lone (b.atR a (.inRegion ⟨ol⟩ (List.range' i A.length++rest)::k)) (csM s.pk cs) w) (lone (b.atR a' (.inRegion ⟨ol⟩ rest::k)) (csM s'.pk cs) w')
 |[],i,s,s',a,Q,w,M,ρ,_,_,h,_,_,hS,hp=>by
  cases h
  exact ⟨a,Q,w,M,ρ,⟨Tr.refl _ _ _ _ _ _,Nat.le_refl _,hS,hp⟩,Steps.refl _ _⟩
 |o::A,i,s,s',a,Q,w,M,ρ,hat,hlen,h,hf,hn,hS,hp=>by
  rw [List.length_cons] at hlen
  have ho:(⟨ol⟩:Array Oper)[i]? = some o:=by
   have:=hat 0 (by simp)
   simpa using this
  unfold runL at h
  cases hs:stepA C (low C n) nt ⟨ol⟩ (base+i) o s with
  |none=>rw [hs] at h;cases h
  |some z=>
   rw [hs] at h
   cases z with
   |norm s1=>
    obtain ⟨a1,Q1,w1,M1,ρ1,g,st⟩:=stepA_ok (k:=k) (rest:=List.range' (i+1) A.length++rest) hC (low_ok hC n).1 (low_ok hC n).2 hs ho hS hp (hf _ (by omega) (by omega)) (by omega)
    obtain ⟨a2,Q2,w2,M2,ρ2,g2,st2⟩:=pre_steps hC A (i+1) s1 s' a1 Q1 w1 M1 ρ1 (fun m hm=>by
     have:=hat (m+1) (by simpa using hm)
     rw [List.getElem?_cons_succ] at this
     rw [<-this];congr 1;omega) (by omega) h (fun j h1 h2=>g.tr.born j (fun e=>by rcases e with e|e<;>omega) (hf j (by omega) h2)) (by have:=g.nx;omega) g.sr g.pk
    rw [List.length_cons,List.range'_succ,List.cons_append]
    refine ⟨a2,Q2,w2,M2,ρ2,g2.after g.tr g.nx (fun o e=>?_) (fun o e=>?_),st.trans st2⟩
    ·rcases e with e|e
     ·left;omega
     ·right;exact e
    ·rcases e with e|e
     ·left;omega
     ·right;have:=g.nx;omega
   |exit i s1=>cases h
   |ret s1=>cases h
   |pan v s1=>cases h
theorem MW.walk {X:Type} {le:X->Env} {Ge:X->Nat->(Nat->Obj)->Prop} {so:X->List Nat} {ks us:List IV} {o it d1 fl d3 dk tm i11 i12 i13 e2 e3:Nat} {oN oE rg:Oper} {A r12 r13:List Oper} {r14:Code} {tyM kt et:TypeId} {kM:TyI} {G1:Nat->Obj} {l1:Env} (hC:CfgOK C) (x0:X)
  (hrg:rg.dst=some it/\rg.op = .range tyM (.tmp tm)/\rg.guard=none/\it < nt) [hk:TyIs C tyM kM] (hkm:kM.d = .mp kt et)
  (hA:R C nt (A++[rg]) nx 0 A l G (nx+(A++[rg]).length) df pk (fun out=>∃ t',out = .norm ⟨t',G1,nx+(A++[rg]).length,df,pk⟩/\Agree t' l1)) (hl1:look l1 tm=some (.imm (.fmp ks us))) (ho:o=nx+A.length)
  (H:WalkH C fid nt le Ge so ks o it d1 fl d3 dk oN oE r12 r13 r14 df pk) (hx0:Sub (le x0) ((it, .ptr o 0)::l1)) (hg0:Ge x0 (nx+(A++[rg]).length) G1) (hs0:so x0=[]) :
  MW C fid nt (.seq (.region i11 ⟨A++[rg]⟩ false) (.block e2 (.loop (walkB oN oE r12 r13 r14 fl i12 i13 e2 e3)))) l G nx df pk (fun out=>∃ s x,out = .norm s/\(∀ j,j < ks.length->j∈so x)/\Agree s.tmps (le x)/\Ge x s.nx s.G/\s.defers=df/\s.pk=pk):=by
 refine .mk fun t ht b cs Q0 Q w M ρ a k hb hS hp=>?_
 obtain ⟨ds,op,ty,ps,af,gd⟩:=rg
 obtain ⟨n1,n2,n3,hlt⟩:=hrg
 simp only at n1 n2 n3
 subst n1 n2 n3
 obtain ⟨n,o1,h1,t1,rfl,ht1⟩:=hA.st t ht
 generalize hol:A++[(⟨some it, .range tyM (.tmp tm),ty,ps,af,none⟩:Oper)]=ol at *
 have hll:ol.length=A.length+1:=by rw [<-hol];simp
 have hS1:SR nt Q0 Q w M ρ ⟨t,G,nx+ol.length,df,pk⟩ a:=⟨hS.inv.later (by simp),hS.tmps,hS.size,hS.sub,hS.dfr⟩
 obtain ⟨a1,Q1,w1,M1,ρ1,g1,st1⟩:=pre_steps (k := .code (.block e2 (.loop (walkB oN oE r12 r13 r14 fl i12 i13 e2 e3)))::k) (rest:=[A.length]) hC A 0 _ _ a Q w M ρ (fun m hm=>by rw [<-hol,Nat.zero_add,List.getElem?_append_left hm]) (by omega) h1 (fun j h2 _=>hS.inv.free j (by simpa using h2)) (Nat.le_refl _) hS1 hp
 simp only [Nat.add_zero] at g1
 have hI1:=g1.sr.inv
 simp only at hI1
 -- the map
 have hmv:=g1.sr.tmps tm
 simp only at hmv
 rw [ht1 _ _ hl1] at hmv
 have hmv:=hmv.imm_inv
 generalize hz:a1.tmps.getD tm Go.undef=z at hmv
 cases hmv with
 |fmp _ _ bm es clk hM hkl hvl hks hvs hbn=>
 have hty:tyOf C.P tyM=some kM:=hk.is
 obtain ⟨info,zv,d,q1,q2,q3,q4,q5,q6,q7,q8⟩:=tyOf_some hty
 rw [hkm] at q5
 cases d<;>simp only [tyd,reduceCtorEq,TyD.mp.injEq] at q5
 obtain ⟨rfl,rfl⟩:=q5
 have hrun:=run_range_map (P:=C.P) w1 tyM _ _ bm es clk q2 (hI1.mem _ _ hM)
 have hnone:ρ1 o=none:=g1.tr.born o (fun e=>by rcases e with e|e<;>omega) (hS.inv.free o (show nx<=o by omega))
 have hgone:=hI1.gone o hnone
 have hGG:upd G1 o .gone=G1:=by
  funext q;unfold upd
  split
  ·rename_i e;rw [e,hgone]
  ·rfl
 have hv:Ev M1 ρ1 G1 M1 (upd ρ1 o (some (.pointer (some ⟨w1.heap.size,0,none⟩)))) G1:=by
  have:=Ev.new (M:=M1) (G:=G1) (x := .gone) (r := .pointer (some ⟨w1.heap.size,0,none⟩)) hnone
  rwa [hGG] at this
 have hold:∀ r,r < w1.heap.size->(w1.alloc (.mapIter (some bm) clk #[] clk)).heap[r]? = w1.heap[r]? := fun r hr=>heap_alloc_old w1 _ hr
 have hliv:∀ q,(G1 q).live=true->upd ρ1 o (some (.pointer (some ⟨w1.heap.size,0,none⟩))) q=ρ1 q:=fun q hq=>by
  unfold upd
  rw [if_neg]
  rintro rfl
  rw [hgone] at hq;cases hq
 have hsz1:w1.heap.size < (w1.alloc (.mapIter (some bm) clk #[] clk)).heap.size:=by simp
 have hnew:=heap_alloc_new w1 (.mapIter (some bm) clk #[] clk)
 have hwsA:WS Q1 w1 (w1.alloc (.mapIter (some bm) clk #[] clk)):=WS.alloc hI1.new _
 have hmn:M1 w1.heap.size=none:=by
  cases e:M1 w1.heap.size with
  |none=>rfl
  |some z=>have:=(Array.getElem?_eq_some_iff.1 (hI1.mem _ _ e)).1;omega
 generalize w1.alloc (.mapIter (some bm) clk #[] clk)=w2 at *
 generalize hρ:upd ρ1 o (some (.pointer (some ⟨w1.heap.size,0,none⟩)))=ρ2 at *
 have hρo:ρ2 o=some (.pointer (some ⟨w1.heap.size,0,none⟩)):=by rw [<-hρ];simp [upd]
 have hρn:∀ q,q≠o->ρ2 q=ρ1 q:=fun q hq=>by rw [<-hρ];simp [upd,hq]
 have hI2:Inv (fun r=>Q1 r/\r≠w1.heap.size) w2 M1 ρ2 G1 (nx+ol.length):=by
  refine ⟨fun r z hm=>?_,fun q=>?_,fun q hq=>?_,fun q hq=>?_,fun q q' v v' r h3 h4 h5 h6=>?_,fun q v r h3 h4 h5 h6=>?_,fun r hr=>⟨hI1.new r (by omega),by omega⟩⟩
  ·have h3:=hI1.mem r z hm
   rw [hold r (Array.getElem?_eq_some_iff.1 h3).1];exact h3
  ·by_cases hl:(G1 q).live=true
   ·exact (hI1.obj q).mono rfl (hliv q hl) hv fun v r h3 h4=>hold r (hI1.lt hl h3 h4)
   ·have:G1 q = .gone:=by cases e:G1 q<;>simp_all [Obj.live]
    unfold ObjOK;rw [this];trivial
  ·rw [hρn q (by omega)];exact hI1.free q hq
  ·refine hI1.gone q ?_
   by_cases h3:q=o
   ·subst h3;rw [hρo] at hq;cases hq
   ·rw [<-hρn q h3];exact hq
  ·rw [hliv q h3] at h5;rw [hliv q' h4] at h6
   exact hI1.sep q q' v v' r h3 h4 h5 h6
  ·rw [hliv q h3] at h5
   have:=hI1.own q v r h3 h4 h5 h6
   refine ⟨this.1,this.2,?_⟩
   have:=hI1.lt h3 h5 h6
   omega
 have hexec:(execOp (evV a1.tmps) ⟨some it, .range tyM (.tmp tm),ty,ps,af,none⟩).run C.P w1 = .ok (.value (.pointer (some ⟨w1.heap.size,0,none⟩))) w2:=by
  show (vNext (Instr.range tyM (a1.tmps.getD tm Go.undef))).run C.P w1=_
  rw [hz];exact run_vNext hrun
 have hat:(⟨ol⟩:Array Oper)[A.length]? = some ⟨some it, .range tyM (.tmp tm),ty,ps,af,none⟩:=by rw [<-hol];simp
 have sR:=step_value (P:=C.P) (b:=b) (a:=a1) (k := .code (.block e2 (.loop (walkB oN oE r12 r13 r14 fl i12 i13 e2 e3)))::k) (cs:=csM pk cs) (ops:=⟨ol⟩) (i:=A.length) (rest:=[]) (nxt := .value (.pointer (some ⟨w1.heap.size,0,none⟩))) hat (by simp [Region.wanted]) (by simp) hexec (.inl rfl)
 have hS2:SR nt (fun r=>Q0 r/\r≠w1.heap.size) (fun r=>Q1 r/\r≠w1.heap.size) w2 M1 ρ2 ⟨t1,G1,nx+ol.length,df,pk⟩ a1:=
  ⟨hI2,g1.sr.tmps.mono hv,g1.sr.size,fun r h3=>⟨g1.sr.sub r h3.1,h3.2⟩,g1.sr.dfr.move (fun r h3 h4=>⟨h4,by omega⟩) (fun r h3=>h3.1) (fun r h3 _=>hold r h3) hv⟩
 have hput:Go.Abs.put nt ⟨t1,G1,nx+ol.length,df,pk⟩ (some it) (.ptr o 0)=some ⟨upd t1 it (.ptr o 0),G1,nx+ol.length,df,pk⟩:=by simp only [Go.Abs.put,if_pos hlt]
 obtain ⟨hS3,_⟩:=hS2.put hput (VA.ptr o 0 w1.heap.size hρo)
 have hIt:Itr o w1.heap.size bm clk es #[] (fun r=>Q1 r/\r≠w1.heap.size) w2 M1 ρ2:=⟨hρo,hnew,hM,fun h3=>h3.2 rfl,hmn⟩
 obtain ⟨x,t5,G5,nx5,a5,Q5,w5,M5,ρ5,e1,e3',e4,tr5,e6,e7,e8,st5⟩:=walk_loop (k:=k) (cs:=cs) (i12:=i12) (i13:=i13) (e2:=e2) (e3:=e3) hC hb H hbn (fun h3=>h3.2 rfl) _ #[] x0 _ G1 (nx+ol.length) _ w2 M1 ρ2 _ rfl hS3 g1.pk hIt ((ht1.put it (.ptr o 0)).sub hx0) hg0 (fun j hj=>by rw [hs0];simp) (fun j hj=>by
  have h3:j < ks.length:=by omega
  have h4:j < us.length:=by omega
  have h5:=hks j ks[j] (List.getElem?_eq_getElem h3)
  have h6:=hvs j us[j] (List.getElem?_eq_getElem h4)
  rw [Array.getD_eq_getD_getElem?,Array.getElem?_eq_getElem hj] at h5 h6
  exact ⟨_,_,List.getElem?_eq_getElem h3,h5,h6⟩)
 have TA:Tr (fun q=>nx<=q) Q1 w1 M1 ρ1 G1 (fun r=>(Q1 r/\r≠w1.heap.size)\/r=w1.heap.size) w2 M1 ρ2 G1:=by
  refine ⟨fun r h3=>?_,hv,hwsA,MQ.refl _ _,fun q h3 h4=>?_⟩
  ·rcases h3 with h3|rfl
   ·exact h3.1
   ·exact hI1.new _ (Nat.le_refl _)
  ·rw [hρn q (by omega)];exact h4
 have hN:∀ q,((nx<=q/\q < nx+A.length)\/nx+ol.length<=q)->nx<=q:=fun q h3=>by rcases h3 with h3|h3<;>omega
 have T1:=(g1.tr.trans (N:=fun q=>nx<=q) TA (fun q h3=>hN q (by simpa using h3)) (fun _ h=>h)).trans (N:=fun q=>nx<=q) tr5 (fun _ h=>h) (fun q h3=>by omega)
 have hS6:SR nt Q0 Q5 w5 M5 ρ5 ⟨t5,G5,nx5,df,pk⟩ a5:=⟨e7.inv,e7.tmps,e7.size,fun r h3=>(e7.sub r h3).1,e7.dfr.move (fun r _ h3=>h3.1) (fun _ h=>h) (fun _ _ _=>rfl) (Ev.refl _ _ _)⟩
 refine ⟨.norm ⟨t5,G5,nx5,df,pk⟩,⟨_,x,rfl,fun j hj=>e1 j (by omega),e3',e4,rfl,rfl⟩,a5,Q5,w5,M5,ρ5,⟨T1,Nat.le_trans (Nat.le_add_right nx ol.length) e6,hS6,e8⟩,?_⟩
 have sA:=stepR_region (P:=C.P) (b:=b) (a:=a) (k := .code (.block e2 (.loop (walkB oN oE r12 r13 r14 fl i12 i13 e2 e3)))::k) (cs:=csM pk cs) (w:=w) (id:=i11) (ops:=⟨ol⟩)
 have er:List.range (⟨ol⟩:Array Oper).size=List.range' 0 A.length++[A.length]:=by
  show List.range ol.length=_
  rw [hll,List.range_succ,List.range_eq_range']
 rw [er] at sA
 exact .head stepR_seq (.head sA (st1.trans (.head sR (.head stepR_region_end (.head stepR_block (.head stepR_loop st5))))))
end Go.Abs

/- From what is reckoned to the machine; and to the given rows. -/
open Go Go.Abs Go.RowKit Go.ChangeShapes Go.WideShapes Go.ChangeAt
namespace Go.Abs
theorem cfgOK:CfgOK CC where
 mixed:=by kernel_rfl
 ng:=by
  intro f fn hf hb
  have hall : CC.P.funcs.all (fun fn => !(fn.body.isSome && fn.name == "runtime.NumGoroutine")) = true := by kernel_rfl
  rw [Array.all_eq_true_iff_forall_mem] at hall
  have:=hall fn (Array.mem_of_getElem? hf)
  rw [hb] at this
  simpa using this
 orc:=orcOK
theorem peek_bool {G:Nat->Obj} {k:Nat} {v:AV} {b:Bool} {ids:List Nat} (h:peek G k v=some (.bool b,ids)):v = .imm (.bool b):=by
 cases k with
 |zero=>cases v<;>simp [peek] at h;exact congrArg AV.imm h.1
 |succ k=>
  cases v with
  |imm x=>simp [peek] at h;exact congrArg AV.imm h.1
  |nils=>simp [peek] at h
  |undef=>simp [peek] at h
  |rptr=>simp [peek] at h
  |yld=>simp [peek] at h
  |_=>
   simp only [peek] at h
   (repeat' split at h)<;>simp at h
theorem below_all {H:Type} {enc:TypeId×Value->H} {P:Program} (hl:laidOutB P=true) {W W':World} (hb:Below W.heap.size W W'):∀ (ts:List TypeId) (vs:List Value) (ds:List (DataW H)) (ps:List MemPlace),
  (ts.all fun t=>P.readableRec t&&decide (t < P.types.size))=true->DataW.TrodAll enc P W 0 (fun _=>true) true ts vs ds ps->(∀ x∈ps,x.block < W.heap.size)->DataW.TrodAll enc P W' 0 (fun b=>decide (b < W.heap.size)) true ts vs ds ps
 |[],vs,ds,ps,_,h,_=>by
  obtain ⟨rfl,rfl,rfl⟩:=trodAll_nil h
  exact trodAll_mk0
 |t::ts,vs,ds,ps,hr,h,hlt=>by
  obtain ⟨v,vs',d,ds',p,q,rfl,rfl,rfl,h1,h2⟩:=trodAll_cons h
  rw [List.all_cons,Bool.and_eq_true,Bool.and_eq_true] at hr
  exact trodAll_cons_mk (Below.trod hl hr.1.1 (of_decide_eq_true hr.1.2) h1 hb fun x hx=>hlt x (by simp [hx])) (below_all hl hb ts vs' ds' q hr.2 h2 fun x hx=>hlt x (by simp [hx]))
theorem own:ownKnob Go.Proofs.Try.prog.godebug=none:=by kernel_rfl
theorem laidOut:laidOutB Go.Proofs.Try.prog=true:=by kernel_rfl
theorem law_post {H:Type} {enc:TypeId×Value->H} {f:Func} {s:ChangeSpec} {W W':World} {args:Array Value} {ds gs:List (DataW H)} {before:List MemPlace} (hW:DataW.Whole enc Go.Proofs.Try.prog f.params.toList s.vars false W args.toList ds gs before)
  (hres:f.resultTypes = #[4]) (hsv:s.vars=[]) (hr:(s.fn H (ds++gs)).results=[.lit (.bool true)]) (ha:(s.fn H (ds++gs)).args=ds) (hvs:(s.fn H (ds++gs)).vars=[])
  (hread:(f.params.toList.all fun t=>Go.Proofs.Try.prog.readableRec t&&decide (t < Go.Proofs.Try.prog.types.size))=true) (hb:Below W.heap.size W W') :
  s.post enc Go.Proofs.Try.prog f false true false false W args (.bool true) W':=by
 have hW':=hW
 obtain ⟨p,q,hA,hV,rfl,hfz,hnd⟩:=hW
 rw [hsv] at hV
 obtain ⟨rfl,rfl⟩:=trodVars_none hV
 have hlt:∀ x∈p,x.block < W.heap.size:=fun x hx=>by simpa using hW'.lt x (by simp [hx])
 refine ⟨ds,[],p++[],[],p,[],hW',?_,?_,?_,hb.frame _,fun h=>by cases h⟩
 ·rw [hr,hres]
  exact trodAll_cons_mk (shut_bool Go.Proofs.Try.underlying4 _) trodAll_mk0
 ·rw [ha]
  exact below_all laidOut hb _ _ _ _ hread hA hlt
 ·rw [hvs,hsv]
  exact rfl
end Go.Abs

/- One step of the logic after the other, as far as it goes. -/
open Go Go.Abs
namespace Go.Abs
set_option maxRecDepth 100000
structure Hold (Q:Prop):Prop where
 out:Q
variable {C:Cfg} {id:Nat} {l:Env} {G:Nat->Obj} {nx:Nat} {df:List (AV×List AV)} {pk:Pk}
theorem O.addrX {x y:Operand} {t e:TypeId} {k ke:TyI} {xs:List IV} {kk:IntKind} {n:Int} {u:IV} [hk:TyIs C t k] (ht:k.d = .sl e) (he:TyIs C e ke) (hx:lookO l x=some (.imm (.lst xs))) (hy:lookO l y=some (.imm (.int kk n)))
  (h0:0<=n) (hu:xs[n.toNat]? = some u) (hs:u.cells.length=ke.sz):OpV C id l G nx df pk (.indexAddr t x y) (.imm (.eptr xs n.toNat 0)) []:=O.addrL ht hx hy h0 hu hs
variable {fid nt:Nat} {Φ:Out->Prop} {b:Code}
theorem W.seqR {k:Nat} {ol:Array Oper} {dr:Bool} (h:W C fid nt (.region k ol dr) l G nx df pk (aft C fid nt b Φ)):W C fid nt (.seq (.region k ol dr) b) l G nx df pk Φ:=W.seq h
theorem W.seqC {c:Operand} {a a':Code} (h:W C fid nt (.cond c a a') l G nx df pk (aft C fid nt b Φ)):W C fid nt (.seq (.cond c a a') b) l G nx df pk Φ:=W.seq h
theorem O.addrRX {x y:Operand} {t e et:TypeId} {k ke:TyI} {o m sz:Nat} {xs:List AV} {fr:Bool} {kk:IntKind} {n:Int} [hk:TyIs C t k] (ht:k.d = .sl e) (he:TyIs C e ke) (hx:lookO l x=some (.row o m)) (hy:lookO l y=some (.imm (.int kk n)))
  (hG:G o = .row et sz xs fr) (hm:xs.length=m) (h0:0<=n/\n < m) (hs:sz=ke.sz):OpV C id l G nx df pk (.indexAddr t x y) (.rptr o m n.toNat 0) []:=O.addrR ht hx hy hG hm h0 hs
theorem O.loadRX {x:Operand} {t et:TypeId} {k:TyI} {o m n sz:Nat} {xs:List AV} {fr:Bool} {u:AV} [hk:TyIs C t k] (hx:lookO l x=some (.rptr o m n 0)) (hG:G o = .row et sz xs fr) (hm:xs.length=m) (hu:xs[n]? = some u) (hc:u.cells=[u]) (hg:k.d.isAgg=false) (hs:k.sz=1) :
  OpV C id l G nx df pk (.load t x) u []:=O.loadR hx hG hm hu hc hg hs
theorem O.boolNe {t:TypeId} {x y:Operand} {t2:TypeId} {m n:Bool} {k:TyI} [hk:TyIs C t k] (hb:k.d = .bool) (hx:lookO l x=some (.imm (.bool m))) (hy:lookO l y=some (.imm (.bool n))):OpV C id l G nx df pk (.binOp .neq t x y t2) (.imm (.bool (!(m==n)))) []:=
 O.of fun t L ht=>by simp only [opA,ht.ev hx,ht.ev hy,binA,eqAV,hk.is,hb,eqOp,Option.map_some]
theorem SB {P Q:Prop} (k:Q) (h:Hold Q->P:=by
 intro k
 (repeat (first|(apply R.op0;(first|exact O.move rfl|exact O.assign rfl|exact O.fieldP rfl rfl rfl rfl|exact O.loadP rfl rfl rfl (by first|rfl|assumption) rfl|exact O.cmp rfl rfl rfl|exact O.int rfl rfl (add64 (by omega))|exact O.int rfl rfl (sub64 (by omega))|exact O.int rfl rfl (add8 (by omega))|exact O.pickT rfl (by first|with_reducible rfl|with_reducible assumption|decide) rfl|exact O.pickF rfl (by first|with_reducible rfl|with_reducible assumption|decide) rfl|exact O.lenL rfl rfl|exact O.lenSv rfl rfl|exact O.lenS rfl rfl|exact O.not rfl|exact O.svEq rfl rfl|exact O.svNe rfl rfl|exact O.str rfl rfl rfl|exact O.boolEq rfl rfl rfl|exact O.boolNe rfl rfl rfl|exact O.fieldE rfl rfl rfl rfl|exact O.fieldR rfl rfl rfl rfl|exact O.loadPA rfl rfl (by first|rfl|assumption) rfl rfl|exact O.extr rfl rfl|(apply O.addrX;exact rfl;infer_instance;exact rfl;exact rfl;omega;(first|with_reducible assumption|assumption);(first|exact rfl|assumption))|(apply O.load1;exact rfl;(first|with_reducible assumption|assumption);exact rfl;exact rfl;exact rfl)|(apply O.loadE;exact rfl;exact rfl;exact rfl;(first|with_reducible assumption|assumption);exact rfl)|(apply O.loadEA;exact rfl;exact rfl;(first|with_reducible assumption|assumption);exact rfl)|(apply O.call;exact rfl;exact rfl;(first|with_reducible assumption|assumption))|(apply O.addrRX;exact rfl;infer_instance;exact rfl;exact rfl;(first|with_reducible assumption|assumption);(first|exact rfl|assumption);omega;exact rfl)|(apply O.loadRX;exact rfl;(first|with_reducible assumption|assumption);(first|exact rfl|assumption);(first|with_reducible assumption|assumption);exact rfl;exact rfl;exact rfl)|(apply O.lenO;exact rfl;exact rfl;(first|with_reducible assumption|assumption))|(apply O.build;exact rfl;exact rfl;exact rfl;exact rfl));exact rfl)|(apply R.guardT1;exact rfl;exact rfl;(first|with_reducible rfl|with_reducible assumption|decide))|(apply R.guardT0;exact rfl;exact rfl;(first|with_reducible rfl|with_reducible assumption|decide))|(apply R.guardF1;exact rfl;exact rfl;(first|with_reducible rfl|with_reducible assumption|decide);exact rfl)|(apply R.guardF0;exact rfl;exact rfl;(first|with_reducible rfl|with_reducible assumption|decide);exact rfl)|(apply R.guardN;exact rfl;exact rfl;exact rfl)|apply R.done|(first|apply W.seqR|apply W.seqC)|apply W.region|apply W.draw|(apply W.condT;exact rfl;(first|with_reducible rfl|with_reducible assumption|decide))|(apply W.condF;exact rfl;(first|with_reducible rfl|with_reducible assumption|decide))|apply W.retAft|apply W.retBlk|apply W.retLop|apply W.exitAft|apply W.exitLop|apply W.exitBlk|(apply W.exitBlkNe;exact rfl)|apply W.skipAft|apply W.skipBlk|apply W.retCut|apply W.exitCut|apply R.skip|(apply D.op0;(first|exact O.move rfl|exact O.assign rfl|exact O.fieldP rfl rfl rfl rfl|exact O.loadP rfl rfl rfl (by first|rfl|assumption) rfl|exact O.cmp rfl rfl rfl|exact O.int rfl rfl (add64 (by omega))|exact O.int rfl rfl (sub64 (by omega))|exact O.int rfl rfl (add8 (by omega))|exact O.pickT rfl (by first|with_reducible rfl|with_reducible assumption|decide) rfl|exact O.pickF rfl (by first|with_reducible rfl|with_reducible assumption|decide) rfl|exact O.lenL rfl rfl|exact O.lenSv rfl rfl|exact O.lenS rfl rfl|exact O.not rfl|exact O.svEq rfl rfl|exact O.svNe rfl rfl|exact O.str rfl rfl rfl|exact O.boolEq rfl rfl rfl|exact O.boolNe rfl rfl rfl|exact O.fieldE rfl rfl rfl rfl|exact O.fieldR rfl rfl rfl rfl|exact O.loadPA rfl rfl (by first|rfl|assumption) rfl rfl|exact O.extr rfl rfl|(apply O.addrX;exact rfl;infer_instance;exact rfl;exact rfl;omega;(first|with_reducible assumption|assumption);(first|exact rfl|assumption))|(apply O.load1;exact rfl;(first|with_reducible assumption|assumption);exact rfl;exact rfl;exact rfl)|(apply O.loadE;exact rfl;exact rfl;exact rfl;(first|with_reducible assumption|assumption);exact rfl)|(apply O.loadEA;exact rfl;exact rfl;(first|with_reducible assumption|assumption);exact rfl)|(apply O.call;exact rfl;exact rfl;(first|with_reducible assumption|assumption))|(apply O.addrRX;exact rfl;infer_instance;exact rfl;exact rfl;(first|with_reducible assumption|assumption);(first|exact rfl|assumption);omega;exact rfl)|(apply O.loadRX;exact rfl;(first|with_reducible assumption|assumption);(first|exact rfl|assumption);(first|with_reducible assumption|assumption);exact rfl;exact rfl;exact rfl)|(apply O.lenO;exact rfl;exact rfl;(first|with_reducible assumption|assumption))|(apply O.build;exact rfl;exact rfl;exact rfl;exact rfl));exact rfl;exact rfl)|(apply D.guardT1;exact rfl;exact rfl;(first|with_reducible rfl|with_reducible assumption|decide))|(apply D.guardT0;exact rfl;exact rfl;(first|with_reducible rfl|with_reducible assumption|decide))|(apply D.guardF1;exact rfl;exact rfl;(first|with_reducible rfl|with_reducible assumption|decide);exact rfl)|(apply D.guardF0;exact rfl;exact rfl;(first|with_reducible rfl|with_reducible assumption|decide);exact rfl)|(apply D.guardN;exact rfl;exact rfl;exact rfl)|(apply D.done;kernel_rfl)|(apply D.skip;kernel_rfl)))
 exact Hold.out k):P:=h ⟨k⟩
theorem SS {P Q:Prop} (k:Q) (h:Hold Q->P:=by
 intro k
 (repeat (first|(apply R.op0;(first|exact O.move rfl|exact O.assign rfl|exact O.fieldP rfl rfl rfl rfl|exact O.loadP rfl rfl rfl (by first|rfl|assumption) rfl|exact O.cmp rfl rfl rfl|exact O.int rfl rfl (add64 (by omega))|exact O.int rfl rfl (sub64 (by omega))|exact O.int rfl rfl (add8 (by omega))|exact O.pickT rfl (by first|with_reducible rfl|with_reducible assumption|decide) rfl|exact O.pickF rfl (by first|with_reducible rfl|with_reducible assumption|decide) rfl|exact O.lenL rfl rfl|exact O.lenSv rfl rfl|exact O.lenS rfl rfl|exact O.not rfl|exact O.svEq rfl rfl|exact O.svNe rfl rfl|exact O.str rfl rfl rfl|exact O.boolEq rfl rfl rfl|exact O.boolNe rfl rfl rfl|exact O.fieldE rfl rfl rfl rfl|exact O.fieldR rfl rfl rfl rfl|exact O.loadPA rfl rfl (by first|rfl|assumption) rfl rfl|exact O.extr rfl rfl|(apply O.addrX;exact rfl;infer_instance;exact rfl;exact rfl;omega;(first|with_reducible assumption|assumption);(first|exact rfl|assumption))|(apply O.load1;exact rfl;(first|with_reducible assumption|assumption);exact rfl;exact rfl;exact rfl)|(apply O.loadE;exact rfl;exact rfl;exact rfl;(first|with_reducible assumption|assumption);exact rfl)|(apply O.loadEA;exact rfl;exact rfl;(first|with_reducible assumption|assumption);exact rfl)|(apply O.call;exact rfl;exact rfl;(first|with_reducible assumption|assumption))|(apply O.addrRX;exact rfl;infer_instance;exact rfl;exact rfl;(first|with_reducible assumption|assumption);(first|exact rfl|assumption);omega;exact rfl)|(apply O.loadRX;exact rfl;(first|with_reducible assumption|assumption);(first|exact rfl|assumption);(first|with_reducible assumption|assumption);exact rfl;exact rfl;exact rfl)|(apply O.lenO;exact rfl;exact rfl;(first|with_reducible assumption|assumption))|(apply O.build;exact rfl;exact rfl;exact rfl;exact rfl));exact rfl)|(apply R.guardT1;exact rfl;exact rfl;(first|with_reducible rfl|with_reducible assumption|decide))|(apply R.guardT0;exact rfl;exact rfl;(first|with_reducible rfl|with_reducible assumption|decide))|(apply R.guardF1;exact rfl;exact rfl;(first|with_reducible rfl|with_reducible assumption|decide);exact rfl)|(apply R.guardF0;exact rfl;exact rfl;(first|with_reducible rfl|with_reducible assumption|decide);exact rfl)|(apply R.guardN;exact rfl;exact rfl;exact rfl)|apply R.done|apply W.seq|apply W.region|apply W.draw|apply W.block|(apply W.condT;exact rfl;(first|with_reducible rfl|with_reducible assumption|decide))|(apply W.condF;exact rfl;(first|with_reducible rfl|with_reducible assumption|decide))|apply W.retAft|apply W.retBlk|apply W.retLop|apply W.exitAft|apply W.exitLop|apply W.exitBlk|(apply W.exitBlkNe;exact rfl)|apply W.skipAft|apply W.skipBlk|apply W.retCut|apply W.exitCut|apply R.skip|(apply D.op0;(first|exact O.move rfl|exact O.assign rfl|exact O.fieldP rfl rfl rfl rfl|exact O.loadP rfl rfl rfl (by first|rfl|assumption) rfl|exact O.cmp rfl rfl rfl|exact O.int rfl rfl (add64 (by omega))|exact O.int rfl rfl (sub64 (by omega))|exact O.int rfl rfl (add8 (by omega))|exact O.pickT rfl (by first|with_reducible rfl|with_reducible assumption|decide) rfl|exact O.pickF rfl (by first|with_reducible rfl|with_reducible assumption|decide) rfl|exact O.lenL rfl rfl|exact O.lenSv rfl rfl|exact O.lenS rfl rfl|exact O.not rfl|exact O.svEq rfl rfl|exact O.svNe rfl rfl|exact O.str rfl rfl rfl|exact O.boolEq rfl rfl rfl|exact O.boolNe rfl rfl rfl|exact O.fieldE rfl rfl rfl rfl|exact O.fieldR rfl rfl rfl rfl|exact O.loadPA rfl rfl (by first|rfl|assumption) rfl rfl|exact O.extr rfl rfl|(apply O.addrX;exact rfl;infer_instance;exact rfl;exact rfl;omega;(first|with_reducible assumption|assumption);(first|exact rfl|assumption))|(apply O.load1;exact rfl;(first|with_reducible assumption|assumption);exact rfl;exact rfl;exact rfl)|(apply O.loadE;exact rfl;exact rfl;exact rfl;(first|with_reducible assumption|assumption);exact rfl)|(apply O.loadEA;exact rfl;exact rfl;(first|with_reducible assumption|assumption);exact rfl)|(apply O.call;exact rfl;exact rfl;(first|with_reducible assumption|assumption))|(apply O.addrRX;exact rfl;infer_instance;exact rfl;exact rfl;(first|with_reducible assumption|assumption);(first|exact rfl|assumption);omega;exact rfl)|(apply O.loadRX;exact rfl;(first|with_reducible assumption|assumption);(first|exact rfl|assumption);(first|with_reducible assumption|assumption);exact rfl;exact rfl;exact rfl)|(apply O.lenO;exact rfl;exact rfl;(first|with_reducible assumption|assumption))|(apply O.build;exact rfl;exact rfl;exact rfl;exact rfl));exact rfl;exact rfl)|(apply D.guardT1;exact rfl;exact rfl;(first|with_reducible rfl|with_reducible assumption|decide))|(apply D.guardT0;exact rfl;exact rfl;(first|with_reducible rfl|with_reducible assumption|decide))|(apply D.guardF1;exact rfl;exact rfl;(first|with_reducible rfl|with_reducible assumption|decide);exact rfl)|(apply D.guardF0;exact rfl;exact rfl;(first|with_reducible rfl|with_reducible assumption|decide);exact rfl)|(apply D.guardN;exact rfl;exact rfl;exact rfl)|(apply D.done;kernel_rfl)|(apply D.skip;kernel_rfl)))
 exact Hold.out k):P:=h ⟨k⟩
theorem SD {P Q:Prop} (k:Q) (h:Hold Q->P:=by
 intro k
 (repeat (first|(apply D.op0;(first|exact O.move rfl|exact O.assign rfl|exact O.fieldP rfl rfl rfl rfl|exact O.loadP rfl rfl rfl (by first|rfl|assumption) rfl|exact O.cmp rfl rfl rfl|exact O.int rfl rfl (add64 (by omega))|exact O.int rfl rfl (sub64 (by omega))|exact O.int rfl rfl (add8 (by omega))|exact O.pickT rfl (by first|with_reducible rfl|with_reducible assumption|decide) rfl|exact O.pickF rfl (by first|with_reducible rfl|with_reducible assumption|decide) rfl|exact O.lenL rfl rfl|exact O.lenSv rfl rfl|exact O.lenS rfl rfl|exact O.not rfl|exact O.svEq rfl rfl|exact O.svNe rfl rfl|exact O.str rfl rfl rfl|exact O.boolEq rfl rfl rfl|exact O.boolNe rfl rfl rfl|exact O.fieldE rfl rfl rfl rfl|exact O.fieldR rfl rfl rfl rfl|exact O.loadPA rfl rfl (by first|rfl|assumption) rfl rfl|exact O.extr rfl rfl|(apply O.addrX;exact rfl;infer_instance;exact rfl;exact rfl;omega;(first|with_reducible assumption|assumption);(first|exact rfl|assumption))|(apply O.load1;exact rfl;(first|with_reducible assumption|assumption);exact rfl;exact rfl;exact rfl)|(apply O.loadE;exact rfl;exact rfl;exact rfl;(first|with_reducible assumption|assumption);exact rfl)|(apply O.loadEA;exact rfl;exact rfl;(first|with_reducible assumption|assumption);exact rfl)|(apply O.call;exact rfl;exact rfl;(first|with_reducible assumption|assumption))|(apply O.addrRX;exact rfl;infer_instance;exact rfl;exact rfl;(first|with_reducible assumption|assumption);(first|exact rfl|assumption);omega;exact rfl)|(apply O.loadRX;exact rfl;(first|with_reducible assumption|assumption);(first|exact rfl|assumption);(first|with_reducible assumption|assumption);exact rfl;exact rfl;exact rfl)|(apply O.lenO;exact rfl;exact rfl;(first|with_reducible assumption|assumption))|(apply O.build;exact rfl;exact rfl;exact rfl;exact rfl));exact rfl;exact rfl)|(apply D.guardT1;exact rfl;exact rfl;(first|with_reducible rfl|with_reducible assumption|decide))|(apply D.guardT0;exact rfl;exact rfl;(first|with_reducible rfl|with_reducible assumption|decide))|(apply D.guardF1;exact rfl;exact rfl;(first|with_reducible rfl|with_reducible assumption|decide);exact rfl)|(apply D.guardF0;exact rfl;exact rfl;(first|with_reducible rfl|with_reducible assumption|decide);exact rfl)|(apply D.guardN;exact rfl;exact rfl;exact rfl)))
 exact Hold.out k):P:=h ⟨k⟩
theorem Sub.auto {l' l:Env} (h:Sub l' l:=by
 (repeat (first|exact Sub.nil _|(apply Sub.cons;exact rfl)))):Sub l' l:=h
end Go.Abs
