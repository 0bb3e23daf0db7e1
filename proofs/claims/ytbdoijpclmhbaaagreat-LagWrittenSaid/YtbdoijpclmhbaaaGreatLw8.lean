/- The abstract interpreter: a logic of what code comes to: panics where the order is drawn, deferred calls, maps. -/
import Derived.Test.YtbdoijpclmhbaaaGreatLw7
import Derived.KernelRfl
namespace Go.Abs
variable {C:Cfg} {fid nt:Nat} {l:Env} {G G':Nat->Obj} {nx:Nat} {df:List (AV×List AV)} {pk:Pk} {Φ Φ':Out->Prop} {a b:Code} {ol r:List Oper} {base i d:Nat} {ty:TypeId} {pos:String} {af:Array Edge} {v:AV} {id:Nat}
/-! ### regions that draw their order, and panic -/
def Fp.quiet (f:Fp):Bool:=f.wr.isEmpty&&f.fz.isEmpty
def restOK (ops:Array Oper) (i:Nat):List Nat->Bool
 |[]=>true
 |j::r=>ordered ops i j&&restOK ops i r
theorem runX_rest {L:Low} {ops:Array Oper} {i:Nat}:∀ (js:List Nat) (s:St),restOK ops i js=true->runX C L nt ops base js [i] s=some []
 |[],_,_=>rfl
 |j::r,s,h=>by
  unfold restOK at h
  rw [Bool.and_eq_true] at h
  unfold runX
  rw [if_pos (by simp [h.1])]
  exact runX_rest r s h.2
structure DX (C:Cfg) (nt:Nat) (ol:List Oper) (l0:Env) (base i:Nat) (r:List Oper) (l:Env) (G:Nat->Obj) (nx:Nat) (df:List (AV×List AV)) (pk:Pk) (fs:List Fp) (Φ:Out->Prop):Prop where
 st:ol.drop i=r->∀ t,Agree t l->∃ N pre fp v,(∀ n,N<=n->(∀ fs0,runE C (low C n) nt ⟨ol⟩ base i r fs0 ⟨t,G,nx,df,pk⟩=none)/\runX C (low C n) nt ⟨ol⟩ base (List.range' i r.length) [] ⟨t,G,nx,df,pk⟩=some (pre.map (fun f=>(f,none))++[(fp,some v)])) /\
  (pre.all Fp.quiet=true/\fp.quiet=true)/\(drawOK ⟨ol⟩ (fs.reverse++(pre++[fp]))&&edgesOK ⟨ol⟩)=true/\∀ t',Agree t' l0->Φ (.pan v ⟨t',G,nx,df,pk⟩)
theorem contains_nil (q:Nat):([]:List Nat).contains q=false:=rfl
def keepE (ol:List Oper):Env->Env
 |[]=>[]
 |(i,v)::r=>bif ol.any (fun o=>match o.dst with|some d=>Nat.beq d i|none=>false) then keepE ol r else (i,v)::keepE ol r
theorem keepE_ok {ol:List Oper} {i:Nat} {v:AV}:∀ {l:Env},look (keepE ol l) i=some v->look l i=some v/\ol.any (fun o=>o.dst==some i)=false
 |[],h=>by cases h
 |(j,w)::r,h=>by
  unfold keepE at h
  cases hc:ol.any (fun o=>match o.dst with|some d=>Nat.beq d j|none=>false) with
  |true=>
   rw [hc] at h
   obtain ⟨h1,h2⟩:=keepE_ok (l:=r) h
   refine ⟨?_,h2⟩
   unfold look
   split
   ·rename_i hb
    have e:i=j:=Nat.eq_of_beq_eq_true hb
    subst e
    exfalso
    rw [List.any_eq_true] at hc
    obtain ⟨o,ho,hd⟩:=hc
    rw [List.any_eq_false] at h2
    have:=h2 o ho
    split at hd
    ·rename_i d he
     have e:d=i:=Nat.eq_of_beq_eq_true hd
     subst e
     rw [he] at this;simp at this
    ·cases hd
   ·exact h1
  |false=>
   rw [hc] at h
   simp only [cond_false] at h
   unfold look at h ⊢
   split at h
   ·rename_i hb
    refine ⟨h,?_⟩
    have e:i=j:=Nat.eq_of_beq_eq_true hb
    subst e
    rw [List.any_eq_false] at hc ⊢
    intro o ho hd
    have hd:o.dst=some i:=by simpa using hd
    apply hc o ho
    rw [hd]
    exact Nat.beq_refl i
   ·exact keepE_ok (l:=r) h
theorem W.drawX {k:Nat} {ol:List Oper} (h:DX C nt ol (keepE ol l) nx 0 ol l G (nx+ol.length) df pk [] Φ):W C fid nt (.region k ⟨ol⟩ true) l G nx df pk Φ:=by
 refine .mk fun t ht=>?_
 obtain ⟨N,pre,fp,v,h1,⟨hq,hq2⟩,hk,hΦ⟩:=h.st rfl t ht
 obtain ⟨h1,h2⟩:=h1 N (Nat.le_refl _)
 have h1:=h1 []
 rw [<-runP_eq C (low C N) nt ⟨ol⟩ nx ol 0 _ _ rfl,<-List.range_eq_range'] at h1
 rw [<-List.range_eq_range'] at h2
 have e1:runP C (low C N) nt ⟨ol⟩ nx (List.range (Array.mk ol).size) [] { tmps:=t,G:=G,nx:=nx+(Array.mk ol).size,defers:=df,pk:=pk }=none:=h1
 have e2:runX C (low C N) nt ⟨ol⟩ nx (List.range (Array.mk ol).size) [] { tmps:=t,G:=G,nx:=nx+(Array.mk ol).size,defers:=df,pk:=pk }=_:=h2
 have hall:(pre++[fp]).all Fp.quiet=true:=by simp [hq,hq2]
 have hwr:∀ f∈pre++[fp],f.wr=[]/\f.fz=[]:=fun f hf=>by
  have:=List.all_eq_true.1 hall f hf
  unfold Fp.quiet at this
  simpa using this
 have hm1:(pre.map (fun f=>(f,(none:Option IV)))++[(fp,some v)]).filterMap (·.2)=[v]:=by
  rw [List.filterMap_append]
  have:(pre.map (fun f=>(f,(none:Option IV)))).filterMap (·.2)=[]:=by
   rw [List.filterMap_eq_nil_iff];intro x hx;obtain ⟨f,_,rfl⟩:=List.mem_map.1 hx;rfl
  rw [this];rfl
 have hm2:(pre.map (fun f=>(f,(none:Option IV)))++[(fp,some v)]).map (·.1)=pre++[fp]:=by
  rw [List.map_append,List.map_map]
  simp [Function.comp_def]
 have hfz:fzAll (pre.map (fun f=>(f,(none:Option IV)))++[(fp,some v)])=[]:=by
  unfold fzAll
  rw [List.flatMap_eq_nil_iff]
  intro x hx
  have:x.1∈pre++[fp]:=by rw [<-hm2];exact List.mem_map.2 ⟨x,hx,rfl⟩
  exact (hwr _ this).2
 have hw2:((pre.map (fun f=>(f,(none:Option IV)))++[(fp,some v)]).all fun e=>e.1.wr.all fun q=>decide (nx<=q))=true:=by
  rw [List.all_eq_true]
  intro x hx
  have:x.1∈pre++[fp]:=by rw [<-hm2];exact List.mem_map.2 ⟨x,hx,rfl⟩
  rw [(hwr _ this).1];rfl
 have hk':(drawOK ⟨ol⟩ (pre++[fp])&&edgesOK ⟨ol⟩)=true:=hk
 rw [Bool.and_eq_true] at hk'
 refine ⟨N, .pan v ⟨(poison ⟨ol⟩ (pre.map (fun f=>(f,none))++[(fp,some v)]) ⟨t,G,nx,df,pk⟩).tmps,G,nx+ol.length,df,pk⟩,?_,hΦ _ ?_⟩
 rotate_left
 ·intro i v hv
  obtain ⟨h1,h2⟩:=keepE_ok hv
  show (if _ then _ else _)=_
  rw [if_neg]
  ·exact ht i v h1
  ·show ¬ (ol.any fun o=>o.dst==some i)=true
   rw [h2];decide
 unfold code regionA
 rw [if_pos rfl]
 simp only [e1]
 unfold failA
 simp only [e2,hm1]
 rw [if_pos (by rw [hm2,hk'.1,hk'.2,hw2];rfl)]
 unfold poison
 simp only [hfz,contains_nil,Bool.false_eq_true,if_false]
 rfl
theorem DX.op0 {l0:Env} {op:Op} {fs:List Fp} {rd:List Nat} (h:OpV C (base+i) l G nx df pk op v []) (hr:rdE l G op=some rd) (hd:Nat.ble (d+1) nt=true)
  (next:DX C nt ol l0 base (i+1) r ((d,v)::l) G nx df pk (⟨i,rd,[],[]⟩::fs) Φ):DX C nt ol l0 base i (⟨some d,op,ty,pos,af,none⟩::r) l G nx df pk fs Φ:=by
 refine .mk fun ho t ht=>?_
 obtain ⟨n,hn⟩:=h.st t ht
 have h0:(Array.mk ol)[i]? = some ⟨some d,op,ty,pos,af,none⟩:=by
  have:=congrArg (fun l=>l[0]?) ho
  simpa using this
 have h1:ol.drop (i+1)=r:=by
  have:=congrArg List.tail ho
  simpa using this
 obtain ⟨N,pre,fp,v',a1,⟨a2,a3⟩,a4,a5⟩:=next.st h1 (upd t d v) (ht.put d v)
 have hlt:d < nt:=Nat.le_of_ble_eq_true hd
 refine ⟨max n N,⟨i,rd,[],[]⟩::pre,fp,v',fun m hm=>?_,⟨by simp only [List.all_cons,a2];rfl,a3⟩,by simpa using a4,a5⟩
 obtain ⟨b1,b2⟩:=a1 m (by omega)
 have hop:=opA_mono (low_mono (C:=C) (show n<=m by omega)) hn
 constructor
 ·intro fs0
  unfold runE stepP stepD
  simp only [wantA,hop,Go.Abs.put,if_pos hlt,rdE_ok ht hr]
  exact b1 _
 ·simp only [List.length_cons,List.range'_succ,runX,List.any_nil,Bool.false_eq_true,if_false,h0,stepX,wantA,hop,Go.Abs.put,if_pos hlt,rdE_ok ht hr]
  have e:updL G []=G:=rfl
  rw [e,b2];rfl
theorem DX.callPan {l0:Env} {o:Option Nat} {f:FuncId} {ars:List Operand} {ats:Array TypeId} {vs:List AV} {ivs:List IV} {u:IV} {fs:List Fp} {rd:List Nat} [hf:FnIs C f] (ha:looks l ars=some vs) (hi:imms vs=some ivs) (hr:RetPan C f ivs u)
  (hrd:rdE l G (.call { callee := .value (.func f),args:=⟨ars⟩,argTypes:=ats })=some rd) (hk:(drawOK ⟨ol⟩ (fs.reverse++[⟨i,rd,[],[]⟩])&&edgesOK ⟨ol⟩&&restOK ⟨ol⟩ i (List.range' (i+1) r.length))=true)
  (next:∀ t',Agree t' l0->Φ (.pan u ⟨t',G,nx,df,pk⟩)):DX C nt ol l0 base i (⟨o, .call { callee := .value (.func f),args:=⟨ars⟩,argTypes:=ats },ty,pos,af,none⟩::r) l G nx df pk fs Φ:=by
 refine .mk fun ho t ht=>?_
 have h0:(Array.mk ol)[i]? = some ⟨o, .call { callee := .value (.func f),args:=⟨ars⟩,argTypes:=ats },ty,pos,af,none⟩:=by
  have:=congrArg (fun l=>l[0]?) ho
  simpa using this
 obtain ⟨n,G',nx',pk',h1,hs⟩:=hr
 rw [Bool.and_eq_true] at hk
 have hop:∀ m,n<=m->opA C (low C m) (base+i) ⟨t,G,nx,df,pk⟩ (.call { callee := .value (.func f),args:=⟨ars⟩,argTypes:=ats })=some (.pan u ⟨t,G,nx,df,pk⟩):=fun m hm=>by
  obtain rfl:=imms_eq hi
  refine opA_mono (low_mono hm) ?_
  simp only [opA,ev,aCall,fnOf,List.map_nil,List.append_nil,callA,hf.byref,Bool.false_eq_true,if_false,ht.evs ha,peeks_imm,hf.orc,h1,hs,if_true]
 refine ⟨n,[],⟨i,rd,[],[]⟩,u,fun m hm=>⟨?_,?_⟩,⟨rfl,rfl⟩,by rw [List.nil_append];exact hk.1,next⟩
 ·intro fs0
  unfold runE stepP stepD stepA
  simp only [wantA,hop m hm]
  split
  ·rename_i hc;split at hc<;>cases hc
  ·rfl
 ·have hp:panOK C ⟨t,G,nx,df,pk⟩ (.call { callee := .value (.func f),args:=⟨ars⟩,argTypes:=ats })=true:=by
   simp only [panOK,ev,fnOf,hf.byref,Bool.not_false]
  simp only [List.length_cons,List.range'_succ,runX,List.any_nil,Bool.false_eq_true,if_false,h0,stepX,wantA,hop m hm,hp,if_true,rdE_ok ht hrd,runX_rest _ _ hk.2]
  rfl
/-! ### deferred calls -/
theorem R.defer {f:Operand} {ars:List Operand} {ats:Array TypeId} {fv:AV} {vs:List AV} {g:Fn×List AV} (hf:lookO l f=some fv) (hfn:fnOf fv=some g) (ha:looks l ars=some vs) (hpk:pk.isRnd=false)
  (next:R C nt ol base (i+1) r l G nx ((fv,vs)::df) pk Φ):R C nt ol base i (⟨none, .defer { callee := .value f,args:=⟨ars⟩,argTypes:=ats },ty,pos,af,none⟩::r) l G nx df pk Φ:=by
 refine .mk fun t ht=>?_
 obtain ⟨m,o,h1,h2⟩:=next.st t ht
 refine ⟨m,o,?_,h2⟩
 unfold runL stepA
 have:opA C (low C m) (base+i) ⟨t,G,nx,df,pk⟩ (.defer { callee := .value f,args:=⟨ars⟩,argTypes:=ats })=some (.wr .undef ⟨t,G,nx,(fv,vs)::df,pk⟩):=by
  cases pk with
  |rnd=>simp [Pk.isRnd] at hpk
  |no=>simp only [opA,ht.ev hf,hfn,ht.evs ha]
  |dfr _ _=>simp only [opA,ht.ev hf,hfn,ht.evs ha]
 simp only [wantA,this,put]
 exact h1
theorem R.recover {bt:Array TypeId} {u:IV} (hd:Nat.ble (d+1) nt=true) (next:R C nt ol base (i+1) r ((d, .imm u)::l) G nx df (.dfr (some u) true) Φ) :
  R C nt ol base i (⟨some d, .call { callee := .builtin .recover,args := #[],argTypes:=bt },ty,pos,af,none⟩::r) l G nx df (.dfr (some u) false) Φ:=by
 refine .mk fun t ht=>?_
 obtain ⟨m,o,h1,h2⟩:=next.st (upd t d (.imm u)) (ht.put d _)
 refine ⟨m,o,?_,h2⟩
 have hlt:d < nt:=Nat.le_of_ble_eq_true hd
 unfold runL stepA
 simp only [wantA,opA,aBuiltin,put,if_pos hlt]
 exact h1
theorem O.recoverN {bt:Array TypeId} {x:Bool}:OpV C id l G nx df (.dfr none x) (.call { callee := .builtin .recover,args := #[],argTypes:=bt }) (.imm .niliface) []:=
 O.of fun t L ht=>by simp only [opA,aBuiltin]
def CalD (C:Cfg) (f:FuncId) (vs:List AV) (m:Option IV) (G:Nat->Obj) (nx:Nat) (Ψ:Bool->(Nat->Obj)->Nat->Prop):Prop:=∃ n v m' x G' nx',(low C n).call f vs (.dfr m false) G nx=some (.ret v G' nx', .dfr m' x)/\Ψ x G' nx'
def finDf (Ψ:Bool->(Nat->Obj)->Nat->Prop):Out->Prop
 | .norm s | .ret s=>s.defers=[]/\∃ m x,s.pk = .dfr m x/\Ψ x s.G s.nx
 |_=>False
theorem CalD.of {f:FuncId} {fn:Func} {b:Code} {vs:List AV} {m:Option IV} {Ψ:Bool->(Nat->Obj)->Nat->Prop} (hf:C.fn f=some fn) (hb:fn.body=some b) (hn:Nat.ble vs.length fn.ntmps=true) (hrs:fn.results.toList=[])
  (h:W C f fn.ntmps b (envOf 0 vs) G nx [] (.dfr m false) (finDf Ψ)) (ha:C.at f=C:=by exact rfl):CalD C f vs m G nx Ψ:=by
 obtain ⟨n,o,h1,h2⟩:=h.st _ (agree_init vs)
 have hn:=Nat.le_of_ble_eq_true hn
 have go:∀ s:St,(s.defers=[]/\∃ m x,s.pk = .dfr m x/\Ψ x s.G s.nx)->∃ v m' x,leaveA C (low C n) fn.results.toList s.defers none s=some (.ret v s.G s.nx, .dfr m' x)/\Ψ x s.G s.nx:=by
  intro s ⟨hd,m,x,hp,hΨ⟩
  exact ⟨_,m,x,by rw [hd,hrs];simp only [leaveA,resultsA,resultsL,hp];rfl,hΨ⟩
 cases o with
 |norm s=>
  obtain ⟨v,m',x,h3,h4⟩:=go s h2
  exact ⟨n+1,v,m',x,_,_,by simp only [low,ha,callF,hf,hb,if_pos hn,h1,h3],h4⟩
 |ret s=>
  obtain ⟨v,m',x,h3,h4⟩:=go s h2
  exact ⟨n+1,v,m',x,_,_,by simp only [low,ha,callF,hf,hb,if_pos hn,h1,h3],h4⟩
 |exit _ _=>exact h2.elim
 |pan _ _=>exact h2.elim
def finD (C:Cfg) (rs:List ResultVar) (Ψ:AV->(Nat->Obj)->Nat->Prop):Out->Prop
 | .norm s | .ret s=>s.pk = .no/\∃ g ars k cap,s.defers=[(g,ars)]/\fnOf g=some (.func k,cap)/\CalD C k (ars++cap) none s.G s.nx fun _ G nx=>∃ v,resultsA C ⟨s.tmps,G,nx,[(g,ars)], .no⟩ rs=some v/\Ψ v G nx
 | .pan u s=>s.pk = .no/\∃ g ars k cap,s.defers=[(g,ars)]/\fnOf g=some (.func k,cap)/\CalD C k (ars++cap) (some u) s.G s.nx fun x G nx=>x=true/\∃ v,resultsA C ⟨s.tmps,G,nx,[(g,ars)], .no⟩ rs=some v/\Ψ v G nx
 | .exit _ _=>False
theorem Cal.ofD {f:FuncId} {fn:Func} {b:Code} {vs:List AV} {Ψ:AV->(Nat->Obj)->Nat->Prop} (hf:C.fn f=some fn) (hb:fn.body=some b) (hn:Nat.ble vs.length fn.ntmps=true)
  (h:W C f fn.ntmps b (envOf 0 vs) G nx [] .no (finD C fn.results.toList Ψ)) (ha:C.at f=C:=by exact rfl):Cal C f vs G nx Ψ:=by
 obtain ⟨n,o,h1,h2⟩:=h.st _ (agree_init vs)
 have hn:=Nat.le_of_ble_eq_true hn
 have up:∀ (m:Option IV) (s:St) (g:AV) (ars:List AV) (k:FuncId) (cap:List AV) (n2:Nat) (v':AV) (m':Option IV) (x:Bool) (G':Nat->Obj) (nx':Nat) (v:AV),s.pk = .no->s.defers=[(g,ars)]->fnOf g=some (.func k,cap)->(low C n2).call k (ars++cap) (.dfr m false) s.G s.nx=some (.ret v' G' nx', .dfr m' x)->(m=none\/x=true) ->
   resultsA C ⟨s.tmps,G',nx',[(g,ars)], .no⟩ fn.results.toList=some v->leaveA C (low C (max n n2)) fn.results.toList s.defers m s=some (.ret v G' nx', .no):=by
  intro m s g ars k cap n2 v' m' x G' nx' v hp hd hfn hc hm hv
  obtain ⟨t,G0,nx0,df0,pk0⟩:=s
  simp only at hp hd hc hv
  subst hp hd
  have hc':=(low_mono (C:=C) (Nat.le_max_right n n2)).1 _ _ _ _ _ _ hc
  have hmm:(if x=true then none else m)=none:=by rcases hm with rfl|rfl<;>simp
  simp only [leaveA,hfn,hc',hmm,hv]
 cases o with
 |norm s=>
  obtain ⟨hp,g,ars,k,cap,hd,hfn,n2,v',m',x,G',nx',hc,v,hv,hΨ⟩:=h2
  refine ⟨max n n2+1,v,G',nx',?_,hΨ⟩
  simp only [low,ha,callF,hf,hb,if_pos hn,code_mono (low_mono (Nat.le_max_left n n2)) (Nat.le_max_left n n2) _ _ _ h1]
  exact up none s g ars k cap n2 v' m' x G' nx' v hp hd hfn hc (.inl rfl) hv
 |ret s=>
  obtain ⟨hp,g,ars,k,cap,hd,hfn,n2,v',m',x,G',nx',hc,v,hv,hΨ⟩:=h2
  refine ⟨max n n2+1,v,G',nx',?_,hΨ⟩
  simp only [low,ha,callF,hf,hb,if_pos hn,code_mono (low_mono (Nat.le_max_left n n2)) (Nat.le_max_left n n2) _ _ _ h1]
  exact up none s g ars k cap n2 v' m' x G' nx' v hp hd hfn hc (.inl rfl) hv
 |exit _ _=>exact h2.elim
 |pan u s=>
  obtain ⟨hp,g,ars,k,cap,hd,hfn,n2,v',m',x,G',nx',hc,hx,v,hv,hΨ⟩:=h2
  refine ⟨max n n2+1,v,G',nx',?_,hΨ⟩
  simp only [low,ha,callF,hf,hb,if_pos hn,code_mono (low_mono (Nat.le_max_left n n2)) (Nat.le_max_left n n2) _ _ _ h1]
  exact up (some u) s g ars k cap n2 v' m' x G' nx' v hp hd hfn hc (.inr hx) hv
theorem Cal.ret {f:FuncId} {ivs:List IV} {x:IV} (h:Cal C f (ivs.map .imm) (fun _ => .gone) 0 fun v G _=>∃ ids,Go.Abs.peek G pkDepth v=some (x,ids)):Ret C f ivs x:=by
 obtain ⟨n,v,G',nx',h1,ids,h2⟩:=h
 exact ⟨n,v,G',nx', .no,ids,h1,h2⟩
/-! ### closures, maps -/
theorem O.nilP {x:Operand} {o off:Nat} (hx:lookO l x=some (.ptr o off)):OpV C id l G nx df pk (.nilCheck x) (.ptr o off) []:=O.of fun t L ht=>by simp only [opA,ht.ev hx,aNilCheck]
theorem O.nilF {x:Operand} {cs:List IV} {off:Nat} (hx:lookO l x=some (.imm (.fptr cs off))):OpV C id l G nx df pk (.nilCheck x) (.imm (.fptr cs off)) []:=O.of fun t L ht=>by simp only [opA,ht.ev hx,aNilCheck]
theorem O.makeFunc {f:Fn} {cap:List Operand} {first:Array Operand} {vs:List AV} (h0:first.size=0) (ha:looks l cap=some vs) (hv:mkFn f vs=v):OpV C id l G nx df pk (.makeFunc f first ⟨cap⟩) v []:=O.of fun t L ht=>by simp only [opA,ht.evs ha,if_pos h0,hv]
theorem O.makeMap {t:TypeId}:OpV C id l G nx df pk (.makeMap t none) (.map id) [(id, .set (.mp [] [] false))]:=O.of fun t L ht=>by simp only [opA]
theorem O.extrT {x:Operand} {ix:Nat} {vs:List AV} {u:AV} (hx:lookO l x=some (.tup vs)) (hu:vs[ix]? = some u):OpV C id l G nx df pk (.extract x ix) u []:=O.of fun t L ht=>by simp only [opA,ht.ev hx,aExtract,hu]
theorem O.lookT {t kt e:TypeId} {m x:Operand} {k kk:TyI} {key:IV} {ks:List IV} {vs:List AV} {ok:Bool} {mv u w:AV} {j:Nat} [hk:TyIs C t k] (ht:k.d = .mp kt e) (hkk:TyIs C kt kk) (hm:lookO l m=some mv) (hx:lookO l x=some (.imm key)) (hkv:mapKV G mv=some (ks,vs)) (ho:keyOk kk.d key=true)
  (hj:keyFind key ks=some (some j)) (hu:vs[j]? = some u) (hw:(if ok then mkTup [u, .imm (.bool true)] else u)=w):OpV C id l G nx df pk (.lookup t m x ok) w []:=by
 refine O.of fun t' L hA=>?_
 simp only [opA,hA.ev hm,hA.ev hx,lookA,hk.is,ht,hkv,hkk.is,if_pos ho,hj,hu,hw]
theorem O.lookN {t kt e:TypeId} {m x:Operand} {k kk ke:TyI} {key:IV} {ks:List IV} {vs:List AV} {ok:Bool} {mv w:AV} [hk:TyIs C t k] (ht:k.d = .mp kt e) (hkk:TyIs C kt kk) (hke:TyIs C e ke) (hm:lookO l m=some mv) (hx:lookO l x=some (.imm key)) (hkv:mapKV G mv=some (ks,vs)) (ho:keyOk kk.d key=true)
  (hj:keyFind key ks=some none) (hw:(if ok then mkTup [ke.zero, .imm (.bool false)] else ke.zero)=w):OpV C id l G nx df pk (.lookup t m x ok) w []:=by
 refine O.of fun t' L hA=>?_
 simp only [opA,hA.ev hm,hA.ev hx,lookA,hk.is,ht,hkv,hkk.is,if_pos ho,hj,hke.is,hw]
theorem O.mapNew {t kt e:TypeId} {m x y:Operand} {k kk:TyI} {key:IV} {ks:List IV} {vs:List AV} {q:Nat} [hk:TyIs C t k] (ht:k.d = .mp kt e) (hkk:TyIs C kt kk) (hm:lookO l m=some (.map q)) (hx:lookO l x=some (.imm key)) (hy:lookO l y=some v) (hG:G q = .mp ks vs false) (ho:keyOk kk.d key=true)
  (hj:keyFind key ks=some none):OpV C id l G nx df pk (.mapUpdate t m x y) .undef [(q, .set (.mp (ks++[key]) (vs++[v]) false))]:=by
 refine O.of fun t' L hA=>?_
 simp only [opA,hA.ev hm,hA.ev hx,hA.ev hy,aMapUpdate,hk.is,ht,hG,hkk.is,if_pos ho,hj]
theorem O.typeIs {t st:TypeId} {x:Operand} {k:TyI} {u:IV} [hk:TyIs C t k] (hx:lookO l x=some (.imm (.iface t u))) (hd:k.d ≠ .ifc/\k.d ≠ .oth):OpV C id l G nx df pk (.typeAssert x st t true) (.imm (.tup [u, .bool true])) []:=by
 refine O.of fun t' L hA=>?_
 simp only [opA,hA.ev hx,aTypeAssert,hk.is]
 split
 ·rename_i h;exact (hd.1 h).elim
 ·rename_i h;exact (hd.2 h).elim
 ·simp
end Go.Abs

/- The abstract interpreter: a logic of what code comes to: ends of functions that may panic; what memory holds. -/
namespace Go.Abs
variable {C:Cfg} {fid nt:Nat} {l:Env} {G G':Nat->Obj} {nx:Nat} {df:List (AV×List AV)} {pk:Pk} {Φ Φ':Out->Prop} {a b:Code} {ol r:List Oper} {base i d:Nat} {ty:TypeId} {pos:String} {af:Array Edge} {v:AV} {id:Nat}
theorem at_upd {q:Nat} {x:Obj} (h:G q=x:=by (repeat (first|exact upd_same _ _ _|assumption|(refine (upd_ne _ _ _ _ (by omega)).trans ?_)|exact rfl))):G q=x:=h
def resV:List AV->AV
 |[v]=>v
 |l=>mkTup l
theorem res_ok {s:St} (h:Agree s.tmps l) {rs:List ResultVar} {vs:List AV} (hr:resE l rs=some vs):resultsA C s rs=some (resV vs):=by
 simp only [resultsA,resE_ok h hr]
 match vs with
 |[]=>rfl
 |[v]=>rfl
 |_::_::_=>rfl
theorem W.skipFinP {rs:List ResultVar} {vs:List AV} {Ψ:CR->Prop} (hv:resE l rs=some vs) (h:Ψ (.ret (resV vs) G nx)):W C fid nt .skip l G nx [] .no (finP C rs Ψ):=
 .skip fun t ht=>⟨rfl,rfl,_,res_ok (s:=⟨t,G,nx,[], .no⟩) ht hv,h⟩
theorem W.retFinP {rs:List ResultVar} {vs:List AV} {Ψ:CR->Prop} (hv:resE l rs=some vs) (h:Ψ (.ret (resV vs) G nx)):W C fid nt .ret l G nx [] .no (finP C rs Ψ):=
 .ret fun t ht=>⟨rfl,rfl,_,res_ok (s:=⟨t,G,nx,[], .no⟩) ht hv,h⟩
class Len (l:List Oper) (n:outParam Nat):Prop where
 eq:l.length=n
instance len0:Len [] 0:=⟨rfl⟩
instance len1 {x:Oper} {l:List Oper} {n:Nat} [h:Len l n]:Len (x::l) (n+1):=⟨by rw [List.length_cons,h.eq]⟩
theorem W.regionN {k:Nat} {n:Nat} [hn:Len ol n] (h:R C nt ol nx 0 ol l G (nx+n) df pk Φ):W C fid nt (.region k ⟨ol⟩ false) l G nx df pk Φ:=W.region (by rw [hn.eq];exact h)
theorem W.drawN {k:Nat} {n:Nat} [hn:Len ol n] (h:D C nt ol nx 0 ol l G (nx+n) df pk [] Φ):W C fid nt (.region k ⟨ol⟩ true) l G nx df pk Φ:=W.draw (by rw [hn.eq];exact h)
theorem W.drawXN {k:Nat} {n:Nat} [hn:Len ol n] (h:DX C nt ol (keepE ol l) nx 0 ol l G (nx+n) df pk [] Φ):W C fid nt (.region k ⟨ol⟩ true) l G nx df pk Φ:=W.drawX (by rw [hn.eq];exact h)
class PanTo (Φ:Out->Prop) (pk:outParam Pk) (Ψ:outParam (CR->Prop)):Prop where
 ok:∀ u t G nx,Ψ (.pan u G nx)->Φ (.pan u ⟨t,G,nx,[],pk⟩)
instance panToFin {rs:List ResultVar} {Ψ:CR->Prop}:PanTo (finP C rs Ψ) .no Ψ:=⟨fun _ _ _ _ h=>⟨rfl,rfl,h⟩⟩
instance panToAft {Ψ:CR->Prop} [h:PanTo Φ pk Ψ]:PanTo (aft C fid nt b Φ) pk Ψ:=⟨h.ok⟩
instance panToBlk {Ψ:CR->Prop} [h:PanTo Φ pk Ψ]:PanTo (blk' id Φ) pk Ψ:=⟨h.ok⟩
instance panToLop {X:Type} {le:X->Env} {Ge:X->Nat->(Nat->Obj)->Prop} {mu:X->Nat} {pk':Pk} {x:X} {Ψ:CR->Prop} [h:PanTo Φ pk Ψ]:PanTo (lop le Ge mu df pk' x Φ) pk Ψ:=⟨h.ok⟩
theorem panTo {u:IV} {Ψ:CR->Prop} [hp:PanTo Φ pk Ψ] (h:Ψ (.pan u G nx)):∀ t,Agree t l->Φ (.pan u ⟨t,G,nx,[],pk⟩):=fun t _=>hp.ok u t G nx h
noncomputable def panOf (C:Cfg) (n:Nat) (f:FuncId) (ivs:List IV):Option IV:=match (low C n).call f (ivs.map .imm) .no (fun _ => .gone) 0 with
 |some (.pan v _ _,_)=>some v
 |_=>none
theorem RetPan.reckon {n:Nat} {f:FuncId} {ivs:List IV} {v:IV} {C:Cfg} (h:panOf C n f ivs=some v) (hs:v.scalar=true):RetPan C f ivs v:=by
 unfold panOf at h
 split at h
 ·rename_i u G' nx' pk' hc
  cases h
  exact ⟨n,G',nx',pk',hc,hs⟩
 ·cases h
/-! ### boxes that are data -/
theorem O.fieldF {x:Operand} {t:TypeId} {f:Nat} {k:TyI} {fs:List (Nat×Nat)} {cs:List IV} {off0 off sz:Nat} [hk:TyIs C t k] (hd:k.d = .st fs) (hf:fs[f]? = some (off,sz)) (hs:Nat.beq sz 0=false) (hx:lookO l x=some (.imm (.fptr cs off0))) :
  OpV C id l G nx df pk (.fieldAddr t x f) (.imm (.fptr cs (off0+off))) []:=
 O.of fun t L hA=>by
  have:¬ sz=0:=fun e=>by subst e;cases hs
  simp only [opA,hA.ev hx,aFieldAddr,hk.is,hd,hf,if_neg this,moveAt]
theorem O.loadF {x:Operand} {t:TypeId} {k:TyI} {cs:List IV} {off:Nat} {u:IV} [hk:TyIs C t k] (hg:k.d.isAgg=false) (hs:k.sz=1) (hx:lookO l x=some (.imm (.fptr cs off))) (hu:cs[off]? = some u) :
  OpV C id l G nx df pk (.load t x) (.imm u) []:=
 O.of fun t L hA=>by simp only [opA,hA.ev hx,aLoad,hk.is,hs,readAt,sub_one hu,Option.map_some,List.map_cons,List.map_nil,hg,Bool.false_eq_true,if_false]
theorem O.loadFA {x:Operand} {t:TypeId} {k:TyI} {cs us:List IV} {off:Nat} [hk:TyIs C t k] (hg:k.d.isAgg=true) (hx:lookO l x=some (.imm (.fptr cs off))) (hu:Go.Abs.sub cs off k.sz=some us) :
  OpV C id l G nx df pk (.load t x) (.imm (.agg us)) []:=
 O.of fun t L hA=>by simp only [opA,hA.ev hx,aLoad,hk.is,readAt,hu,Option.map_some,hg,if_true,mkAgg_imm]
def lookIs (kt e:Option TyI) (kv:Option (List IV×List AV)) (key:IV) (ok:Bool) (w:AV):Prop:=
 match kt,e,kv with
 |some kk,some ke,some (ks,vs)=>keyOk kk.d key=true/\((∃ j u,keyFind key ks=some (some j)/\vs[j]? = some u/\(if ok then mkTup [u, .imm (.bool true)] else u)=w)\/(keyFind key ks=some none/\(if ok then mkTup [ke.zero, .imm (.bool false)] else ke.zero)=w))
 |_,_,_=>False
theorem O.lookA {t kt e:TypeId} {m x:Operand} {k kk ke:TyI} {key:IV} {ok:Bool} {mv w:AV} [hk:TyIs C t k] (ht:k.d = .mp kt e) (hkk:TyIs C kt kk) (hke:TyIs C e ke) (hm:lookO l m=some mv) (hx:lookO l x=some (.imm key)) {kv:Option (List IV×List AV)} (hkv:mapKV G mv=kv) (h:lookIs (some kk) (some ke) kv key ok w) :
  OpV C id l G nx df pk (.lookup t m x ok) w []:=by
 match kv,h with
 |some (ks,vs),⟨h1, .inl ⟨j,u,h2,h3,h4⟩⟩=>exact O.lookT ht hkk hm hx hkv h1 h2 h3 h4
 |some (ks,vs),⟨h1, .inr ⟨h2,h4⟩⟩=>exact O.lookN ht hkk hke hm hx hkv h1 h2 h4
/-! ### regions that draw their order: where addresses are not known -/
def nrm (base q:Nat):Nat:=if q < base then 0 else q-base+1
theorem nrm_lt {base q:Nat} (h:q < base):nrm base q=0:=if_pos h
theorem nrm_ge (base k:Nat):nrm base (base+k)=k+1:=by
 unfold nrm;rw [if_neg (by omega)];omega
def Fp.nrm (base:Nat) (f:Fp):Fp:=⟨f.i,f.rd.map (Go.Abs.nrm base),f.wr.map (Go.Abs.nrm base),f.fz.map (Go.Abs.nrm base)⟩
def Fp.hi (base:Nat) (f:Fp):Bool:=f.wr.all fun w=>decide (base<=w)
theorem nrm_mem {base w:Nat} (hw:base<=w) (l:List Nat):(l.map (Go.Abs.nrm base)).contains (Go.Abs.nrm base w)=l.contains w:=by
 induction l with
 |nil=>rfl
 |cons x r ih=>
  simp only [List.map_cons,List.contains_cons,ih]
  congr 1
  unfold Go.Abs.nrm
  rw [if_neg (show ¬ w < base by omega)]
  split
  ·have:¬ w=x:=by omega
   simp [this]
  ·by_cases h:w=x
   ·simp [h]
   ·have h2:¬ w-base+1=x-base+1:=by omega
    rw [beq_eq_false_iff_ne.2 h,beq_eq_false_iff_ne.2 h2]
theorem any_nrm {base:Nat} (f:Nat->Bool) (g:Nat->Bool) (h:∀ w,base<=w->g (Go.Abs.nrm base w)=f w):∀ l:List Nat,(l.all fun w=>decide (base<=w))=true->(l.map (Go.Abs.nrm base)).any g=l.any f
 |[],_=>rfl
 |w::r,hl=>by
  simp only [List.all_cons,Bool.and_eq_true,decide_eq_true_eq] at hl
  simp only [List.map_cons,List.any_cons,h w hl.1,any_nrm f g h r hl.2]
theorem clash_nrm {base:Nat} {a b:Fp} (ha:a.hi base=true) (hb:b.hi base=true):clash (a.nrm base) (b.nrm base)=clash a b:=by
 unfold clash
 congr 1
 ·exact any_nrm _ _ (fun w hw=>by simp only [Fp.nrm,nrm_mem hw]) _ ha
 ·exact any_nrm _ _ (fun w hw=>by simp only [Fp.nrm,nrm_mem hw]) _ hb
theorem clearOf_nrm {ops:Array Oper} {base:Nat} {a:Fp} (ha:a.hi base=true):∀ fs:List Fp,fs.all (Fp.hi base)=true->clearOf ops (a.nrm base) (fs.map (Fp.nrm base))=clearOf ops a fs
 |[],_=>rfl
 |b::r,h=>by
  simp only [List.all_cons,Bool.and_eq_true] at h
  simp only [List.map_cons,clearOf,clash_nrm ha h.1,clearOf_nrm ha r h.2]
  rfl
theorem drawOK_nrm {ops:Array Oper} {base:Nat}:∀ fs:List Fp,fs.all (Fp.hi base)=true->drawOK ops (fs.map (Fp.nrm base))=drawOK ops fs
 |[],_=>rfl
 |a::r,h=>by
  simp only [List.all_cons,Bool.and_eq_true] at h
  simp only [List.map_cons,drawOK,clearOf_nrm h.1 r h.2,drawOK_nrm r h.2]
theorem D.doneN {fs:List Fp} (hh:fs.reverse.all (Fp.hi base)=true) (hk:(drawOK ⟨ol⟩ (fs.reverse.map (Fp.nrm base))&&edgesOK ⟨ol⟩)=true) (h:W C fid nt b l G nx df pk Φ):D C nt ol base i [] l G nx df pk fs (aft C fid nt b Φ):=
 D.done (by rw [<-drawOK_nrm _ hh];exact hk) h
theorem peek_mp {q:Nat} {ks vs:List IV} {fr:Bool} (h:G q = .mp ks (vs.map .imm) fr):∃ ids,Go.Abs.peek G pkDepth (.map q)=some (.fmp ks vs,ids):=by
 refine ⟨[q],?_⟩
 have hp:∀ x,Go.Abs.peek G 99 (.imm x)=some (x,[]):=fun x=>rfl
 show Go.Abs.peek G (99+1) _=_
 unfold Go.Abs.peek
 rw [h]
 dsimp only
 rw [peekL_imm hp]
theorem O.callV {f:Operand} {k:FuncId} {ars:List Operand} {ats:Array TypeId} {vs:List AV} {ivs cap:List IV} {x:IV} (hf:lookO l f=some (.imm (.fn (.func k) cap))) (hk:FnIs C k) (ha:looks l ars=some vs) (hi:imms vs=some ivs) (hr:Ret C k (ivs++cap) x) :
  OpV C id l G nx df pk (.call { callee := .value f,args:=⟨ars⟩,argTypes:=ats }) (.imm x) []:=by
 obtain ⟨n,v,G',nx',pk',ids,h1,h2⟩:=hr
 refine ⟨fun t ht=>⟨n,?_⟩⟩
 have e:ivs.map AV.imm++cap.map AV.imm=(ivs++cap).map AV.imm:=by simp
 simp only [opA,ht.ev hf,aCall,fnOf,callA,hk.byref,Bool.false_eq_true,if_false,ht.evs ha,imms_eq hi,e,peeks_imm,hk.orc,h1,h2,give_nil]
theorem D.auto {fs:List Fp} (h:W C fid nt b l G nx df pk Φ) (hh:fs.reverse.all (Fp.hi base)=true:=by simp [Fp.hi])
  (hk:(drawOK ⟨ol⟩ (fs.reverse.map (Fp.nrm base))&&edgesOK ⟨ol⟩)=true:=by
   simp (disch:=omega) only [List.reverse_cons,List.reverse_nil,List.nil_append,List.cons_append,List.map_cons,List.map_nil,Fp.nrm,direct,nrm_lt,nrm_ge]
   kernel_rfl):D C nt ol base i [] l G nx df pk fs (aft C fid nt b Φ):=D.doneN hh hk h
theorem O.buildX {t e:TypeId} {n:Nat} {parts:List (Nat×Operand)} {k ke:TyI} {xs:List AV} [hk:TyIs C t k] (ht:k.d = .sl e) (he:TyIs C e ke) (hp:looks l (parts.map (·.2))=some xs) (hi:parts.map (·.1)=List.range n)
  (hn:n*ke.sz<=4096) (hz:ke.zero.fits ke.sz=true) (hx:xs.all (AV.fits ke.sz)=true) (hs:0 < ke.sz) :
  OpV C id l G nx df pk (.buildSlice t n ⟨parts⟩) (.row id n) [(id, .set (.row e ke.sz xs false))]:=O.buildS ht hp hi hn hz hx hs
theorem elems_row {o n et sz:Nat} {xs:List AV} {fr:Bool} (h:G o = .row et sz xs fr) (hn:xs.length=n):Go.Abs.elems G (.row o n)=some xs:=by
 simp [Go.Abs.elems,h,hn]
theorem Own.fr {e sz lo hi hi':Nat} {xs:List IV} {G G':Nat->Obj} {v:AV} (h:Own e sz lo hi xs G v) (hh:hi<=hi':=by omega) (hG:∀ o,lo<=o->o < hi->G' o=G o:=by intro o _ _;exact at_upd):Own e sz lo hi' xs G' v:=h.frame hh hG
theorem R.app1 {x y:Operand} {t u e e' lo hi q sz sz':Nat} {k ke:TyI} {xs:List IV} {z:IV} {fr:Bool} {G0:Nat->Obj} (ho:Own e sz lo hi xs G0 v) (hq:G q = .row e' sz' [.imm z] fr) [hk:TyIs C t k] (hm:xs.length+1<=most)
  (next:∀ v' G',Own e sz lo nx (xs++[z]) G' v'->(∀ o,o < lo->G' o=G o)->R C nt ol base (i+1) r ((d,v')::l) G' nx df pk Φ)
  (ht:k.d = .sl e:=by exact rfl) (he:TyIs C e ke:=by infer_instance) (hsz:sz=ke.sz:=by exact rfl) (hu:Nat.beq t u=true:=by exact rfl) (hx:lookO l x=some v:=by exact rfl) (hy:lookO l y=some (.row q 1):=by exact rfl)
  (hG:∀ o,lo<=o->o < hi->G o=G0 o:=by intro o _ _;exact at_upd) (hf:(AV.imm z).fits sz=true:=by first|exact rfl|assumption) (hs:0 < ke.sz:=by decide) (hb:ke.bytes<=4096:=by decide) (hz:ke.zero.fits ke.sz=true:=by exact rfl) (hid:lo<=base+i/\base+i < nx:=by omega)
  (hhi:hi<=nx:=by omega) (hd:Nat.ble (d+1) nt=true:=by exact rfl) :
  R C nt ol base i (⟨some d, .call { callee := .builtin .append,args := #[x,y],argTypes := #[t,u] },ty,pos,af,none⟩::r) l G nx df pk Φ:=by
 subst hsz
 exact R.appOwn (ys:=[z]) ht hu hx (ho.frame hhi hG) hy (elems_row hq rfl) hs hb hz (fun y hy=>by rw [List.mem_singleton.1 hy];exact hf) hm hid hd next
def astQ (C:Cfg) (q:Nat) (lp0 lp1:Obj) (fid nt:Nat) (body:Code) (Φ:Out->Prop):Out->Prop
 | .norm s=>s.G q=lp0/\Wst C fid nt body { s with G:=upd s.G q lp1 } Φ
 |_=>False
theorem R.doneAstQ {q:Nat} {lp0 lp1:Obj} {body:Code} (hG:G q=lp0) (h:W C fid nt body l (upd G q lp1) nx df pk Φ):R C nt ol base i [] l G nx df pk (astQ C q lp0 lp1 fid nt body Φ):=
 .mk fun t ht=>⟨0,_,rfl,hG,h.st t ht⟩
/-! ### interfaces, and functions with one deferred call -/
theorem O.ifcNil {t:TypeId} {x y:Operand} {t2:TypeId} {k:TyI} [hk:TyIs C t k] (hb:k.d = .ifc) (hx:lookO l x=some (.imm .niliface)) (hy:lookO l y=some (.imm .niliface)) (hc:(isNilC x||isNilC y)=true):OpV C id l G nx df pk (.binOp .eql t x y t2) (.imm (.bool true)) []:=
 O.of fun t L ht=>by simp only [opA,ht.ev hx,ht.ev hy,binA,eqAV,hk.is,hb,eqOp,hc,if_true,Option.map_some]
theorem O.ifcSome {t:TypeId} {x y:Operand} {t2 tt:TypeId} {u:IV} {k:TyI} [hk:TyIs C t k] (hb:k.d = .ifc) (hx:lookO l x=some (.imm (.iface tt u))) (hy:lookO l y=some (.imm .niliface)):OpV C id l G nx df pk (.binOp .eql t x y t2) (.imm (.bool false)) []:=
 O.of fun t L ht=>by simp only [opA,ht.ev hx,ht.ev hy,binA,eqAV,hk.is,hb,eqOp,Option.map_some]
theorem W.skipFinDf {m:Option IV} {x:Bool} {Ψ:Bool->(Nat->Obj)->Nat->Prop} (h:Ψ x G nx):W C fid nt .skip l G nx [] (.dfr m x) (finDf Ψ) := .skip fun _ _=>⟨rfl,m,x,rfl,h⟩
theorem res_cell {a:Nat} {t:TypeId} {o:Nat} {k:TyI} {u:AV} {fr:Bool} {s:St} [hk:TyIs C t k] (hg:k.d.isAgg=false) (hs:k.sz=1) (ha:s.tmps a = .ptr o 0) (hG:s.G o = .box [u] fr):resultsA C s [.cell a t]=some u:=by
 simp [resultsA,resultsL,resultA,ha,aLoad,hk.is,hg,hs,readAt,hG,Go.Abs.sub]
theorem W.retFinD {g:AV} {ars cap:List AV} {kf:FuncId} {a:Nat} {t:TypeId} {o:Nat} {k:TyI} {Ψ:AV->(Nat->Obj)->Nat->Prop} [hk:TyIs C t k] (hg:k.d.isAgg=false) (hs:k.sz=1) (ha:look l a=some (.ptr o 0)) (hf:fnOf g=some (.func kf,cap))
  (hc:CalD C kf (ars++cap) none G nx fun _ G' nx'=>∃ u fr,G' o = .box [u] fr/\Ψ u G' nx'):W C fid nt .ret l G nx [(g,ars)] .no (finD C [.cell a t] Ψ) := .ret fun t' ht=>by
 refine ⟨rfl,g,ars,kf,cap,rfl,hf,?_⟩
 obtain ⟨n,v,m',x,G',nx',h1,u,fr,h2,h3⟩:=hc
 exact ⟨n,v,m',x,G',nx',h1,u,res_cell hg hs (ht a _ ha) h2,h3⟩
theorem panD {g:AV} {ars cap:List AV} {kf:FuncId} {a:Nat} {t:TypeId} {o:Nat} {k:TyI} {w:IV} {Ψ:AV->(Nat->Obj)->Nat->Prop} [hk:TyIs C t k] (hg:k.d.isAgg=false) (hs:k.sz=1) (ha:look l a=some (.ptr o 0)) (hf:fnOf g=some (.func kf,cap))
  (hc:CalD C kf (ars++cap) (some w) G nx fun x G' nx'=>x=true/\∃ u fr,G' o = .box [u] fr/\Ψ u G' nx'):∀ t',Agree t' l->finD C [.cell a t] Ψ (.pan w ⟨t',G,nx,[(g,ars)], .no⟩):=fun t' ht=>by
 refine ⟨rfl,g,ars,kf,cap,rfl,hf,?_⟩
 obtain ⟨n,v,m',x,G',nx',h1,h0,u,fr,h2,h3⟩:=hc
 exact ⟨n,v,m',x,G',nx',h1,h0,u,res_cell hg hs (ht a _ ha) h2,h3⟩
theorem peek_box {q off:Nat} {cs:List IV} {fr:Bool} (h:G q = .box (cs.map .imm) fr):Go.Abs.peek G pkDepth (.ptr q off)=some (.fptr cs off,[q]):=by
 have hp:∀ x,Go.Abs.peek G 99 (.imm x)=some (x,[]):=fun x=>rfl
 show Go.Abs.peek G (99+1) _=_
 unfold Go.Abs.peek
 rw [h]
 dsimp only
 rw [peekL_imm hp]
theorem peeks_cons {v:AV} {x:IV} {ids:List Nat} {vs:List IV} (h:Go.Abs.peek G pkDepth v=some (x,ids)):peeks G (v::vs.map .imm)=some (x::vs,ids):=by
 have:=peeks_imm G vs
 unfold peeks at this ⊢
 rw [peekL,h,this]
 simp
theorem O.callFz {f:FuncId} {ar:List Operand} {ats:Array TypeId} {vs:List AV} {ivs:List IV} {ids:List Nat} {x:IV} [hf:FnIs C f] (ha:looks l ar=some vs) (hi:peeks G vs=some (ivs,ids)) (hr:Ret C f ivs x) (hx:x.scalar=false) :
  OpV C id l G nx df pk (.call { callee := .value (.func f),args:=⟨ar⟩,argTypes:=ats }) (.imm x) (frz ids):=by
 obtain ⟨n,v,G',nx',pk',ids,h1,h2⟩:=hr
 refine ⟨fun t ht=>⟨n,?_⟩⟩
 simp only [opA,ev,aCall,fnOf,List.map_nil,List.append_nil,callA,hf.byref,Bool.false_eq_true,if_false,ht.evs ha,hi,hf.orc,h1,h2,hx,give]
theorem frz1 {q:Nat} {cs:List AV} {fr:Bool} (h:G q = .box cs fr):updL G (frz [q]) q = .box cs true:=by
 show upd G q (Obj.freeze (G q)) q=_
 rw [upd_same,h];rfl
theorem frz1_ne {q o:Nat} (h:o≠q):updL G (frz [q]) o=G o:=upd_ne _ _ _ _ h
/-! ### pointers, and nil -/
def isNilp (x y:AV):Option Bool:=match x,y with
 | .imm .nilp, .imm .nilp=>some true
 | .imm .nilp, .ptr _ _ | .ptr _ _, .imm .nilp | .imm .nilp, .imm (.fptr _ _) | .imm (.fptr _ _), .imm .nilp=>some false
 |_,_=>none
theorem isNilp_ok {x y:AV} {b:Bool} (h:isNilp x y=some b) (c:Bool):eqOp c .ptr x y=some b:=by
 unfold isNilp at h
 unfold eqOp
 split at h<;>cases h<;>rfl
theorem isNilp_notStr {x y:AV} {b:Bool} (h:isNilp x y=some b) (op:BinOp) (c:Bool) (t:TypeId):binA C op c t x y=match op with
   | .eql=>(eqAV C c t x y).map fun b => .imm (.bool b)
   | .neq=>(eqAV C c t x y).map fun b => .imm (.bool !b)
   |_=>none:=by
 unfold isNilp at h
 unfold binA
 split at h<;>cases h<;>rfl
theorem O.ptrEq {t:TypeId} {x y:Operand} {t2:TypeId} {k:TyI} {u w:AV} {b:Bool} [hk:TyIs C t k] (hb:k.d = .ptr) (hx:lookO l x=some u) (hy:lookO l y=some w) (h:isNilp u w=some b):OpV C id l G nx df pk (.binOp .eql t x y t2) (.imm (.bool b)) []:=
 O.of fun t' L ht=>by simp only [opA,ht.ev hx,ht.ev hy,isNilp_notStr h,eqAV,hk.is,hb,isNilp_ok h,Option.map_some]
theorem O.ptrNe {t:TypeId} {x y:Operand} {t2:TypeId} {k:TyI} {u w:AV} {b:Bool} [hk:TyIs C t k] (hb:k.d = .ptr) (hx:lookO l x=some u) (hy:lookO l y=some w) (h:isNilp u w=some b):OpV C id l G nx df pk (.binOp .neq t x y t2) (.imm (.bool !b)) []:=
 O.of fun t' L ht=>by simp only [opA,ht.ev hx,ht.ev hy,isNilp_notStr h,eqAV,hk.is,hb,isNilp_ok h,Option.map_some]
end Go.Abs

/- The abstract interpreter: a logic of what code comes to: slices that grow where the order is drawn; structs that hold slices. -/
namespace Go.Abs
variable {C:Cfg} {fid nt:Nat} {l:Env} {G G':Nat->Obj} {nx:Nat} {df:List (AV×List AV)} {pk:Pk} {Φ Φ':Out->Prop} {a b:Code} {ol r:List Oper} {base i d:Nat} {ty:TypeId} {pos:String} {af:Array Edge} {v:AV} {id:Nat}
theorem O.max {x y:Operand} {t u:TypeId} {m n:Int} {k:IntKind} (hx:lookO l x=some (.imm (.int k m))) (hy:lookO l y=some (.imm (.int k n))):OpV C id l G nx df pk (.call { callee := .builtin .max,args := #[x,y],argTypes := #[t,u] }) (.imm (.int k (if n > m then n else m))) []:=
 O.of fun t' L hA=>by simp only [opA,List.map_cons,List.map_nil,hA.ev hx,hA.ev hy,aBuiltin]
theorem D.app1 {x y:Operand} {t u e e' lo hi q sz sz':Nat} {k ke:TyI} {xs:List IV} {z:IV} {fr:Bool} {fs:List Fp} {G0:Nat->Obj} (ho:Own e sz lo hi xs G0 v) (hq:G q = .row e' sz' [.imm z] fr) [hk:TyIs C t k] (hm:xs.length+1<=most)
  (next:∀ v' G' rd o',Own e sz lo nx (xs++[z]) G' v'->(∀ o,o < lo->G' o=G o)->lo<=o'->D C nt ol base (i+1) r ((d,v')::l) G' nx df pk (⟨i,rd,[o'],[]⟩::fs) Φ)
  (ht:k.d = .sl e:=by exact rfl) (he:TyIs C e ke:=by infer_instance) (hsz:sz=ke.sz:=by exact rfl) (hu:Nat.beq t u=true:=by exact rfl) (hx:lookO l x=some v:=by exact rfl) (hy:lookO l y=some (.row q 1):=by exact rfl)
  (hG:∀ o,lo<=o->o < hi->G o=G0 o:=by intro o _ _;exact at_upd) (hf:(AV.imm z).fits sz=true:=by first|exact rfl|assumption) (hs:0 < ke.sz:=by decide) (hb:ke.bytes<=4096:=by decide) (hz:ke.zero.fits ke.sz=true:=by exact rfl) (hid:lo<=base+i/\base+i < nx:=by omega)
  (hhi:hi<=nx:=by omega) (hd:Nat.ble (d+1) nt=true:=by exact rfl) :
  D C nt ol base i (⟨some d, .call { callee := .builtin .append,args := #[x,y],argTypes := #[t,u] },ty,pos,af,none⟩::r) l G nx df pk fs Φ:=by
 subst hsz
 have hrd:rdE l G (.call { callee := .builtin .append,args := #[x,y],argTypes := #[t,u] })=some ([v, .row q 1].flatMap direct):=by
  simp only [rdE,pureOp,looks,hx,hy]
 have hys:([z].map AV.imm).all (AV.fits ke.sz)=true:=by simp [hf]
 have hw:elems G (.row q 1)=some ([z].map AV.imm):=elems_row hq rfl
 rcases ho with ⟨rfl,rfl⟩|⟨o,h1,h2,rfl,hG2⟩
 ·refine D.op1 (O.appNil (hk:=hk) (he:=he) ht hu hx hy hw hs hb hz hys (by simp [most])) hrd hd (next _ _ _ _ (.inr ⟨base+i,hid.1,hid.2,by simp,by rw [upd_same];simp⟩) (fun o ho=>upd_ne _ _ _ _ (by omega)) hid.1)
 ·refine D.op1 (O.appRow (hk:=hk) (he:=he) ht hu hx ((hG o h1 h2).trans hG2) (by simp) hy hw hs hb hz hys (by simpa using hm)) hrd hd (next _ _ _ _ (.inr ⟨o,h1,by omega,by simp,by rw [upd_same];simp⟩) (fun o' ho'=>upd_ne _ _ _ _ (by omega)) h1)
theorem All2.nil {α β:Type} {R:α->β->Prop}:All2 R [] []:=trivial
theorem All2.cons {α β:Type} {R:α->β->Prop} {x:α} {y:β} {l:List α} {m:List β} (h:R x y) (hr:All2 R l m):All2 R (x::l) (y::m):=⟨h,hr⟩
theorem Rdx.agg {d:Nat} {P:Nat->Prop} {vs:List AV} {xs:List IV} (h:All2 (Rdx d G P) vs xs):Rdx (d+1) G P (.agg vs) (.agg xs):=by
 obtain ⟨ids,h1,h2⟩:=h.peekL
 refine ⟨ids,fun k=>?_,h2⟩
 show Go.Abs.peek G (k+d+1) _=_
 unfold Go.Abs.peek
 rw [h1 k]
theorem Rdx.tup {d:Nat} {P:Nat->Prop} {vs:List AV} {xs:List IV} (h:All2 (Rdx d G P) vs xs):Rdx (d+1) G P (.tup vs) (.tup xs):=by
 obtain ⟨ids,h1,h2⟩:=h.peekL
 refine ⟨ids,fun k=>?_,h2⟩
 show Go.Abs.peek G (k+d+1) _=_
 unfold Go.Abs.peek
 rw [h1 k]
theorem allImm_none:∀ {cs:List AV},(∃ v∈cs,∀ x,v ≠ .imm x)->allImm cs=none
 |[],h=>by obtain ⟨v,hv,_⟩:=h;cases hv
 |c::r,h=>by
  obtain ⟨v,hv,hn⟩:=h
  cases c with
  |imm x=>
   have hr:v∈r:=by
    rcases List.mem_cons.1 hv with h|h
    ·exact absurd h (hn x)
    ·exact h
   unfold allImm
   rw [allImm_none ⟨v,hr,hn⟩];rfl
  |_=>rfl
theorem mkAgg_not {cs:List AV} (h:∃ v∈cs,∀ x,v ≠ .imm x):mkAgg cs = .agg cs:=by
 unfold mkAgg
 rw [allImm_none h]
theorem Own.cells1 {e sz lo hi:Nat} {xs:List IV} {v:AV} (h:Own e sz lo hi xs G v):v.cells=[v]:=by
 rcases h with ⟨_,rfl⟩|⟨o,_,_,rfl,_⟩<;>rfl
theorem Own.one1 {e sz lo hi:Nat} {xs:List IV} {v:AV} (h:Own e sz lo hi xs G v):v.one=true:=by
 rcases h with ⟨_,rfl⟩|⟨o,_,_,rfl,_⟩<;>rfl
theorem O.storeP1 {a x:Operand} {t:TypeId} {k:TyI} {o off:Nat} {cs cs':List AV} [hk:TyIs C t k] (hs:k.sz=1) (ha:lookO l a=some (.ptr o off)) (hx:lookO l x=some v) (hc:v.cells=[v]) (h1:v.one=true) (hG:G o = .box cs false) (hn:Nat.ble (off+1) cs.length=true) (hcs:splice cs off [v]=cs') :
  OpV C id l G nx df pk (.store t a x) .undef [(o, .set (.box cs' false))]:=
 O.storeP ha hx (by unfold AV.fits;rw [hc,hs];simp [h1]) hG (by rw [hs];exact hn) (by rw [hc];exact hcs)
/-! ### regions that draw their order: addresses told apart -/
def Fp.ren (g:Nat->Nat) (f:Fp):Fp:=⟨f.i,f.rd.map g,f.wr.map g,f.fz.map g⟩
def fpAddrs (fs:List Fp):List Nat:=fs.flatMap fun f=>f.rd++f.wr++f.fz
def fpWrs (fs:List Fp):List Nat:=fs.flatMap (·.wr)
theorem ren_mem {g:Nat->Nat} {w:Nat} {l:List Nat} (h:∀ x∈l,g w=g x->w=x):(l.map g).contains (g w)=l.contains w:=by
 rw [Bool.eq_iff_iff]
 simp only [List.contains_iff_mem,List.mem_map]
 constructor
 ·rintro ⟨x,hx,he⟩
  rw [h x hx he.symm];exact hx
 ·intro hw;exact ⟨w,hw,rfl⟩
theorem any_ren {g:Nat->Nat} {f f':Nat->Bool}:∀ {l:List Nat},(∀ w∈l,f' (g w)=f w)->(l.map g).any f'=l.any f
 |[],_=>rfl
 |w::r,h=>by
  rw [List.map_cons,List.any_cons,List.any_cons,h w (by simp),any_ren (l:=r) fun x hx=>h x (by simp [hx])]
theorem clash_ren {g:Nat->Nat} {a b:Fp} (hg:∀ w∈a.wr++b.wr,∀ x∈a.rd++a.wr++a.fz++(b.rd++b.wr++b.fz),g w=g x->w=x):clash (a.ren g) (b.ren g)=clash a b:=by
 unfold clash
 congr 1
 ·refine any_ren fun w hw=>?_
  have:=fun x hx=>hg w (by simp [hw]) x hx
  simp only [Fp.ren]
  rw [ren_mem fun x hx=>this x (by simp [hx]),ren_mem fun x hx=>this x (by simp [hx]),ren_mem fun x hx=>this x (by simp [hx])]
 ·refine any_ren fun w hw=>?_
  have:=fun x hx=>hg w (by simp [hw]) x hx
  simp only [Fp.ren]
  rw [ren_mem fun x hx=>this x (by simp [hx]),ren_mem fun x hx=>this x (by simp [hx])]
theorem clearOf_ren {ops:Array Oper} {g:Nat->Nat} {a:Fp}:∀ {fs:List Fp},(∀ w∈fpWrs (a::fs),∀ x∈fpAddrs (a::fs),g w=g x->w=x)->clearOf ops (a.ren g) (fs.map (Fp.ren g))=clearOf ops a fs
 |[],_=>rfl
 |b::r,h=>by
  simp only [List.map_cons,clearOf]
  rw [clash_ren fun w hw x hx=>h w (by simp [fpWrs] at hw ⊢;rcases hw with h|h<;>simp [h]) x (by simp [fpAddrs] at hx ⊢;rcases hx with h|h|h|h|h|h<;>simp [h]),
   clearOf_ren fun w hw x hx=>h w (by simp [fpWrs] at hw ⊢;rcases hw with h|h;simp [h];exact .inr (.inr h)) x (by simp [fpAddrs] at hx ⊢;rcases hx with h|h|h|h;simp [h];simp [h];simp [h];exact .inr (.inr (.inr (.inr (.inr (.inr h))))))]
  rfl
theorem drawOK_ren {ops:Array Oper} {g:Nat->Nat}:∀ {fs:List Fp},(∀ w∈fpWrs fs,∀ x∈fpAddrs fs,g w=g x->w=x)->drawOK ops (fs.map (Fp.ren g))=drawOK ops fs
 |[],_=>rfl
 |a::r,h=>by
  simp only [List.map_cons,drawOK]
  rw [clearOf_ren h,drawOK_ren fun w hw x hx=>h w (by simp [fpWrs] at hw ⊢;exact .inr hw) x (by simp [fpAddrs] at hx ⊢;exact .inr (.inr (.inr hx)))]
def g4 (a b c d:Nat) (k:Nat):Nat:=if k=1 then a else if k=2 then b else if k=3 then c else d
theorem O.storeRS {a x:Operand} {t et sz:TypeId} {k:TyI} {o m n:Nat} {vs:List AV} {u w:AV} [hk:TyIs C t k] (h0:0 < k.sz) (ha:lookO l a=some (.rptr o m n 0)) (hx:lookO l x=some v) (hf:v.fits k.sz=true) (hG:G o = .row et sz vs false) (hm:vs.length=m) (hu:vs[n]? = some u) (huc:Nat.ble k.sz u.cells.length=true) (hv:avOf u (splice u.cells 0 v.cells)=w) :
  OpV C id l G nx df pk (.store t a x) .undef [(o, .set (.row et sz (vs.set n w) false))]:=
 O.of fun t' L hA=>by
  simp only [opA,hA.ev ha,hA.ev hx,aStore,hk.is,hf,if_true,hG,hu]
  rw [if_pos ⟨hm,h0,by have:=Nat.le_of_ble_eq_true huc;omega⟩,hv]
theorem O.callOwn {f:FuncId} {ar:List Operand} {ats:Array TypeId} {vs:List AV} {ivs:List IV} {ids:List Nat} {et sz:Nat} {xs:List IV} (hb:C.byref f=false) (ho:C.orc f ivs=some (.own et sz xs)) (ha:looks l ar=some vs) (hi:peeks G vs=some (ivs,ids)) :
  OpV C id l G nx df pk (.call { callee := .value (.func f),args:=⟨ar⟩,argTypes:=ats }) (.row id xs.length) (frz ids++[(id, .set (.row et sz (xs.map .imm) false))]):=by
 refine O.of fun t L ht=>?_
 simp only [opA,ev,aCall,fnOf,List.map_nil,List.append_nil,callA,hb,Bool.false_eq_true,if_false,ht.evs ha,hi,ho]
theorem O.callOwnI {f:FuncId} {ar:List Operand} {ats:Array TypeId} {vs:List AV} {ivs:List IV} {et sz:Nat} {xs:List IV} (hb:C.byref f=false) (ho:C.orc f ivs=some (.own et sz xs)) (ha:looks l ar=some vs) (hi:imms vs=some ivs) :
  OpV C id l G nx df pk (.call { callee := .value (.func f),args:=⟨ar⟩,argTypes:=ats }) (.row id xs.length) [(id, .set (.row et sz (xs.map .imm) false))]:=
 O.callOwn (ids:=[]) hb ho ha (by rw [imms_eq hi];exact peeks_imm G ivs)
theorem peek_mpx {q:Nat} {ks vs:List IV} {fr:Bool} (h:G q = .mp ks (vs.map .imm) fr):Go.Abs.peek G pkDepth (.map q)=some (.fmp ks vs,[q]):=by
 have hp:∀ x,Go.Abs.peek G 99 (.imm x)=some (x,[]):=fun x=>rfl
 show Go.Abs.peek G (99+1) _=_
 unfold Go.Abs.peek
 rw [h]
 dsimp only
 rw [peekL_imm hp]
theorem updL_frz1 {q id o:Nat} {x:Obj}:updL G (frz [q]++[(id, .set x)]) o=if o=id then x else if o=q then (G q).freeze else G o:=by
 show upd (upd G q (Obj.freeze (G q))) id x o=_
 unfold upd
 rfl
end Go.Abs

/- One step of the logic after the other, as far as it goes, with memory. -/
open Go Go.Abs
namespace Go.Abs
set_option maxRecDepth 100000
theorem AB {P Q:Prop} (k:Q) (h:Hold Q->P:=by
 intro k
 (repeat (first|(apply R.op0;(first|exact O.move rfl|exact O.assign rfl|exact O.fieldP rfl rfl rfl rfl|exact O.loadP rfl rfl rfl (by first|exact rfl|with_reducible assumption|assumption|exact at_upd) rfl|exact O.cmp rfl rfl rfl|exact O.int rfl rfl (add64 (by omega))|exact O.int rfl rfl (sub64 (by omega))|exact O.int rfl rfl (add8 (by omega))|exact O.pickT rfl (by first|with_reducible rfl|with_reducible assumption|decide) rfl|exact O.pickF rfl (by first|with_reducible rfl|with_reducible assumption|decide) rfl|exact O.lenL rfl rfl|exact O.lenSv rfl rfl|exact O.lenS rfl rfl|exact O.not rfl|exact O.svEq rfl rfl|exact O.svNe rfl rfl|exact O.str rfl rfl rfl|exact O.boolEq rfl rfl rfl|exact O.boolNe rfl rfl rfl|exact O.fieldE rfl rfl rfl rfl|exact O.fieldR rfl rfl rfl rfl|exact O.loadPA rfl rfl (by first|exact rfl|with_reducible assumption|assumption|exact at_upd) rfl rfl|exact O.extr rfl rfl|exact O.nilP rfl|exact O.nilF rfl|exact O.extrT rfl rfl|exact O.makeFunc rfl rfl rfl|exact O.fieldF rfl rfl rfl rfl|exact O.loadF rfl rfl rfl rfl|exact O.loadFA rfl rfl rfl|exact O.ptrEq rfl rfl rfl rfl|exact O.ptrNe rfl rfl rfl rfl|exact O.max rfl rfl|(apply O.addrX;exact rfl;infer_instance;exact rfl;exact rfl;omega;(first|with_reducible assumption|assumption);(first|exact rfl|assumption))|(apply O.load1;exact rfl;(first|with_reducible assumption|assumption);exact rfl;exact rfl;exact rfl)|(apply O.loadE;exact rfl;exact rfl;exact rfl;(first|with_reducible assumption|assumption);exact rfl)|(apply O.loadEA;exact rfl;exact rfl;(first|with_reducible assumption|assumption);exact rfl)|(apply O.call;exact rfl;exact rfl;(first|with_reducible assumption|assumption))|(apply O.addrRX;exact rfl;infer_instance;exact rfl;exact rfl;(first|with_reducible assumption|assumption);(first|exact rfl|assumption);omega;exact rfl)|(apply O.loadRX;exact rfl;(first|with_reducible assumption|assumption);(first|exact rfl|assumption);(first|with_reducible assumption|assumption);exact rfl;exact rfl;exact rfl)|(apply O.lenO;exact rfl;exact rfl;(first|with_reducible assumption|assumption))|(apply O.build;exact rfl;exact rfl;exact rfl;exact rfl)|(apply O.callV;exact rfl;infer_instance;exact rfl;exact rfl;(first|with_reducible assumption|assumption))|(apply O.lookA;exact rfl;infer_instance;infer_instance;exact rfl;exact rfl;exact rfl;(first|with_reducible assumption|assumption)));exact rfl)|(apply R.op1;(first|exact O.boxS rfl rfl rfl|exact O.alloc rfl rfl|exact O.makeMap|(apply O.buildX;exact rfl;infer_instance;exact rfl;exact rfl;decide;exact rfl;exact rfl;decide));exact rfl)|(apply R.opN1;(first|(apply O.storeP;exact rfl;exact rfl;exact rfl;(first|exact rfl|with_reducible assumption|assumption|exact at_upd);exact rfl;exact rfl)|(apply O.storeP1;exact rfl;exact rfl;exact rfl;assumption;assumption;(first|exact rfl|with_reducible assumption|assumption|exact at_upd);exact rfl;exact rfl)))|(apply R.guardT1;exact rfl;exact rfl;(first|with_reducible rfl|with_reducible assumption|decide))|(apply R.guardT0;exact rfl;exact rfl;(first|with_reducible rfl|with_reducible assumption|decide))|(apply R.guardF1;exact rfl;exact rfl;(first|with_reducible rfl|with_reducible assumption|decide);exact rfl)|(apply R.guardF0;exact rfl;exact rfl;(first|with_reducible rfl|with_reducible assumption|decide);exact rfl)|(apply R.guardN;exact rfl;exact rfl;exact rfl)|apply R.done|(first|apply W.seqR|apply W.seqC)|apply W.regionN|apply W.drawN|(apply W.condT;exact rfl;(first|with_reducible rfl|with_reducible assumption|decide))|(apply W.condF;exact rfl;(first|with_reducible rfl|with_reducible assumption|decide))|apply W.retAft|apply W.retBlk|apply W.retLop|apply W.exitAft|apply W.exitLop|apply W.exitBlk|(apply W.exitBlkNe;exact rfl)|apply W.skipAft|apply W.skipBlk|apply W.retCut|apply W.exitCut|apply R.skip|(apply D.op0;(first|exact O.move rfl|exact O.assign rfl|exact O.fieldP rfl rfl rfl rfl|exact O.loadP rfl rfl rfl (by first|exact rfl|with_reducible assumption|assumption|exact at_upd) rfl|exact O.cmp rfl rfl rfl|exact O.int rfl rfl (add64 (by omega))|exact O.int rfl rfl (sub64 (by omega))|exact O.int rfl rfl (add8 (by omega))|exact O.pickT rfl (by first|with_reducible rfl|with_reducible assumption|decide) rfl|exact O.pickF rfl (by first|with_reducible rfl|with_reducible assumption|decide) rfl|exact O.lenL rfl rfl|exact O.lenSv rfl rfl|exact O.lenS rfl rfl|exact O.not rfl|exact O.svEq rfl rfl|exact O.svNe rfl rfl|exact O.str rfl rfl rfl|exact O.boolEq rfl rfl rfl|exact O.boolNe rfl rfl rfl|exact O.fieldE rfl rfl rfl rfl|exact O.fieldR rfl rfl rfl rfl|exact O.loadPA rfl rfl (by first|exact rfl|with_reducible assumption|assumption|exact at_upd) rfl rfl|exact O.extr rfl rfl|exact O.nilP rfl|exact O.nilF rfl|exact O.extrT rfl rfl|exact O.makeFunc rfl rfl rfl|exact O.fieldF rfl rfl rfl rfl|exact O.loadF rfl rfl rfl rfl|exact O.loadFA rfl rfl rfl|exact O.ptrEq rfl rfl rfl rfl|exact O.ptrNe rfl rfl rfl rfl|exact O.max rfl rfl|(apply O.addrX;exact rfl;infer_instance;exact rfl;exact rfl;omega;(first|with_reducible assumption|assumption);(first|exact rfl|assumption))|(apply O.load1;exact rfl;(first|with_reducible assumption|assumption);exact rfl;exact rfl;exact rfl)|(apply O.loadE;exact rfl;exact rfl;exact rfl;(first|with_reducible assumption|assumption);exact rfl)|(apply O.loadEA;exact rfl;exact rfl;(first|with_reducible assumption|assumption);exact rfl)|(apply O.call;exact rfl;exact rfl;(first|with_reducible assumption|assumption))|(apply O.addrRX;exact rfl;infer_instance;exact rfl;exact rfl;(first|with_reducible assumption|assumption);(first|exact rfl|assumption);omega;exact rfl)|(apply O.loadRX;exact rfl;(first|with_reducible assumption|assumption);(first|exact rfl|assumption);(first|with_reducible assumption|assumption);exact rfl;exact rfl;exact rfl)|(apply O.lenO;exact rfl;exact rfl;(first|with_reducible assumption|assumption))|(apply O.build;exact rfl;exact rfl;exact rfl;exact rfl)|(apply O.callV;exact rfl;infer_instance;exact rfl;exact rfl;(first|with_reducible assumption|assumption))|(apply O.lookA;exact rfl;infer_instance;infer_instance;exact rfl;exact rfl;exact rfl;(first|with_reducible assumption|assumption)));exact rfl;exact rfl)|(apply D.op1;(first|exact O.boxS rfl rfl rfl|exact O.alloc rfl rfl|exact O.makeMap|(apply O.buildX;exact rfl;infer_instance;exact rfl;exact rfl;decide;exact rfl;exact rfl;decide));exact rfl;exact rfl)|(apply D.opN1;(first|(apply O.storeP;exact rfl;exact rfl;exact rfl;(first|exact rfl|with_reducible assumption|assumption|exact at_upd);exact rfl;exact rfl)|(apply O.storeP1;exact rfl;exact rfl;exact rfl;assumption;assumption;(first|exact rfl|with_reducible assumption|assumption|exact at_upd);exact rfl;exact rfl));exact rfl)|(apply D.guardT1;exact rfl;exact rfl;(first|with_reducible rfl|with_reducible assumption|decide))|(apply D.guardT0;exact rfl;exact rfl;(first|with_reducible rfl|with_reducible assumption|decide))|(apply D.guardF1;exact rfl;exact rfl;(first|with_reducible rfl|with_reducible assumption|decide);exact rfl)|(apply D.guardF0;exact rfl;exact rfl;(first|with_reducible rfl|with_reducible assumption|decide);exact rfl)|(apply D.guardN;exact rfl;exact rfl;exact rfl)|(apply D.done;kernel_rfl)|(apply D.skip;kernel_rfl)))
 exact Hold.out k):P:=h ⟨k⟩
theorem AA {P Q:Prop} (k:Q) (h:Hold Q->P:=by
 intro k
 (repeat (first|(apply R.op0;(first|exact O.move rfl|exact O.assign rfl|exact O.fieldP rfl rfl rfl rfl|exact O.loadP rfl rfl rfl (by first|exact rfl|with_reducible assumption|assumption|exact at_upd) rfl|exact O.cmp rfl rfl rfl|exact O.int rfl rfl (add64 (by omega))|exact O.int rfl rfl (sub64 (by omega))|exact O.int rfl rfl (add8 (by omega))|exact O.pickT rfl (by first|with_reducible rfl|with_reducible assumption|decide) rfl|exact O.pickF rfl (by first|with_reducible rfl|with_reducible assumption|decide) rfl|exact O.lenL rfl rfl|exact O.lenSv rfl rfl|exact O.lenS rfl rfl|exact O.not rfl|exact O.svEq rfl rfl|exact O.svNe rfl rfl|exact O.str rfl rfl rfl|exact O.boolEq rfl rfl rfl|exact O.boolNe rfl rfl rfl|exact O.fieldE rfl rfl rfl rfl|exact O.fieldR rfl rfl rfl rfl|exact O.loadPA rfl rfl (by first|exact rfl|with_reducible assumption|assumption|exact at_upd) rfl rfl|exact O.extr rfl rfl|exact O.nilP rfl|exact O.nilF rfl|exact O.extrT rfl rfl|exact O.makeFunc rfl rfl rfl|exact O.fieldF rfl rfl rfl rfl|exact O.loadF rfl rfl rfl rfl|exact O.loadFA rfl rfl rfl|exact O.ptrEq rfl rfl rfl rfl|exact O.ptrNe rfl rfl rfl rfl|exact O.max rfl rfl|(apply O.addrX;exact rfl;infer_instance;exact rfl;exact rfl;omega;(first|with_reducible assumption|assumption);(first|exact rfl|assumption))|(apply O.load1;exact rfl;(first|with_reducible assumption|assumption);exact rfl;exact rfl;exact rfl)|(apply O.loadE;exact rfl;exact rfl;exact rfl;(first|with_reducible assumption|assumption);exact rfl)|(apply O.loadEA;exact rfl;exact rfl;(first|with_reducible assumption|assumption);exact rfl)|(apply O.call;exact rfl;exact rfl;(first|with_reducible assumption|assumption))|(apply O.addrRX;exact rfl;infer_instance;exact rfl;exact rfl;(first|with_reducible assumption|assumption);(first|exact rfl|assumption);omega;exact rfl)|(apply O.loadRX;exact rfl;(first|with_reducible assumption|assumption);(first|exact rfl|assumption);(first|with_reducible assumption|assumption);exact rfl;exact rfl;exact rfl)|(apply O.lenO;exact rfl;exact rfl;(first|with_reducible assumption|assumption))|(apply O.build;exact rfl;exact rfl;exact rfl;exact rfl)|(apply O.callV;exact rfl;infer_instance;exact rfl;exact rfl;(first|with_reducible assumption|assumption))|(apply O.lookA;exact rfl;infer_instance;infer_instance;exact rfl;exact rfl;exact rfl;(first|with_reducible assumption|assumption)));exact rfl)|(apply R.op1;(first|exact O.boxS rfl rfl rfl|exact O.alloc rfl rfl|exact O.makeMap|(apply O.buildX;exact rfl;infer_instance;exact rfl;exact rfl;decide;exact rfl;exact rfl;decide));exact rfl)|(apply R.opN1;(first|(apply O.storeP;exact rfl;exact rfl;exact rfl;(first|exact rfl|with_reducible assumption|assumption|exact at_upd);exact rfl;exact rfl)|(apply O.storeP1;exact rfl;exact rfl;exact rfl;assumption;assumption;(first|exact rfl|with_reducible assumption|assumption|exact at_upd);exact rfl;exact rfl)))|(apply R.guardT1;exact rfl;exact rfl;(first|with_reducible rfl|with_reducible assumption|decide))|(apply R.guardT0;exact rfl;exact rfl;(first|with_reducible rfl|with_reducible assumption|decide))|(apply R.guardF1;exact rfl;exact rfl;(first|with_reducible rfl|with_reducible assumption|decide);exact rfl)|(apply R.guardF0;exact rfl;exact rfl;(first|with_reducible rfl|with_reducible assumption|decide);exact rfl)|(apply R.guardN;exact rfl;exact rfl;exact rfl)|apply R.done|apply W.seq|apply W.regionN|apply W.drawN|apply W.block|(apply W.condT;exact rfl;(first|with_reducible rfl|with_reducible assumption|decide))|(apply W.condF;exact rfl;(first|with_reducible rfl|with_reducible assumption|decide))|apply W.retAft|apply W.retBlk|apply W.retLop|apply W.exitAft|apply W.exitLop|apply W.exitBlk|(apply W.exitBlkNe;exact rfl)|apply W.skipAft|apply W.skipBlk|apply W.retCut|apply W.exitCut|apply R.skip|(apply D.op0;(first|exact O.move rfl|exact O.assign rfl|exact O.fieldP rfl rfl rfl rfl|exact O.loadP rfl rfl rfl (by first|exact rfl|with_reducible assumption|assumption|exact at_upd) rfl|exact O.cmp rfl rfl rfl|exact O.int rfl rfl (add64 (by omega))|exact O.int rfl rfl (sub64 (by omega))|exact O.int rfl rfl (add8 (by omega))|exact O.pickT rfl (by first|with_reducible rfl|with_reducible assumption|decide) rfl|exact O.pickF rfl (by first|with_reducible rfl|with_reducible assumption|decide) rfl|exact O.lenL rfl rfl|exact O.lenSv rfl rfl|exact O.lenS rfl rfl|exact O.not rfl|exact O.svEq rfl rfl|exact O.svNe rfl rfl|exact O.str rfl rfl rfl|exact O.boolEq rfl rfl rfl|exact O.boolNe rfl rfl rfl|exact O.fieldE rfl rfl rfl rfl|exact O.fieldR rfl rfl rfl rfl|exact O.loadPA rfl rfl (by first|exact rfl|with_reducible assumption|assumption|exact at_upd) rfl rfl|exact O.extr rfl rfl|exact O.nilP rfl|exact O.nilF rfl|exact O.extrT rfl rfl|exact O.makeFunc rfl rfl rfl|exact O.fieldF rfl rfl rfl rfl|exact O.loadF rfl rfl rfl rfl|exact O.loadFA rfl rfl rfl|exact O.ptrEq rfl rfl rfl rfl|exact O.ptrNe rfl rfl rfl rfl|exact O.max rfl rfl|(apply O.addrX;exact rfl;infer_instance;exact rfl;exact rfl;omega;(first|with_reducible assumption|assumption);(first|exact rfl|assumption))|(apply O.load1;exact rfl;(first|with_reducible assumption|assumption);exact rfl;exact rfl;exact rfl)|(apply O.loadE;exact rfl;exact rfl;exact rfl;(first|with_reducible assumption|assumption);exact rfl)|(apply O.loadEA;exact rfl;exact rfl;(first|with_reducible assumption|assumption);exact rfl)|(apply O.call;exact rfl;exact rfl;(first|with_reducible assumption|assumption))|(apply O.addrRX;exact rfl;infer_instance;exact rfl;exact rfl;(first|with_reducible assumption|assumption);(first|exact rfl|assumption);omega;exact rfl)|(apply O.loadRX;exact rfl;(first|with_reducible assumption|assumption);(first|exact rfl|assumption);(first|with_reducible assumption|assumption);exact rfl;exact rfl;exact rfl)|(apply O.lenO;exact rfl;exact rfl;(first|with_reducible assumption|assumption))|(apply O.build;exact rfl;exact rfl;exact rfl;exact rfl)|(apply O.callV;exact rfl;infer_instance;exact rfl;exact rfl;(first|with_reducible assumption|assumption))|(apply O.lookA;exact rfl;infer_instance;infer_instance;exact rfl;exact rfl;exact rfl;(first|with_reducible assumption|assumption)));exact rfl;exact rfl)|(apply D.op1;(first|exact O.boxS rfl rfl rfl|exact O.alloc rfl rfl|exact O.makeMap|(apply O.buildX;exact rfl;infer_instance;exact rfl;exact rfl;decide;exact rfl;exact rfl;decide));exact rfl;exact rfl)|(apply D.opN1;(first|(apply O.storeP;exact rfl;exact rfl;exact rfl;(first|exact rfl|with_reducible assumption|assumption|exact at_upd);exact rfl;exact rfl)|(apply O.storeP1;exact rfl;exact rfl;exact rfl;assumption;assumption;(first|exact rfl|with_reducible assumption|assumption|exact at_upd);exact rfl;exact rfl));exact rfl)|(apply D.guardT1;exact rfl;exact rfl;(first|with_reducible rfl|with_reducible assumption|decide))|(apply D.guardT0;exact rfl;exact rfl;(first|with_reducible rfl|with_reducible assumption|decide))|(apply D.guardF1;exact rfl;exact rfl;(first|with_reducible rfl|with_reducible assumption|decide);exact rfl)|(apply D.guardF0;exact rfl;exact rfl;(first|with_reducible rfl|with_reducible assumption|decide);exact rfl)|(apply D.guardN;exact rfl;exact rfl;exact rfl)|(apply D.done;kernel_rfl)|(apply D.skip;kernel_rfl)))
 exact Hold.out k):P:=h ⟨k⟩
theorem AN {P Q:Prop} (k:Q) (h:Hold Q->P:=by
 intro k
 (repeat (first|(apply R.op0;(first|exact O.move rfl|exact O.assign rfl|exact O.fieldP rfl rfl rfl rfl|exact O.loadP rfl rfl rfl (by first|exact rfl|with_reducible assumption|assumption|exact at_upd) rfl|exact O.cmp rfl rfl rfl|exact O.int rfl rfl (add64 (by omega))|exact O.int rfl rfl (sub64 (by omega))|exact O.int rfl rfl (add8 (by omega))|exact O.pickT rfl (by first|with_reducible rfl|with_reducible assumption|decide) rfl|exact O.pickF rfl (by first|with_reducible rfl|with_reducible assumption|decide) rfl|exact O.lenL rfl rfl|exact O.lenSv rfl rfl|exact O.lenS rfl rfl|exact O.not rfl|exact O.svEq rfl rfl|exact O.svNe rfl rfl|exact O.str rfl rfl rfl|exact O.boolEq rfl rfl rfl|exact O.boolNe rfl rfl rfl|exact O.fieldE rfl rfl rfl rfl|exact O.fieldR rfl rfl rfl rfl|exact O.loadPA rfl rfl (by first|exact rfl|with_reducible assumption|assumption|exact at_upd) rfl rfl|exact O.extr rfl rfl|exact O.nilP rfl|exact O.nilF rfl|exact O.extrT rfl rfl|exact O.makeFunc rfl rfl rfl|exact O.fieldF rfl rfl rfl rfl|exact O.loadF rfl rfl rfl rfl|exact O.loadFA rfl rfl rfl|exact O.ptrEq rfl rfl rfl rfl|exact O.ptrNe rfl rfl rfl rfl|exact O.max rfl rfl|(apply O.addrX;exact rfl;infer_instance;exact rfl;exact rfl;omega;(first|with_reducible assumption|assumption);(first|exact rfl|assumption))|(apply O.load1;exact rfl;(first|with_reducible assumption|assumption);exact rfl;exact rfl;exact rfl)|(apply O.loadE;exact rfl;exact rfl;exact rfl;(first|with_reducible assumption|assumption);exact rfl)|(apply O.loadEA;exact rfl;exact rfl;(first|with_reducible assumption|assumption);exact rfl)|(apply O.call;exact rfl;exact rfl;(first|with_reducible assumption|assumption))|(apply O.addrRX;exact rfl;infer_instance;exact rfl;exact rfl;(first|with_reducible assumption|assumption);(first|exact rfl|assumption);omega;exact rfl)|(apply O.loadRX;exact rfl;(first|with_reducible assumption|assumption);(first|exact rfl|assumption);(first|with_reducible assumption|assumption);exact rfl;exact rfl;exact rfl)|(apply O.lenO;exact rfl;exact rfl;(first|with_reducible assumption|assumption))|(apply O.build;exact rfl;exact rfl;exact rfl;exact rfl)|(apply O.callV;exact rfl;infer_instance;exact rfl;exact rfl;(first|with_reducible assumption|assumption))|(apply O.lookA;exact rfl;infer_instance;infer_instance;exact rfl;exact rfl;exact rfl;(first|with_reducible assumption|assumption)));exact rfl)|(apply R.op1;(first|exact O.boxS rfl rfl rfl|exact O.alloc rfl rfl|exact O.makeMap|(apply O.buildX;exact rfl;infer_instance;exact rfl;exact rfl;decide;exact rfl;exact rfl;decide));exact rfl)|(apply R.opN1;(first|(apply O.storeP;exact rfl;exact rfl;exact rfl;(first|exact rfl|with_reducible assumption|assumption|exact at_upd);exact rfl;exact rfl)|(apply O.storeP1;exact rfl;exact rfl;exact rfl;assumption;assumption;(first|exact rfl|with_reducible assumption|assumption|exact at_upd);exact rfl;exact rfl)))|(apply R.guardT1;exact rfl;exact rfl;(first|with_reducible rfl|with_reducible assumption|decide))|(apply R.guardT0;exact rfl;exact rfl;(first|with_reducible rfl|with_reducible assumption|decide))|(apply R.guardF1;exact rfl;exact rfl;(first|with_reducible rfl|with_reducible assumption|decide);exact rfl)|(apply R.guardF0;exact rfl;exact rfl;(first|with_reducible rfl|with_reducible assumption|decide);exact rfl)|(apply R.guardN;exact rfl;exact rfl;exact rfl)|apply R.done|apply W.seq|apply W.regionN|apply W.drawN|apply W.block|(apply W.condT;exact rfl;(first|with_reducible rfl|with_reducible assumption|decide))|(apply W.condF;exact rfl;(first|with_reducible rfl|with_reducible assumption|decide))|apply W.retAft|apply W.retBlk|apply W.retLop|apply W.exitAft|apply W.exitLop|apply W.exitBlk|(apply W.exitBlkNe;exact rfl)|apply W.skipAft|apply W.skipBlk|apply W.retCut|apply W.exitCut|apply R.skip|(apply D.op0;(first|exact O.move rfl|exact O.assign rfl|exact O.fieldP rfl rfl rfl rfl|exact O.loadP rfl rfl rfl (by first|exact rfl|with_reducible assumption|assumption|exact at_upd) rfl|exact O.cmp rfl rfl rfl|exact O.int rfl rfl (add64 (by omega))|exact O.int rfl rfl (sub64 (by omega))|exact O.int rfl rfl (add8 (by omega))|exact O.pickT rfl (by first|with_reducible rfl|with_reducible assumption|decide) rfl|exact O.pickF rfl (by first|with_reducible rfl|with_reducible assumption|decide) rfl|exact O.lenL rfl rfl|exact O.lenSv rfl rfl|exact O.lenS rfl rfl|exact O.not rfl|exact O.svEq rfl rfl|exact O.svNe rfl rfl|exact O.str rfl rfl rfl|exact O.boolEq rfl rfl rfl|exact O.boolNe rfl rfl rfl|exact O.fieldE rfl rfl rfl rfl|exact O.fieldR rfl rfl rfl rfl|exact O.loadPA rfl rfl (by first|exact rfl|with_reducible assumption|assumption|exact at_upd) rfl rfl|exact O.extr rfl rfl|exact O.nilP rfl|exact O.nilF rfl|exact O.extrT rfl rfl|exact O.makeFunc rfl rfl rfl|exact O.fieldF rfl rfl rfl rfl|exact O.loadF rfl rfl rfl rfl|exact O.loadFA rfl rfl rfl|exact O.ptrEq rfl rfl rfl rfl|exact O.ptrNe rfl rfl rfl rfl|exact O.max rfl rfl|(apply O.addrX;exact rfl;infer_instance;exact rfl;exact rfl;omega;(first|with_reducible assumption|assumption);(first|exact rfl|assumption))|(apply O.load1;exact rfl;(first|with_reducible assumption|assumption);exact rfl;exact rfl;exact rfl)|(apply O.loadE;exact rfl;exact rfl;exact rfl;(first|with_reducible assumption|assumption);exact rfl)|(apply O.loadEA;exact rfl;exact rfl;(first|with_reducible assumption|assumption);exact rfl)|(apply O.call;exact rfl;exact rfl;(first|with_reducible assumption|assumption))|(apply O.addrRX;exact rfl;infer_instance;exact rfl;exact rfl;(first|with_reducible assumption|assumption);(first|exact rfl|assumption);omega;exact rfl)|(apply O.loadRX;exact rfl;(first|with_reducible assumption|assumption);(first|exact rfl|assumption);(first|with_reducible assumption|assumption);exact rfl;exact rfl;exact rfl)|(apply O.lenO;exact rfl;exact rfl;(first|with_reducible assumption|assumption))|(apply O.build;exact rfl;exact rfl;exact rfl;exact rfl)|(apply O.callV;exact rfl;infer_instance;exact rfl;exact rfl;(first|with_reducible assumption|assumption))|(apply O.lookA;exact rfl;infer_instance;infer_instance;exact rfl;exact rfl;exact rfl;(first|with_reducible assumption|assumption)));exact rfl;exact rfl)|(apply D.op1;(first|exact O.boxS rfl rfl rfl|exact O.alloc rfl rfl|exact O.makeMap|(apply O.buildX;exact rfl;infer_instance;exact rfl;exact rfl;decide;exact rfl;exact rfl;decide));exact rfl;exact rfl)|(apply D.opN1;(first|(apply O.storeP;exact rfl;exact rfl;exact rfl;(first|exact rfl|with_reducible assumption|assumption|exact at_upd);exact rfl;exact rfl)|(apply O.storeP1;exact rfl;exact rfl;exact rfl;assumption;assumption;(first|exact rfl|with_reducible assumption|assumption|exact at_upd);exact rfl;exact rfl));exact rfl)|(apply D.guardT1;exact rfl;exact rfl;(first|with_reducible rfl|with_reducible assumption|decide))|(apply D.guardT0;exact rfl;exact rfl;(first|with_reducible rfl|with_reducible assumption|decide))|(apply D.guardF1;exact rfl;exact rfl;(first|with_reducible rfl|with_reducible assumption|decide);exact rfl)|(apply D.guardF0;exact rfl;exact rfl;(first|with_reducible rfl|with_reducible assumption|decide);exact rfl)|(apply D.guardN;exact rfl;exact rfl;exact rfl)|refine D.auto ?_))
 exact Hold.out k):P:=h ⟨k⟩
theorem AX {P Q:Prop} (k:Q) (h:Hold Q->P:=by
 intro k
 (repeat (first|(apply DX.op0;(first|exact O.move rfl|exact O.assign rfl|exact O.fieldP rfl rfl rfl rfl|exact O.loadP rfl rfl rfl (by first|exact rfl|with_reducible assumption|assumption|exact at_upd) rfl|exact O.cmp rfl rfl rfl|exact O.int rfl rfl (add64 (by omega))|exact O.int rfl rfl (sub64 (by omega))|exact O.int rfl rfl (add8 (by omega))|exact O.pickT rfl (by first|with_reducible rfl|with_reducible assumption|decide) rfl|exact O.pickF rfl (by first|with_reducible rfl|with_reducible assumption|decide) rfl|exact O.lenL rfl rfl|exact O.lenSv rfl rfl|exact O.lenS rfl rfl|exact O.not rfl|exact O.svEq rfl rfl|exact O.svNe rfl rfl|exact O.str rfl rfl rfl|exact O.boolEq rfl rfl rfl|exact O.boolNe rfl rfl rfl|exact O.fieldE rfl rfl rfl rfl|exact O.fieldR rfl rfl rfl rfl|exact O.loadPA rfl rfl (by first|exact rfl|with_reducible assumption|assumption|exact at_upd) rfl rfl|exact O.extr rfl rfl|exact O.nilP rfl|exact O.nilF rfl|exact O.extrT rfl rfl|exact O.makeFunc rfl rfl rfl|exact O.fieldF rfl rfl rfl rfl|exact O.loadF rfl rfl rfl rfl|exact O.loadFA rfl rfl rfl|exact O.ptrEq rfl rfl rfl rfl|exact O.ptrNe rfl rfl rfl rfl|exact O.max rfl rfl|(apply O.addrX;exact rfl;infer_instance;exact rfl;exact rfl;omega;(first|with_reducible assumption|assumption);(first|exact rfl|assumption))|(apply O.load1;exact rfl;(first|with_reducible assumption|assumption);exact rfl;exact rfl;exact rfl)|(apply O.loadE;exact rfl;exact rfl;exact rfl;(first|with_reducible assumption|assumption);exact rfl)|(apply O.loadEA;exact rfl;exact rfl;(first|with_reducible assumption|assumption);exact rfl)|(apply O.call;exact rfl;exact rfl;(first|with_reducible assumption|assumption))|(apply O.addrRX;exact rfl;infer_instance;exact rfl;exact rfl;(first|with_reducible assumption|assumption);(first|exact rfl|assumption);omega;exact rfl)|(apply O.loadRX;exact rfl;(first|with_reducible assumption|assumption);(first|exact rfl|assumption);(first|with_reducible assumption|assumption);exact rfl;exact rfl;exact rfl)|(apply O.lenO;exact rfl;exact rfl;(first|with_reducible assumption|assumption))|(apply O.build;exact rfl;exact rfl;exact rfl;exact rfl)|(apply O.callV;exact rfl;infer_instance;exact rfl;exact rfl;(first|with_reducible assumption|assumption))|(apply O.lookA;exact rfl;infer_instance;infer_instance;exact rfl;exact rfl;exact rfl;(first|with_reducible assumption|assumption)));exact rfl;exact rfl)))
 exact Hold.out k):P:=h ⟨k⟩
theorem A1 {P Q:Prop} (k:Q) (h:Hold Q->P:=by
 intro k
 (try (apply W.seqR;(first|apply W.regionN|apply W.drawN)))
 (repeat (first|(apply R.op0;(first|exact O.move rfl|exact O.assign rfl|exact O.fieldP rfl rfl rfl rfl|exact O.loadP rfl rfl rfl (by first|exact rfl|with_reducible assumption|assumption|exact at_upd) rfl|exact O.cmp rfl rfl rfl|exact O.int rfl rfl (add64 (by omega))|exact O.int rfl rfl (sub64 (by omega))|exact O.int rfl rfl (add8 (by omega))|exact O.pickT rfl (by first|with_reducible rfl|with_reducible assumption|decide) rfl|exact O.pickF rfl (by first|with_reducible rfl|with_reducible assumption|decide) rfl|exact O.lenL rfl rfl|exact O.lenSv rfl rfl|exact O.lenS rfl rfl|exact O.not rfl|exact O.svEq rfl rfl|exact O.svNe rfl rfl|exact O.str rfl rfl rfl|exact O.boolEq rfl rfl rfl|exact O.boolNe rfl rfl rfl|exact O.fieldE rfl rfl rfl rfl|exact O.fieldR rfl rfl rfl rfl|exact O.loadPA rfl rfl (by first|exact rfl|with_reducible assumption|assumption|exact at_upd) rfl rfl|exact O.extr rfl rfl|exact O.nilP rfl|exact O.nilF rfl|exact O.extrT rfl rfl|exact O.makeFunc rfl rfl rfl|exact O.fieldF rfl rfl rfl rfl|exact O.loadF rfl rfl rfl rfl|exact O.loadFA rfl rfl rfl|exact O.ptrEq rfl rfl rfl rfl|exact O.ptrNe rfl rfl rfl rfl|exact O.max rfl rfl|(apply O.addrX;exact rfl;infer_instance;exact rfl;exact rfl;omega;(first|with_reducible assumption|assumption);(first|exact rfl|assumption))|(apply O.load1;exact rfl;(first|with_reducible assumption|assumption);exact rfl;exact rfl;exact rfl)|(apply O.loadE;exact rfl;exact rfl;exact rfl;(first|with_reducible assumption|assumption);exact rfl)|(apply O.loadEA;exact rfl;exact rfl;(first|with_reducible assumption|assumption);exact rfl)|(apply O.call;exact rfl;exact rfl;(first|with_reducible assumption|assumption))|(apply O.addrRX;exact rfl;infer_instance;exact rfl;exact rfl;(first|with_reducible assumption|assumption);(first|exact rfl|assumption);omega;exact rfl)|(apply O.loadRX;exact rfl;(first|with_reducible assumption|assumption);(first|exact rfl|assumption);(first|with_reducible assumption|assumption);exact rfl;exact rfl;exact rfl)|(apply O.lenO;exact rfl;exact rfl;(first|with_reducible assumption|assumption))|(apply O.build;exact rfl;exact rfl;exact rfl;exact rfl)|(apply O.callV;exact rfl;infer_instance;exact rfl;exact rfl;(first|with_reducible assumption|assumption))|(apply O.lookA;exact rfl;infer_instance;infer_instance;exact rfl;exact rfl;exact rfl;(first|with_reducible assumption|assumption)));exact rfl)|(apply R.op1;(first|exact O.boxS rfl rfl rfl|exact O.alloc rfl rfl|exact O.makeMap|(apply O.buildX;exact rfl;infer_instance;exact rfl;exact rfl;decide;exact rfl;exact rfl;decide));exact rfl)|(apply R.opN1;(first|(apply O.storeP;exact rfl;exact rfl;exact rfl;(first|exact rfl|with_reducible assumption|assumption|exact at_upd);exact rfl;exact rfl)|(apply O.storeP1;exact rfl;exact rfl;exact rfl;assumption;assumption;(first|exact rfl|with_reducible assumption|assumption|exact at_upd);exact rfl;exact rfl)))|(apply R.guardT1;exact rfl;exact rfl;(first|with_reducible rfl|with_reducible assumption|decide))|(apply R.guardT0;exact rfl;exact rfl;(first|with_reducible rfl|with_reducible assumption|decide))|(apply R.guardF1;exact rfl;exact rfl;(first|with_reducible rfl|with_reducible assumption|decide);exact rfl)|(apply R.guardF0;exact rfl;exact rfl;(first|with_reducible rfl|with_reducible assumption|decide);exact rfl)|(apply R.guardN;exact rfl;exact rfl;exact rfl)|(apply D.op0;(first|exact O.move rfl|exact O.assign rfl|exact O.fieldP rfl rfl rfl rfl|exact O.loadP rfl rfl rfl (by first|exact rfl|with_reducible assumption|assumption|exact at_upd) rfl|exact O.cmp rfl rfl rfl|exact O.int rfl rfl (add64 (by omega))|exact O.int rfl rfl (sub64 (by omega))|exact O.int rfl rfl (add8 (by omega))|exact O.pickT rfl (by first|with_reducible rfl|with_reducible assumption|decide) rfl|exact O.pickF rfl (by first|with_reducible rfl|with_reducible assumption|decide) rfl|exact O.lenL rfl rfl|exact O.lenSv rfl rfl|exact O.lenS rfl rfl|exact O.not rfl|exact O.svEq rfl rfl|exact O.svNe rfl rfl|exact O.str rfl rfl rfl|exact O.boolEq rfl rfl rfl|exact O.boolNe rfl rfl rfl|exact O.fieldE rfl rfl rfl rfl|exact O.fieldR rfl rfl rfl rfl|exact O.loadPA rfl rfl (by first|exact rfl|with_reducible assumption|assumption|exact at_upd) rfl rfl|exact O.extr rfl rfl|exact O.nilP rfl|exact O.nilF rfl|exact O.extrT rfl rfl|exact O.makeFunc rfl rfl rfl|exact O.fieldF rfl rfl rfl rfl|exact O.loadF rfl rfl rfl rfl|exact O.loadFA rfl rfl rfl|exact O.ptrEq rfl rfl rfl rfl|exact O.ptrNe rfl rfl rfl rfl|exact O.max rfl rfl|(apply O.addrX;exact rfl;infer_instance;exact rfl;exact rfl;omega;(first|with_reducible assumption|assumption);(first|exact rfl|assumption))|(apply O.load1;exact rfl;(first|with_reducible assumption|assumption);exact rfl;exact rfl;exact rfl)|(apply O.loadE;exact rfl;exact rfl;exact rfl;(first|with_reducible assumption|assumption);exact rfl)|(apply O.loadEA;exact rfl;exact rfl;(first|with_reducible assumption|assumption);exact rfl)|(apply O.call;exact rfl;exact rfl;(first|with_reducible assumption|assumption))|(apply O.addrRX;exact rfl;infer_instance;exact rfl;exact rfl;(first|with_reducible assumption|assumption);(first|exact rfl|assumption);omega;exact rfl)|(apply O.loadRX;exact rfl;(first|with_reducible assumption|assumption);(first|exact rfl|assumption);(first|with_reducible assumption|assumption);exact rfl;exact rfl;exact rfl)|(apply O.lenO;exact rfl;exact rfl;(first|with_reducible assumption|assumption))|(apply O.build;exact rfl;exact rfl;exact rfl;exact rfl)|(apply O.callV;exact rfl;infer_instance;exact rfl;exact rfl;(first|with_reducible assumption|assumption))|(apply O.lookA;exact rfl;infer_instance;infer_instance;exact rfl;exact rfl;exact rfl;(first|with_reducible assumption|assumption)));exact rfl;exact rfl)|(apply D.op1;(first|exact O.boxS rfl rfl rfl|exact O.alloc rfl rfl|exact O.makeMap|(apply O.buildX;exact rfl;infer_instance;exact rfl;exact rfl;decide;exact rfl;exact rfl;decide));exact rfl;exact rfl)|(apply D.opN1;(first|(apply O.storeP;exact rfl;exact rfl;exact rfl;(first|exact rfl|with_reducible assumption|assumption|exact at_upd);exact rfl;exact rfl)|(apply O.storeP1;exact rfl;exact rfl;exact rfl;assumption;assumption;(first|exact rfl|with_reducible assumption|assumption|exact at_upd);exact rfl;exact rfl));exact rfl)|(apply D.guardT1;exact rfl;exact rfl;(first|with_reducible rfl|with_reducible assumption|decide))|(apply D.guardT0;exact rfl;exact rfl;(first|with_reducible rfl|with_reducible assumption|decide))|(apply D.guardF1;exact rfl;exact rfl;(first|with_reducible rfl|with_reducible assumption|decide);exact rfl)|(apply D.guardF0;exact rfl;exact rfl;(first|with_reducible rfl|with_reducible assumption|decide);exact rfl)|(apply D.guardN;exact rfl;exact rfl;exact rfl)))
 (first|apply R.done|refine D.auto ?_)
 exact Hold.out k):P:=h ⟨k⟩
theorem AQ {P Q:Prop} (k:Q) (h:Hold Q->P:=by
 intro k
 (repeat (first|(apply R.op0;(first|exact O.move rfl|exact O.assign rfl|exact O.fieldP rfl rfl rfl rfl|exact O.loadP rfl rfl rfl (by first|exact rfl|with_reducible assumption|assumption|exact at_upd) rfl|exact O.cmp rfl rfl rfl|exact O.int rfl rfl (add64 (by omega))|exact O.int rfl rfl (sub64 (by omega))|exact O.int rfl rfl (add8 (by omega))|exact O.pickT rfl (by first|with_reducible rfl|with_reducible assumption|decide) rfl|exact O.pickF rfl (by first|with_reducible rfl|with_reducible assumption|decide) rfl|exact O.lenL rfl rfl|exact O.lenSv rfl rfl|exact O.lenS rfl rfl|exact O.not rfl|exact O.svEq rfl rfl|exact O.svNe rfl rfl|exact O.str rfl rfl rfl|exact O.boolEq rfl rfl rfl|exact O.boolNe rfl rfl rfl|exact O.fieldE rfl rfl rfl rfl|exact O.fieldR rfl rfl rfl rfl|exact O.loadPA rfl rfl (by first|exact rfl|with_reducible assumption|assumption|exact at_upd) rfl rfl|exact O.extr rfl rfl|exact O.nilP rfl|exact O.nilF rfl|exact O.extrT rfl rfl|exact O.makeFunc rfl rfl rfl|exact O.fieldF rfl rfl rfl rfl|exact O.loadF rfl rfl rfl rfl|exact O.loadFA rfl rfl rfl|exact O.ptrEq rfl rfl rfl rfl|exact O.ptrNe rfl rfl rfl rfl|exact O.max rfl rfl|(apply O.addrX;exact rfl;infer_instance;exact rfl;exact rfl;omega;(first|with_reducible assumption|assumption);(first|exact rfl|assumption))|(apply O.load1;exact rfl;(first|with_reducible assumption|assumption);exact rfl;exact rfl;exact rfl)|(apply O.loadE;exact rfl;exact rfl;exact rfl;(first|with_reducible assumption|assumption);exact rfl)|(apply O.loadEA;exact rfl;exact rfl;(first|with_reducible assumption|assumption);exact rfl)|(apply O.call;exact rfl;exact rfl;(first|with_reducible assumption|assumption))|(apply O.addrRX;exact rfl;infer_instance;exact rfl;exact rfl;(first|with_reducible assumption|assumption);(first|exact rfl|assumption);omega;exact rfl)|(apply O.loadRX;exact rfl;(first|with_reducible assumption|assumption);(first|exact rfl|assumption);(first|with_reducible assumption|assumption);exact rfl;exact rfl;exact rfl)|(apply O.lenO;exact rfl;exact rfl;(first|with_reducible assumption|assumption))|(apply O.build;exact rfl;exact rfl;exact rfl;exact rfl)|(apply O.callV;exact rfl;infer_instance;exact rfl;exact rfl;(first|with_reducible assumption|assumption))|(apply O.lookA;exact rfl;infer_instance;infer_instance;exact rfl;exact rfl;exact rfl;(first|with_reducible assumption|assumption)));exact rfl)|(apply R.op1;(first|exact O.boxS rfl rfl rfl|exact O.alloc rfl rfl|exact O.makeMap|(apply O.buildX;exact rfl;infer_instance;exact rfl;exact rfl;decide;exact rfl;exact rfl;decide));exact rfl)|(apply R.opN1;(first|(apply O.storeP;exact rfl;exact rfl;exact rfl;(first|exact rfl|with_reducible assumption|assumption|exact at_upd);exact rfl;exact rfl)|(apply O.storeP1;exact rfl;exact rfl;exact rfl;assumption;assumption;(first|exact rfl|with_reducible assumption|assumption|exact at_upd);exact rfl;exact rfl)))|(apply R.guardT1;exact rfl;exact rfl;(first|with_reducible rfl|with_reducible assumption|decide))|(apply R.guardT0;exact rfl;exact rfl;(first|with_reducible rfl|with_reducible assumption|decide))|(apply R.guardF1;exact rfl;exact rfl;(first|with_reducible rfl|with_reducible assumption|decide);exact rfl)|(apply R.guardF0;exact rfl;exact rfl;(first|with_reducible rfl|with_reducible assumption|decide);exact rfl)|(apply R.guardN;exact rfl;exact rfl;exact rfl)))
 exact Hold.out k):P:=h ⟨k⟩
theorem AD {P Q:Prop} (k:Q) (h:Hold Q->P:=by
 intro k
 (repeat (first|(apply D.op0;(first|exact O.move rfl|exact O.assign rfl|exact O.fieldP rfl rfl rfl rfl|exact O.loadP rfl rfl rfl (by first|exact rfl|with_reducible assumption|assumption|exact at_upd) rfl|exact O.cmp rfl rfl rfl|exact O.int rfl rfl (add64 (by omega))|exact O.int rfl rfl (sub64 (by omega))|exact O.int rfl rfl (add8 (by omega))|exact O.pickT rfl (by first|with_reducible rfl|with_reducible assumption|decide) rfl|exact O.pickF rfl (by first|with_reducible rfl|with_reducible assumption|decide) rfl|exact O.lenL rfl rfl|exact O.lenSv rfl rfl|exact O.lenS rfl rfl|exact O.not rfl|exact O.svEq rfl rfl|exact O.svNe rfl rfl|exact O.str rfl rfl rfl|exact O.boolEq rfl rfl rfl|exact O.boolNe rfl rfl rfl|exact O.fieldE rfl rfl rfl rfl|exact O.fieldR rfl rfl rfl rfl|exact O.loadPA rfl rfl (by first|exact rfl|with_reducible assumption|assumption|exact at_upd) rfl rfl|exact O.extr rfl rfl|exact O.nilP rfl|exact O.nilF rfl|exact O.extrT rfl rfl|exact O.makeFunc rfl rfl rfl|exact O.fieldF rfl rfl rfl rfl|exact O.loadF rfl rfl rfl rfl|exact O.loadFA rfl rfl rfl|exact O.ptrEq rfl rfl rfl rfl|exact O.ptrNe rfl rfl rfl rfl|exact O.max rfl rfl|(apply O.addrX;exact rfl;infer_instance;exact rfl;exact rfl;omega;(first|with_reducible assumption|assumption);(first|exact rfl|assumption))|(apply O.load1;exact rfl;(first|with_reducible assumption|assumption);exact rfl;exact rfl;exact rfl)|(apply O.loadE;exact rfl;exact rfl;exact rfl;(first|with_reducible assumption|assumption);exact rfl)|(apply O.loadEA;exact rfl;exact rfl;(first|with_reducible assumption|assumption);exact rfl)|(apply O.call;exact rfl;exact rfl;(first|with_reducible assumption|assumption))|(apply O.addrRX;exact rfl;infer_instance;exact rfl;exact rfl;(first|with_reducible assumption|assumption);(first|exact rfl|assumption);omega;exact rfl)|(apply O.loadRX;exact rfl;(first|with_reducible assumption|assumption);(first|exact rfl|assumption);(first|with_reducible assumption|assumption);exact rfl;exact rfl;exact rfl)|(apply O.lenO;exact rfl;exact rfl;(first|with_reducible assumption|assumption))|(apply O.build;exact rfl;exact rfl;exact rfl;exact rfl)|(apply O.callV;exact rfl;infer_instance;exact rfl;exact rfl;(first|with_reducible assumption|assumption))|(apply O.lookA;exact rfl;infer_instance;infer_instance;exact rfl;exact rfl;exact rfl;(first|with_reducible assumption|assumption)));exact rfl;exact rfl)|(apply D.op1;(first|exact O.boxS rfl rfl rfl|exact O.alloc rfl rfl|exact O.makeMap|(apply O.buildX;exact rfl;infer_instance;exact rfl;exact rfl;decide;exact rfl;exact rfl;decide));exact rfl;exact rfl)|(apply D.opN1;(first|(apply O.storeP;exact rfl;exact rfl;exact rfl;(first|exact rfl|with_reducible assumption|assumption|exact at_upd);exact rfl;exact rfl)|(apply O.storeP1;exact rfl;exact rfl;exact rfl;assumption;assumption;(first|exact rfl|with_reducible assumption|assumption|exact at_upd);exact rfl;exact rfl));exact rfl)|(apply D.guardT1;exact rfl;exact rfl;(first|with_reducible rfl|with_reducible assumption|decide))|(apply D.guardT0;exact rfl;exact rfl;(first|with_reducible rfl|with_reducible assumption|decide))|(apply D.guardF1;exact rfl;exact rfl;(first|with_reducible rfl|with_reducible assumption|decide);exact rfl)|(apply D.guardF0;exact rfl;exact rfl;(first|with_reducible rfl|with_reducible assumption|decide);exact rfl)|(apply D.guardN;exact rfl;exact rfl;exact rfl)))
 exact Hold.out k):P:=h ⟨k⟩
end Go.Abs

/- Programs that are looked at: terms. -/
open Go Go.Abs
namespace Go.Abs
set_option maxRecDepth 100000
set_option maxHeartbeats 4000000
instance fnis86:FnIs CC 103:=⟨rfl,fun _=>rfl⟩
def ty71:TyI:={ d:=TyD.ptr,sz:=1,bytes:=8,zero:=AV.imm IV.nilp }
instance tyis71:TyIs CC 97 ty71:=⟨by kernel_rfl⟩
def ty84:TyI:={ d:=TyD.st [(0,2),(2,1),(3,1),(4,1)],sz:=5,bytes:=40,zero:=AV.imm (IV.agg [IV.nilmap,IV.nilmap,IV.nilmap,IV.int IntKind.i64 (0),IV.int IntKind.i64 (0)]) }
instance tyis84:TyIs CC 124 ty84:=⟨by kernel_rfl⟩
def ty81:TyI:={ d:=TyD.st [(0,1),(1,1)],sz:=2,bytes:=16,zero:=AV.imm (IV.agg [IV.nilmap,IV.nilmap]) }
instance tyis81:TyIs CC 121 ty81:=⟨by kernel_rfl⟩
def ty82:TyI:={ d:=TyD.mp 88 224,sz:=1,bytes:=8,zero:=AV.imm IV.nilmap }
instance tyis82:TyIs CC 122 ty82:=⟨by kernel_rfl⟩
def ty79:TyI:={ d:=TyD.mp 9 3,sz:=1,bytes:=8,zero:=AV.imm IV.nilmap }
instance tyis79:TyIs CC 119 ty79:=⟨by kernel_rfl⟩
def ty137:TyI:={ d:=TyD.st [(0,1),(1,1),(2,1),(3,1),(4,1),(5,1)],sz:=6,bytes:=40,zero:=AV.imm (IV.agg [IV.int IntKind.i64 (0),IV.int IntKind.i64 (0),IV.bool false,IV.bool false,IV.int IntKind.i64 (0),IV.int IntKind.i64 (0)]) }
instance tyis137:TyIs CC 224 ty137:=⟨by kernel_rfl⟩
def unf:IV := .iface 175 (.agg [])
theorem ret86:Ret CC 103 [.bool true] (.tup []):=Ret.reckon (n:=10) (by kernel_rfl)
theorem pan86:RetPan CC 103 [.bool false] unf:=RetPan.reckon (n:=10) (by kernel_rfl) rfl
def SPost (o:Nat) (a b c d:AV) (n res:Int) (G:Nat->Obj) (nx:Nat):CR->Prop
 | .ret v G' nx'=>v = .imm (.tup [])/\0<=res/\G' o = .box [a,b,c,d, .imm (.int .i64 (n+res))] false/\nx<=nx'/\∀ q,q < nx->q≠o->G' q=G q
 | .pan u G' nx'=>u=unf/\res < 0/\nx<=nx'/\∀ q,q < nx->q≠o->G' q=G q
def oneR (depth left:Int):Int:=if depth > 10\/left < 1 then -1 else 1
theorem retM {b:Bool} (h:b=true):Ret CC 103 [.bool b] (.tup []):=h▸ret86
theorem panM {b:Bool} (h:b=false):RetPan CC 103 [.bool b] unf:=h▸pan86
theorem cal103 {o nx:Nat} {G:Nat->Obj} {a b c d:AV} {n depth:Int} (hG:G o = .box [a,b,c,d, .imm (.int .i64 n)] false) (_ho:o < nx) (hn:0<=n/\n<=1000) :
  CalP CC 162 [.ptr o 0, .imm (.int .i64 depth)] G nx (SPost o a b c d n (oneR depth (60-n)) G nx):=by
 refine CalP.of (fn:=Go.Proofs.Tryz.f162) (by kernel_rfl) rfl rfl ?_
 rcases Bool.eq_false_or_eq_true (decide (n+1<=60)) with h1|h1
 ·rcases Bool.eq_false_or_eq_true (decide (depth<=10)) with h2|h2
  ·have h1':=of_decide_eq_true h1
   have h2':=of_decide_eq_true h2
   have hr:=retM h2
   refine AA ?_
   have e:oneR depth (60-n)=1:=by unfold oneR;rw [if_neg (by omega)]
   rw [e]
   exact W.skipFinP rfl ⟨rfl,by decide,at_upd,by omega,fun q _ _=>at_upd⟩
  ·have h2':=of_decide_eq_false h2
   have e:oneR depth (60-n) = -1:=by unfold oneR;rw [if_pos (by omega)]
   rw [e]
   refine AA ?_
   exact R.callPan rfl rfl (panM h2) (panTo ⟨rfl,by decide,by omega,fun q _ _=>at_upd⟩)
 ·have h1':=of_decide_eq_false h1
  have e:oneR depth (60-n) = -1:=by unfold oneR;rw [if_pos (by omega)]
  rw [e]
  refine AA ?_
  exact R.callPan rfl rfl pan86 (panTo ⟨rfl,by decide,by omega,fun q _ _=>at_upd⟩)
theorem cal104 {o:Nat} {a b cc d:AV} {c:Trm} (hf:c.Fits):∀ {nx:Nat} {G:Nat->Obj} {n depth:Int} {other:Bool},G o = .box [a,b,cc,d, .imm (.int .i64 n)] false->o < nx->(0<=n/\n<=60)->(-1000<=depth/\depth<=1000) ->
  CalP CC 163 [.ptr o 0, .imm c.iv, .imm (.bool other), .imm (.int .i64 depth)] G nx (SPost o a b cc d n (calcR c other depth (60-n)) G nx):=by
 induction hf with
 |mk op n' kids hlen hkf ih=>
 intro nx G n depth other hG ho hn hd
 have hlen':kids.length<=9223372036854775807:=hlen
 refine CalP.of (fn:=Go.Proofs.Tryz.f163) (by kernel_rfl) rfl rfl ?_
 refine AA ?_
 refine R.callBP rfl rfl rfl rfl rfl ((cal103 (o:=o) (n:=n) at_upd (by omega) (by omega)).mono fun r hr=>?_)
 cases r with
 |pan u G' nx'=>
  obtain ⟨rfl,h1,h2,h3⟩:=hr
  have e:calcR (.mk op n' kids) other depth (60-n) = -1:=by
   rw [calcR,if_pos]
   unfold oneR at h1
   split at h1
   ·assumption
   ·omega
  rw [e]
  exact panTo ⟨rfl,by decide,by omega,fun q h4 h5=>(h3 q (by omega) h5).trans at_upd⟩
 |ret v G' nx'=>
  obtain ⟨rfl,h1,h2,h3,h4⟩:=hr
  dsimp only
  have hor:oneR depth (60-n)=1:=by unfold oneR at h1 ⊢;split<;>simp_all
  have hdl:¬ (depth > 10\/(60-n) < 1):=by unfold oneR at h1;split at h1<;>omega
  rw [hor] at h2
  have hmk:=calcR_mk (op:=op) (n:=n') (kids:=kids) (other:=other) hdl
  have hB:G' (nx+0) = .box [.imm (.int .i64 op), .imm (.int .i64 n'), .imm (.lst (Trm.ivs kids))] false:=(h4 _ (by omega) (by omega)).trans at_upd
  have hfr:∀ q,q < nx->q≠o->G' q=G q:=fun q h5 h6=>(h4 q (by omega) h6).trans at_upd
  have hnx:nx+1<=nx':=by omega
  clear h3 h4 h1 hor
  have bad:calcR (.mk op n' kids) other depth (60-n) = -1->∀ {G2:Nat->Obj} {nx2:Nat} {l:Env},nx+1<=nx2->(∀ q,q < nx->q≠o->G2 q=G q) ->
    ∀ t,Agree t l->finP CC Go.Proofs.Tryz.f163.results.toList (SPost o a b cc d n (calcR (.mk op n' kids) other depth (60-n)) G nx) (.pan unf ⟨t,G2,nx2,[], .no⟩):=by
   intro e G2 nx2 l h1 h2
   rw [e]
   exact panTo ⟨rfl,by decide,by omega,h2⟩
  refine AB ?_
  refine W.cut (X:=Nat) (fun k=>[(0, .ptr o 0),(2, .imm (.bool other)),(3, .imm (.int .i64 depth)),(5, .ptr (nx+0) 0),(8, .imm (.int .i64 k))])
   (fun k nx2 G2=>G2=G'/\nx'<=nx2/\kidsOf op n' other=some k) ?_ ?_
  ·refine AB ?_
   have hnone:kidsOf op n' other=none->calcR (.mk op n' kids) other depth (60-n) = -1:=fun h=>by rw [hmk,h]
   have hops:op=1\/op=5\/(op=2\/op=3\/op=4)\/(op=6\/op=7\/op=8\/op=9\/op=10)\/(op≠1/\op≠2/\op≠3/\op≠4/\op≠5/\op≠6/\op≠7/\op≠8/\op≠9/\op≠10):=by omega
   rcases hops with rfl|rfl|hop|hop|⟨n1,n2,n3,n4,n5,n6,n7,n8,n9,n10⟩
   ·rcases Bool.eq_false_or_eq_true (decide (n' >= -1000000000)) with h1|h1
    ·rcases Bool.eq_false_or_eq_true (decide (n'<=1000000000)) with h2|h2
     ·have hr:=retM h2
      refine AA ?_
      exact W.skipCut 0 .auto ⟨rfl,by omega,by unfold kidsOf inR;rw [h1,h2];rfl⟩
     ·refine AA ?_
      exact R.callPan rfl rfl (panM h2) (bad (hnone (by unfold kidsOf inR;rw [h1,h2];rfl)) (by omega) hfr)
    ·refine AA ?_
     exact R.callPan rfl rfl pan86 (bad (hnone (by unfold kidsOf inR;rw [h1];rfl)) (by omega) hfr)
   ·rcases Bool.eq_false_or_eq_true other with h1|h1
    ·have hr:=retM h1
     refine AA ?_
     exact W.skipCut 0 .auto ⟨rfl,by omega,by unfold kidsOf;rw [h1];rfl⟩
    ·refine AA ?_
     exact R.callPan rfl rfl (panM h1) (bad (hnone (by unfold kidsOf;rw [h1];rfl)) (by omega) hfr)
   ·rcases hop with rfl|rfl|rfl <;>
    ·refine AA ?_
     exact W.skipCut 0 .auto ⟨rfl,by omega,rfl⟩
   ·rcases hop with rfl|rfl|rfl|rfl|rfl <;>
    ·refine AA ?_
     exact W.skipCut 2 .auto ⟨rfl,by omega,rfl⟩
   ·have e1:(op==1)=false:=by simpa using n1
    have e2:(op==2)=false:=by simpa using n2
    have e3:(op==3)=false:=by simpa using n3
    have e4:(op==4)=false:=by simpa using n4
    have e5:(op==5)=false:=by simpa using n5
    have e6:(op==6)=false:=by simpa using n6
    have e7:(op==7)=false:=by simpa using n7
    have e8:(op==8)=false:=by simpa using n8
    have e9:(op==9)=false:=by simpa using n9
    have e10:(op==10)=false:=by simpa using n10
    refine AA ?_
    exact R.callPan rfl rfl pan86 (bad (hnone (by unfold kidsOf;simp [n1,n2,n3,n4,n5,n6,n7,n8,n9,n10])) (by omega) hfr)
  rintro k nx2 G2 ⟨rfl,hx2,hk⟩
  rw [hk] at hmk
  dsimp only at hmk
  have hlv:(Trm.ivs kids).length=kids.length:=tivs_len kids
  have bad2:(kids.length≠k\/(op≠1/\n'≠0))->calcR (.mk op n' kids) other depth (60-n) = -1:=fun h=>by rw [hmk,if_pos h]
  refine W.cut (X:=Unit) (fun _=>[(0, .ptr o 0),(2, .imm (.bool other)),(3, .imm (.int .i64 depth)),(5, .ptr (nx+0) 0)])
   (fun _ nx3 G3=>G3=G2/\nx2<=nx3/\kids.length=k/\(op=1\/n'=0)) ?_ ?_
  ·rcases Bool.eq_false_or_eq_true (((Trm.ivs kids).length:Int)==(k:Int)) with hA|hA
   ·have hA':kids.length=k:=by rw [hlv] at hA;simp at hA;omega
    rcases Bool.eq_false_or_eq_true (op==1) with hB|hB
    ·have hr:=retM (b:=true) rfl
     refine AA ?_
     exact W.skipCut () .auto ⟨rfl,by omega,hA', .inl (by simpa using hB)⟩
    ·rcases Bool.eq_false_or_eq_true (n'==0) with hN|hN
     ·have hr:=retM hN
      refine AA ?_
      exact W.skipCut () .auto ⟨rfl,by omega,hA', .inr (by simpa using hN)⟩
     ·refine AA ?_
      exact R.callPan rfl rfl (panM hN) (bad (bad2 (.inr ⟨by simpa using hB,by simpa using hN⟩)) (by omega) hfr)
   ·refine AA ?_
    exact R.callPan rfl rfl pan86 (bad (bad2 (.inl (by rw [hlv] at hA;simp at hA;omega))) (by omega) hfr)
  rintro _ nx3 G3 ⟨rfl,hx3,hA,hB⟩
  rw [if_neg (by omega)] at hmk
  refine AA ?_
  refine W.loop (X:=Nat×Int) (fun x=>[(0, .ptr o 0),(2, .imm (.bool other)),(3, .imm (.int .i64 depth)),(59, .imm (.lst (Trm.ivs kids))),(60, .imm (.int .i64 (Trm.ivs kids).length)),(61, .imm (.int .i64 x.1))])
   (fun x nx2 G2=>G2 o = .box [a,b,cc,d, .imm (.int .i64 (n+x.2))] false/\(∀ q,q < nx->q≠o->G2 q=G q)/\nx+1<=nx2/\x.1<=kids.length/\(1<=x.2/\x.2<=60-n)/\calcR (.mk op n' kids) other depth (60-n)=calcRs (kids.drop x.1) other depth (60-n) x.2)
   (fun x=>kids.length-x.1) (0,1) .auto ⟨h2,hfr,by omega,Nat.zero_le _,by dsimp only;omega,hmk⟩ ?_
  clear h2 hfr hmk bad2 hx2 hx3
  rintro ⟨i,m⟩ nx2 G2 ⟨hGo,hfr,hx,hi,hm,he⟩
  dsimp only at hGo hi hm he ⊢
  rcases Bool.eq_false_or_eq_true (decide ((i:Int) < ((Trm.ivs kids).length:Int))) with hc|hc
  ·have hlt:i < kids.length:=by have:=of_decide_eq_true hc;omega
   obtain ⟨kid,hxk⟩:=at_lt hlt
   have hxi:=tivs_at hxk
   have hcl:=kid.cells_len
   have ihk:=@ih kid (List.mem_of_getElem? hxk)
   have hle:=calcR_le kid other (depth+1) (60-n-m)
   rw [calcRs_drop hxk] at he
   have hmu:kids.length-(i+1) < kids.length-i:=by omega
   obtain ⟨o',m',k'⟩:=kid
   refine AA ?_
   refine R.callBP rfl rfl rfl rfl rfl ((ihk (n:=n+m) (other:=other) at_upd (by omega) (by omega) (by omega)).mono fun r hr=>?_)
   rw [show (60:Int)-(n+m)=60-n-m by omega] at hr
   cases r with
   |pan u G' nx'=>
    obtain ⟨rfl,g1,g2,g3⟩:=hr
    rw [if_pos g1] at he
    exact bad he (by omega) fun q h4 h5=>(g3 q (by omega) h5).trans (Eq.trans at_upd (hfr q h4 h5))
   |ret v G' nx'=>
    obtain ⟨rfl,g1,g2,g3,g4⟩:=hr
    rw [if_neg (by omega)] at he
    refine AA ?_
    refine W.skipLop (i+1,m+calcR (.mk o' m' k') other (depth+1) (60-n-m)) hmu .auto ⟨?_,fun q h4 h5=>(g4 q (by omega) h5).trans (Eq.trans at_upd (hfr q h4 h5)),by omega,hlt,?_,he⟩
    ·rw [g2,Int.add_assoc]
    ·dsimp only
     have:=hle g1
     omega
  ·have hge:kids.length<=i:=by have:=of_decide_eq_false hc;omega
   rw [List.drop_eq_nil_of_le hge,calcRs] at he
   rw [he]
   refine AA ?_
   exact W.skipFinP rfl ⟨rfl,by omega,hGo,by omega,hfr⟩
end Go.Abs

/- Programs that are looked at: maps of numbers and of shapes. -/
open Go Go.Abs
namespace Go.Abs
set_option maxRecDepth 100000
set_option maxHeartbeats 4000000
instance fnis87:FnIs CC 104:=⟨rfl,fun _=>rfl⟩
instance fnis88:FnIs CC 105:=⟨rfl,fun _=>rfl⟩
instance fnis75:FnIs CC 51:=⟨rfl,fun _=>rfl⟩
instance fnis76:FnIs CC 52:=⟨rfl,fun _=>rfl⟩
def shpT (s:Shp):IV := .agg [.int .i64 s.kids, .int .i64 s.calcs, .bool s.name, .bool s.fold, .int .i64 s.low, .int .i64 s.high]
def sOr (op:Int):Shp:=(shapeR op).getD ⟨0,0,false,false,0,0⟩
def shapeKeys:List IV:=(List.range 15).map fun (i:Nat) => .int .i64 (i+1)
def shapeVals:List IV:=(List.range 15).map fun (i:Nat)=>shpT (sOr (i+1))
def shapesIV:IV := .fmp shapeKeys shapeVals
theorem ret87:Ret CC 104 [] shapesIV:=Ret.reckon (n:=60) (by kernel_rfl)
theorem keyFind_none {k:IV}:∀ {l:List IV},(∀ x∈l,scalarEq k x=some false)->keyFind k l=some none
 |[],_=>rfl
 |x::r,h=>by
  unfold keyFind
  rw [h x (by simp),keyFind_none fun y hy=>h y (by simp [hy])]
  rfl
theorem shLook (op:Int):lookIs (some ty55) (some ty137) (some (shapeKeys,shapeVals.map .imm)) (.int .i64 op) true (.imm (.tup [shpT (sOr op), .bool (shapeR op).isSome])):=by
 refine ⟨rfl,?_⟩
 rcases ops15 op with rfl|rfl|rfl|rfl|rfl|rfl|rfl|rfl|rfl|rfl|rfl|rfl|rfl|rfl|rfl|⟨n1,n2,n3,n4,n5,n6,n7,n8,n9,n10,n11,n12,n13,n14,n15⟩
 iterate 15 exact .inl ⟨_,_,by rfl,by rfl,by rfl⟩
 have hs:shapeR op=none:=by unfold shapeR;simp [n1,n2,n3,n4,n5,n6,n7,n8,n9,n10,n11,n12,n13,n14,n15]
 refine .inr ⟨?_,?_⟩
 ·refine keyFind_none fun x hx=>?_
  simp only [shapeKeys,List.mem_map,List.mem_range] at hx
  obtain ⟨i,hi,rfl⟩:=hx
  have:¬ op=(i:Int)+1:=by omega
  simp [scalarEq,this]
 ·unfold sOr;rw [hs];rfl
def numIV (l:List Str):IV := .fmp (l.map sv) ((List.range l.length).map natIV)
def idxN (l:List Str) (s:Str):Nat:=(l.findIdx? fun x=>s==x).getD 0
theorem findIdx_contains (s:Str):∀ l:List Str,(l.findIdx? fun x=>s==x).isSome=l.contains s
 |[]=>rfl
 |x::r=>by
  rw [List.findIdx?_cons,List.contains_cons]
  cases h:s==x with
  |true=>simp
  |false=>
   simp only [Bool.false_or]
   rw [<-findIdx_contains s r]
   cases (r.findIdx? fun x=>s==x)<;>rfl
theorem findIdx_lt {s:Str} {j:Nat}:∀ {l:List Str},(l.findIdx? fun x=>s==x)=some j->j < l.length
 |[],h=>by cases h
 |x::r,h=>by
  rw [List.findIdx?_cons] at h
  split at h
  ·cases h;simp
  ·cases hr:r.findIdx? fun x=>s==x with
   |none=>rw [hr] at h;cases h
   |some k=>
    rw [hr] at h
    cases h
    have:=findIdx_lt hr
    simp;omega
theorem numLook (l:List Str) (s:Str):lookIs (some ty9) (some ty3) (some (l.map sv,((List.range l.length).map natIV).map .imm)) (sv s) true (.imm (.tup [natIV (idxN l s), .bool (l.contains s)])):=by
 refine ⟨rfl,?_⟩
 rw [keyFind_sv,<-findIdx_contains]
 unfold idxN
 cases h:l.findIdx? fun x=>s==x with
 |none=>exact .inr ⟨rfl,rfl⟩
 |some j=>
  have:=findIdx_lt h
  refine .inl ⟨j, .imm (natIV j),rfl,?_,rfl⟩
  simp [this]
theorem numLook0 (l:List Str) (s:Str):lookIs (some ty9) (some ty3) (some (l.map sv,((List.range l.length).map natIV).map .imm)) (sv s) false (.imm (natIV (idxN l s))):=by
 refine ⟨rfl,?_⟩
 rw [keyFind_sv]
 unfold idxN
 cases h:l.findIdx? fun x=>s==x with
 |none=>exact .inr ⟨rfl,rfl⟩
 |some j=>
  have:=findIdx_lt h
  refine .inl ⟨j, .imm (natIV j),rfl,?_,rfl⟩
  simp [this]
theorem idxN_take {l:List Str} {s:Str} (k:Nat):(l.take k).contains s=(l.contains s&&decide (((idxN l s:Nat):Int) < (k:Int))):=by
 induction l generalizing k with
 |nil=>simp
 |cons x r ih=>
  cases k with
  |zero=>simp
  |succ k=>
   rw [List.take_succ_cons,List.contains_cons,List.contains_cons]
   unfold idxN
   rw [List.findIdx?_cons]
   cases h:s==x with
   |true=>simp
   |false=>
    simp only [Bool.false_or,Bool.false_eq_true,if_false]
    rw [ih k,<-findIdx_contains]
    unfold idxN
    cases r.findIdx? fun x=>s==x with
    |none=>simp
    |some j=>
     simp only [Option.isSome_some,Bool.true_and,Option.getD_some,Option.map_some]
     apply decide_eq_decide.2
     omega
def Others (ov:IV) (others:List Str):Prop:=∀ (G:Nat->Obj) (s:Str),∃ u:IV,lookIs (some ty9) (some ty3) (mapKV G (.imm ov)) (sv s) true (.imm (.tup [u, .bool (others.contains s)]))
theorem others_nil:Others .nilmap []:=fun _ _=>⟨.int .i64 0,rfl, .inr ⟨rfl,rfl⟩⟩
theorem others_num (l:List Str):Others (numIV l) l:=fun _ s=>⟨_,numLook l s⟩
def okAt (others l:List Str) (i:Nat):Bool:=nameOk (l.getD i []) && !(l.take i).contains (l.getD i []) && !others.contains (l.getD i [])
def fresh (others l:List Str):Bool:=(List.range l.length).all (okAt others l)
theorem fresh_bad {others l:List Str} {i:Nat} (hi:i < l.length) (h:okAt others l i=false):fresh others l=false:=
 List.all_eq_false.2 ⟨i,by simpa using hi,by rw [h];decide⟩
theorem numAt {l:List Str} {i:Nat} {s:Str} (h:l[i]? = some s):(l.take (i+1)).map sv=(l.take i).map sv++[sv s]/\((List.range (i+1)).map natIV).map AV.imm=((List.range i).map natIV).map AV.imm++[.imm (natIV i)]:=by
 refine ⟨?_,?_⟩
 ·rw [List.take_add_one,h];simp
 ·rw [List.range_succ];simp
theorem cal88 (l others:List Str) (ov:IV) (ho:Others ov others) (hl:l.length<=9223372036854775807) (hls:∀ s∈l,s.length<=9223372036854775807) :
  CalP CC 105 ([.lst (l.map sv),ov].map .imm) (fun _ => .gone) 0 fun
   | .ret v G' _=>fresh others l=true/\∃ ids,peek G' pkDepth v=some (numIV l,ids)
   | .pan u _ _=>u=unf/\fresh others l=false:=by
 have hlm:(l.map sv).length=l.length:=List.length_map ..
 refine CalP.of (fn:=Go.Proofs.Tryz.f105) (by kernel_rfl) rfl rfl ?_
 refine AA ?_
 refine W.loop (X:=Nat) (fun i=>[(1, .imm ov),(5, .map 1),(13, .imm (.lst (l.map sv))),(14, .imm (.int .i64 (l.map sv).length)),(15, .imm (.int .i64 i))])
  (fun i _ G=>G 1 = .mp ((l.take i).map sv) (((List.range i).map natIV).map .imm) false/\i<=l.length/\(List.range i).all (okAt others l)=true)
  (fun i=>l.length-i) 0 .auto ⟨rfl,Nat.zero_le _,rfl⟩ ?_
 rintro i nx G ⟨hG,hi,hall⟩
 rcases Bool.eq_false_or_eq_true (decide ((i:Int) < ((l.map sv).length:Int))) with hc|hc
 ·have hlt:i < l.length:=by have:=of_decide_eq_true hc;omega
  obtain ⟨s,hx⟩:=at_lt hlt
  have hxi:=at_map sv hx
  have hmu:l.length-(i+1) < l.length-i:=by omega
  have hr10:=ret10 s (hls s (List.mem_of_getElem? hx))
  have hgd:l.getD i []=s:=by rw [List.getD_eq_getElem?_getD,hx];rfl
  have hok:okAt others l i=(nameOk s && !(l.take i).contains s && !others.contains s):=by unfold okAt;rw [hgd]
  obtain ⟨u,h2⟩:=ho G s
  have h1:=numLook (l.take i) s
  rw [List.length_take,Nat.min_eq_left hi] at h1
  have h1:lookIs (some ty9) (some ty3) (mapKV G (.map 1)) (sv s) true (.imm (.tup [natIV (idxN (l.take i) s), .bool ((l.take i).contains s)])):=by
   simp only [mapKV,hG];exact h1
  have hkey:(l.take i).contains s=false->keyFind (sv s) ((l.take i).map sv)=some none:=fun h=>by
   rw [<-findIdx_contains] at h
   rw [keyFind_sv]
   cases h':(l.take i).findIdx? fun x=>s==x with
   |none=>rfl
   |some j=>rw [h'] at h;cases h
  have hno:okAt others l i=false->fresh others l=false:=fresh_bad hlt
  rcases Bool.eq_false_or_eq_true (nameOk s) with hA|hA
  ·rcases Bool.eq_false_or_eq_true ((l.take i).contains s) with hB|hB
   ·have hB':(!(l.take i).contains s)=false:=by rw [hB];rfl
    refine AA ?_
    exact R.callPan rfl rfl pan86 (panTo ⟨rfl,hno (by rw [hok,hB];simp)⟩)
   ·have hB':(!(l.take i).contains s)=true:=by rw [hB];rfl
    rcases Bool.eq_false_or_eq_true (!others.contains s) with hC|hC
    ·have hr:=retM hC
     refine AA ?_
     refine R.opN1 (O.mapNew rfl inferInstance rfl rfl rfl hG rfl (hkey hB)) ?_
     refine AA ?_
     refine W.skipLop (i+1) hmu .auto ⟨?_,hlt,?_⟩
     ·obtain ⟨e1,e2⟩:=numAt hx
      rw [upd_same,e1,e2];rfl
     ·rw [List.range_succ,List.all_append,hall]
      rw [List.all_cons,hok,hA,hB',hC];rfl
    ·refine AA ?_
     exact R.callPan rfl rfl (panM hC) (panTo ⟨rfl,hno (by rw [hok,hC];simp)⟩)
  ·refine AA ?_
   exact R.callPan rfl rfl pan86 (panTo ⟨rfl,hno (by rw [hok,hA];simp)⟩)
 ·have hge:l.length<=i:=by have:=of_decide_eq_false hc;omega
  have he:i=l.length:=by omega
  subst he
  refine AA ?_
  rw [List.take_length] at hG
  exact W.retFinP rfl ⟨hall,peek_mp hG⟩
theorem CalP.split {C:Cfg} {f:FuncId} {ivs:List IV} {x u:IV} {ok:Bool} (hu:u.scalar=true) (h:CalP C f (ivs.map .imm) (fun _ => .gone) 0 fun
   | .ret v G' _=>ok=true/\∃ ids,peek G' pkDepth v=some (x,ids)
   | .pan w _ _=>w=u/\ok=false):(ok=true->Ret C f ivs x)/\(ok=false->RetPan C f ivs u):=by
 obtain ⟨n,r,h1,h2⟩:=h
 cases r with
 |ret v G' nx'=>
  obtain ⟨h3,ids,h4⟩:=h2
  exact ⟨fun _=>⟨n,v,G',nx',_,ids,h1,h4⟩,fun h=>by rw [h3] at h;cases h⟩
 |pan w G' nx'=>
  obtain ⟨rfl,h3⟩:=h2
  exact ⟨(fun h=>by rw [h3] at h;cases h),fun _=>⟨n,G',nx',_,h1,hu⟩⟩
theorem ret88 {l others:List Str} {ov:IV} (ho:Others ov others) (hl:l.length<=9223372036854775807) (hls:∀ s∈l,s.length<=9223372036854775807) :
  (fresh others l=true->Ret CC 105 [.lst (l.map sv),ov] (numIV l))/\(fresh others l=false->RetPan CC 105 [.lst (l.map sv),ov] unf):=
 CalP.split rfl (cal88 l others ov ho hl hls)
theorem ret76 (d:Dfn):Ret CC 52 [d.iv] (sv d.name):=by
 obtain ⟨nm,⟨o',s',n',f',c',k'⟩⟩:=d
 refine Ret.of (fn:=Go.Proofs.Tryz.f52) (by kernel_rfl) rfl rfl ?_
 refine AA ?_
 exact W.retFin1 rfl ⟨[],rfl⟩
theorem ret75 (l:List Dfn) (hl:l.length<=4294967296):Ret CC 51 [.lst (l.map Dfn.iv), .fn (.func 52) []] (.lst ((l.map Dfn.name).map sv)):=by
 have hlm:(l.map Dfn.iv).length=l.length:=List.length_map ..
 refine Ret.of (fn:=Go.Proofs.Tryz.f51) (by kernel_rfl) rfl rfl ?_
 refine AA ?_
 refine W.loop (X:=Nat×AV) (fun x=>[(1, .imm (.fn (.func 52) [])),(8, .imm (.lst (l.map Dfn.iv))),(9, .imm (.int .i64 (l.map Dfn.iv).length)),(10, .imm (.int .i64 x.1)),(5,x.2)])
  (fun x nx G=>x.1<=l.length/\Own 9 1 0 nx (((l.map Dfn.name).take x.1).map sv) G x.2)
  (fun x=>l.length-x.1) (0, .nils) .auto ⟨Nat.zero_le _, .nil ..⟩ ?_
 rintro ⟨i,v⟩ nx G ⟨hi,ho⟩
 dsimp only at hi ho ⊢
 rcases Bool.eq_false_or_eq_true (decide ((i:Int) < ((l.map Dfn.iv).length:Int))) with hc|hc
 ·have hlt:i < l.length:=by have:=of_decide_eq_true hc;omega
  obtain ⟨d,hx⟩:=at_lt hlt
  have hxi:=at_map Dfn.iv hx
  have hdc:=d.cells_len
  have hmu:l.length-(i+1) < l.length-i:=by omega
  have hr:=ret76 d
  have htk:((l.map Dfn.name).take (i+1)).map sv=((l.map Dfn.name).take i).map sv++[sv d.name]:=by
   rw [List.take_add_one,List.getElem?_map,hx];simp
  obtain ⟨nm,⟨o',s',n',f',c',k'⟩⟩:=d
  refine AA ?_
  refine R.app1 ho at_upd (by simp only [List.length_map,List.length_take,most];omega) fun v' G' ho' hG'=>?_
  rw [<-htk] at ho'
  refine AA ?_
  exact W.skipLop (i+1,v') hmu .auto ⟨hlt,ho'.fr⟩
 ·have hge:l.length<=i:=by have:=of_decide_eq_false hc;omega
  rw [List.take_of_length_le (by simpa using hge)] at ho
  refine AA ?_
  exact W.retFin1 rfl ho.peek
end Go.Abs
