/- The abstract interpreter: an operation where the machine stands. -/
import Derived.Test.YtbdoijpclmhbaaaGreatSo3
namespace Go.Abs
variable {M M' M'':Mem} {ρ ρ' ρ'':Ref} {G G' G'':Nat->Obj} {w w' w'':World} {nx nx':Nat} {Q Q' Q'' Q0:Nat->Prop} {P:Program} {C:Cfg} {L:Low}
theorem VL_append {p:AV->Value->Prop} {l l':List AV} {vs vs':Array Value} (h:VL p l vs) (k:VL p l' vs'):VL p (l++l') (vs++vs'):=by
 refine ⟨by simp [h.1,k.1],fun i x hx=>?_⟩
 rw [List.getElem?_append] at hx
 split at hx
 ·rename_i hi
  have:=h.2 i x hx
  have hlt:i < vs.size:=by rw [<-h.1];exact hi
  simpa [at_,Array.getD_eq_getD_getElem?,Array.getElem?_append,hlt] using this
 ·rename_i hi
  have:=k.2 _ x hx
  have hlt:¬ i < vs.size:=by rw [<-h.1];exact hi
  simpa [at_,Array.getD_eq_getD_getElem?,Array.getElem?_append,hlt,h.1] using this
theorem fnOf_ok {g:AV} {f:Fn} {cap:List AV} {c:Value} (h:fnOf g=some (f,cap)) (hg:VA M ρ G g c):∃ vs,c = .func f #[] vs/\VL (VA M ρ G) cap vs:=by
 unfold fnOf at h
 split at h
 ·cases h
  have:=hg.imm_inv
  cases this with|fn _ _ vs hl hx=>exact ⟨vs,rfl,VL_imms ⟨hl,hx⟩⟩
 ·cases h
  cases hg with|fn _ _ vs hl hx=>exact ⟨vs,rfl,hl,hx⟩
 ·cases h
theorem opA_val {id:Nat} {s:St} {o:Op} {ef:Ef} (hs:simple o=true) (h:opA C L id s o=some ef):∃ v ups,ef = .val v ups:=by
 unfold opA at h
 cases o<;>simp only [simple,Bool.false_eq_true,reduceCtorEq] at hs h
 case call c=>
  obtain ⟨callee,args,ats⟩:=c
  cases callee with
  |builtin b=>
   simp only at h
   have hb:b ≠ .recover:=fun e=>by subst e;simp at hs
   unfold aBuiltin aAppend at h
   split at h
   all_goals first|exact absurd rfl hb|((repeat' split at h)<;>first|(cases h<;>exact ⟨_,_,rfl⟩)|cases h)
  |_=>simp only [Bool.false_eq_true] at hs
 case makeMap t r=>cases r<;>simp only [reduceCtorEq] at h;cases h;exact ⟨_,_,rfl⟩
 case slice t x lo hi mx=>cases mx<;>simp only [reduceCtorEq] at h;unfold aSlice give at h;(repeat' split at h)<;>first|(cases h<;>exact ⟨_,_,rfl⟩)|cases h
 all_goals
  (try unfold aAlloc at h);(try unfold aBox at h);(try unfold aBuild at h);(try unfold aBuildSlice at h);(try unfold aMakeSlice at h);(try unfold aLoad at h);(try unfold aStore at h);(try unfold aNilCheck at h)
  (try unfold aConvert at h);(try unfold aMakeInterface at h);(try unfold aFieldAddr at h);(try unfold aIndexAddr at h);(try unfold aIndex at h);(try unfold lookA at h);(try unfold aMapUpdate at h);(try unfold aExtract at h)
  (try unfold aSlice at h);(try unfold aTypeAssert at h);(try unfold give at h);(try unfold aRange at h);(try unfold aNext at h);(try unfold aEntry at h)
  (repeat' split at h)<;>first|(cases h<;>exact ⟨_,_,rfl⟩)|cases h
def OpN (P:Program) (nt:Nat) (b:Frame) (cs:List Frame) (k:List Item) (ops:Array Oper) (i:Nat) (rest:List Nat) (o:Oper) (id:Nat) (Q0 Q:Nat->Prop) (w:World) (M:Mem) (ρ:Ref) (s:St) (a:Act) (v:AV) (s1:St):Prop:=
 ∃ c a1 Q' w' M' ρ',Tr (fun o=>o=id\/s.nx<=o) Q w M ρ s.G Q' w' M' ρ' s1.G/\s.nx<=s1.nx/\s1.tmps=s.tmps/\SR nt Q0 Q' w' M' ρ' s1 a1/\VA M' ρ' s1.G v c/\PkOK M b cs s1.pk /\
  Steps P (lone (b.atR a (.inRegion ops (i::rest)::k)) (csM s.pk cs) w) (lone (b.atR (a1.put o.dst c) (.inRegion ops rest::k)) (csM s1.pk cs) w')
def OpP (P:Program) (nt:Nat) (b:Frame) (cs:List Frame) (k:List Item) (ops:Array Oper) (i:Nat) (rest:List Nat) (id:Nat) (Q0 Q:Nat->Prop) (w:World) (M:Mem) (ρ:Ref) (s:St) (a:Act) (v:IV) (s1:St):Prop:=
 ∃ x a1 todo Q' w' M' ρ',Tr (fun o=>o=id\/s.nx<=o) Q w M ρ s.G Q' w' M' ρ' s1.G/\s.nx<=s1.nx/\SR nt Q0 Q' w' M' ρ' s1 a1/\VI M' v x/\PkOK M b cs s1.pk /\
  Steps P (lone (b.atR a (.inRegion ops (i::rest)::k)) (csM s.pk cs) w) (lone { b.atR a1 todo with mode := .panicking [{ v:=x,recovered:=false }] } (csM s1.pk cs) w')
def OpRes (P:Program) (nt:Nat) (b:Frame) (cs:List Frame) (k:List Item) (ops:Array Oper) (i:Nat) (rest:List Nat) (o:Oper) (id:Nat) (Q0 Q:Nat->Prop) (w:World) (M:Mem) (ρ:Ref) (s:St) (a:Act):Ef->Prop
 | .val v ups=>OpN P nt b cs k ops i rest o id Q0 Q w M ρ s a v { s with G:=updL s.G ups }
 | .wr v s1=>OpN P nt b cs k ops i rest o id Q0 Q w M ρ s a v s1
 | .pan v s1=>OpP P nt b cs k ops i rest id Q0 Q w M ρ s a v s1
theorem SR.turn {nt:Nat} {s:St} {a:Act} {N:Nat->Prop} {G1:Nat->Obj} {n1:Nat} (h:SR nt Q0 Q w M ρ s a) (t:Tr N Q w M ρ s.G Q' w' M' ρ' G1) (hi:Inv Q' w' M' ρ' G1 n1):SR nt Q0 Q' w' M' ρ' { s with G:=G1,nx:=n1 } a:=
 ⟨hi,h.tmps.mono t.ev,h.size,fun b hb=>h.sub b (t.sub b hb),h.dfr.mono t⟩
section
variable {nt:Nat} {b:Frame} {cs:List Frame} {k:List Item} {ops:Array Oper} {i:Nat} {rest:List Nat} {o:Oper} {id:Nat} {s:St} {a:Act}
theorem opRes_of_call {ef:Ef} {m:List Frame->Machine} (ho:ops[i]? = some o) (hS:SR nt Q0 Q w M ρ s a) (hpk:PkOK M b cs s.pk)
  (hstep:step P (lone (b.atR a (.inRegion ops (i::rest)::k)) (csM s.pk cs) w) = .next (m (b.atR a (.inRegion ops (i::rest)::k)::csM s.pk cs)))
  (h:CallRes P id s m Q w M ρ (b.atR a (.inRegion ops (i::rest)::k)) (csM s.pk cs) ef):OpRes P nt b cs k ops i rest o id Q0 Q w M ρ s a ef:=by
 cases ef with
 |val v ups=>
  obtain ⟨Q',w',M',ρ',cv,t,hi,hst,hv⟩:=h
  rw [finR ho] at hst
  exact ⟨cv,a,Q',w',M',ρ',t,Nat.le_refl _,rfl,hS.turn t hi,hv,hpk, .head hstep hst⟩
 |wr v s1=>
  obtain ⟨e,hn,Q',w',M',ρ',cv,t,hi,hst,hv⟩:=h
  rw [finR ho] at hst
  have hS1:=hS.turn t hi
  rw [<-e] at hS1
  have epk:s1.pk=s.pk:=by rw [e]
  refine ⟨cv,a,Q',w',M',ρ',t,hn,by rw [e],hS1,hv,by rw [epk];exact hpk,by rw [epk];exact .head hstep hst⟩
 |pan v s1=>
  obtain ⟨e,hn,Q',w',M',ρ',x,t,hi,hst,hv⟩:=h
  rw [Frame.raise_atR] at hst
  have hS1:=hS.turn t hi
  rw [<-e] at hS1
  have epk:s1.pk=s.pk:=by rw [e]
  exact ⟨x,a,_,Q',w',M',ρ',t,hn,hS1,hv,by rw [epk];exact hpk,by rw [epk];exact .head hstep hst⟩
theorem aCall_ok (hC:CfgOK C) (hL:CallOK C.P L) (hR:RoundOK C.P L) {g:AV} {args:List AV} {ef:Ef} (h:aCall C L id s g args=some ef) {gc:Value} {vs:Array Value} {c:Frame} (hI:Inv Q w M ρ s.G s.nx) (hid:ρ id=none) (hlt:id < s.nx)
  (hg:VA M ρ s.G g gc) (hv:VL (VA M ρ s.G) args vs):∃ fn cap,gc = .func fn #[] cap/\∃ m:List Frame->Machine,CallRes C.P id s m Q w M ρ c cs ef /\
   ((∃ f args',(invoke (.fn fn cap) vs).run C.P w = .ok (.enter f args') w/\m=fun cs=>lone (Frame.enter C.P f args' .normal) cs w) \/
    (∃ l f tmps x y,(invoke (.fn fn cap) vs).run C.P w = .ok (.round l f tmps x y) w/\m=fun cs=>lone (Frame.round l f tmps x y .normal) cs w)):=by
 unfold aCall at h
 split at h
 ·rename_i q
  have:∃ l,gc = .func (.yield l) #[] #[]/\ρ q=some (.func (.yield l) #[] #[]):=by
   cases hg with|yld _ l hq=>exact ⟨l,rfl,hq⟩
  obtain ⟨l,rfl,hq⟩:=this
  split at h
  ·rename_i v G2 n2 pk2 hcall
   cases h
   obtain ⟨f,tmps,x,y,h1,h2⟩:=hR _ _ _ _ _ _ hcall Q w M ρ vs l hI hv hq
   obtain ⟨Q',w',M',ρ',t,i',n',cv,st,hcv⟩:=h2 c cs
   exact ⟨_,_,rfl,_,⟨rfl,n',Q',w',M',ρ',cv,t.weak (fun _ => .inr),i',st,hcv⟩, .inr ⟨l,f,tmps,x,y,h1,rfl⟩⟩
  ·rename_i v G2 n2 pk2 hcall
   cases h
   obtain ⟨f,tmps,x,y,h1,h2⟩:=hR _ _ _ _ _ _ hcall Q w M ρ vs l hI hv hq
   obtain ⟨Q',w',M',ρ',t,i',n',x',st,hx⟩:=h2 c cs
   exact ⟨_,_,rfl,_,⟨rfl,n',Q',w',M',ρ',x',t.weak (fun _ => .inr),i',st,hx⟩, .inr ⟨l,f,tmps,x,y,h1,rfl⟩⟩
  ·cases h
 ·split at h
  ·rename_i kf cap hf
   obtain ⟨cv,rfl,hcap⟩:=fnOf_ok hf hg
   obtain ⟨h1,h2⟩:=callA_ok hC hL h (vs:=vs++cv) (c:=c) (cs:=cs) hI hid hlt (VL_append hv hcap)
   exact ⟨_,_,rfl,_,h2, .inl ⟨kf,vs++cv,by simp [invoke,run_callFunc hC h1],rfl⟩⟩
  ·cases h
theorem op_ok (hC:CfgOK C) (hL:CallOK C.P L) (hR:RoundOK C.P L) {ef:Ef} (h:opA C L id s o.op=some ef) (ho:ops[i]? = some o) (hw:Region.wanted o (yielded ops a.tmps)=true) (hS:SR nt Q0 Q w M ρ s a) (hpk:PkOK M b cs s.pk)
  (hid:ρ id=none) (hlt:id < s.nx):OpRes C.P nt b cs k ops i rest o id Q0 Q w M ρ s a ef:=by
 by_cases hs:simple o.op=true
 ·obtain ⟨v,ups,rfl⟩:=opA_val hs h
  obtain ⟨nxt,c,w',M',ρ',hr,hn,he,hi,hv,hws,hmq,hb⟩:=opA_simple (w:=w) hs h hS.inv hid hlt hS.tmps
  have t:Tr (fun o=>o=id\/s.nx<=o) Q w M ρ s.G Q w' M' ρ' (updL s.G ups):=⟨fun _ h=>h,he,hws,hmq,fun o ho hr=>hb o (fun e=>ho (.inl e)) hr⟩
  have hd:∀ c,o.op ≠ .defer c:=fun c e=>by rw [e] at hs;simp [simple] at hs
  exact ⟨c,a,Q,w',M',ρ',t,Nat.le_refl _,rfl,hS.turn t hi,hv,hpk, .one (step_value ho hw hd hr hn)⟩
 ·obtain ⟨dst,op,ty,pos,aft,gd⟩:=o
  simp only at hs h
  have trefl:Tr (fun o=>o=id\/s.nx<=o) Q w M ρ s.G Q w M ρ s.G:=Tr.refl _ _ _ _ _ _
  unfold opA at h
  cases op with
  |panic x=>
   simp only at h
   split at h
   ·rename_i t v hx
    cases h
    have hv:=hS.tmps.ev x
    rw [hx] at hv
    have hv:=hv.imm_inv
    have hcv:∃ cv,evV a.tmps x = .iface t cv:=by
     generalize evV a.tmps x=z at hv
     cases hv;exact ⟨_,rfl⟩
    obtain ⟨cv,hcv⟩:=hcv
    refine ⟨_,a,_,Q,w,M,ρ,trefl,Nat.le_refl _,hS,hv,hpk, .one (step_panic ho hw (by simp) ?_)⟩
    simp [execOp,hcv,Instr.panic,goPanic]
   ·cases h
  |defer c=>
   simp only at h
   split at h
   ·cases h
   ·rename_i f hcal hnr
    split at h
    rotate_left
    ·cases h
    rename_i fc hfn
    cases h
    have hro:b.roundOf=none:=by
     cases e:s.pk with
     |no=>rw [e] at hpk;exact hpk.2
     |rnd=>exact absurd e hnr
     |dfr m r=>rw [e] at hpk;cases m with
      |none=>exact hpk.2.1
      |some v=>exact hpk.2.1
    obtain ⟨fk,cap⟩:=fc
    obtain ⟨cv,hcv,_⟩:=fnOf_ok hfn (hS.tmps.ev f)
    have hex:(execOp (evV a.tmps) ⟨dst, .defer c,ty,pos,aft,gd⟩).run C.P w = .ok (.defer { target := .fn fk cv,args:=c.args.map (evV a.tmps) }) w:=by
     simp [execOp,resolve,hcal,hcv,Deferred.ofValue]
    refine ⟨Go.undef,{ a with defers:={ target := .fn fk cv,args:=c.args.map (evV a.tmps) }::a.defers },Q,w,M,ρ,trefl,Nat.le_refl _,rfl,⟨hS.inv,hS.tmps,hS.size,hS.sub,?_⟩, .undef _,hpk, .one (step_deferOp hro ho hw hex)⟩
    exact .cons fk cv rfl (by rw [<-hcv];exact hS.tmps.ev f) (vl_ok hS.tmps c.args) hS.dfr
   ·cases h
  |call c=>
   obtain ⟨callee,args,ats⟩:=c
   cases callee with
   |builtin bb=>
    have hbb:bb = .recover:=by cases bb<;>simp [simple] at hs<;>rfl
    subst hbb
    have hex:(execOp (evV a.tmps) ⟨dst, .call ⟨.builtin .recover,args,ats⟩,ty,pos,aft,gd⟩).run C.P w = .ok .recover w:=by
     simp [execOp,resolve,invoke,builtin]
    simp only at h
    unfold aBuiltin at h
    simp only at h
    split at h
    ·rename_i v hp
     cases h
     rw [hp] at hpk
     obtain ⟨h1,h2,c,rest',x,rfl,h4,h5⟩:=hpk
     refine ⟨x,a,Q,w,M,ρ,trefl,Nat.le_refl _,rfl,⟨hS.inv,hS.tmps,hS.size,hS.sub,hS.dfr⟩, .imm _ _ h5,⟨h1,h2,c,rest',x,rfl,h4,h5⟩, .one ?_⟩
     have hst:=step_recoverOp (P:=C.P) (w:=w) (cr:=rest') (k:=k) (rest:=rest) h2 h1 h4 ho hw (by simp) hex
     have e1:csM s.pk (c::rest')=c::rest':=by rw [hp];rfl
     have e2:csM (.dfr (some v) true) (c::rest')={ c with mode := .panicking [{ v:=x,recovered:=true }] }::rest':=by simp [csM,h4]
     rw [e1,e2]
     exact hst
    ·rename_i r hp
     cases h
     have hpk0:=hpk
     rw [hp] at hpk
     obtain ⟨h1,h2,c,rest',rfl,h4⟩:=hpk
     refine ⟨.nilIface,a,Q,w,M,ρ,trefl,Nat.le_refl _,rfl,⟨hS.inv,hS.tmps,hS.size,hS.sub,hS.dfr⟩, .imm _ _ .niliface,hpk0, .one ?_⟩
     have e1:csM s.pk (c::rest')=c::rest':=by rw [hp];rfl
     rw [e1]
     exact step_recoverNil h2 h1 h4 ho hw (by simp) hex
    ·cases h
   |value f=>
    simp only at h
    have hvs:=vl_ok hS.tmps args
    obtain ⟨fn,cap,hgc,m,hres,hinv⟩:=aCall_ok hC hL hR (c:=b.atR a (.inRegion ops (i::rest)::k)) (cs:=csM s.pk cs) h hS.inv hid hlt (hS.tmps.ev f) hvs
    have hex:∀ nxt,(invoke (.fn fn cap) (args.map (evV a.tmps))).run C.P w = .ok nxt w->(execOp (evV a.tmps) ⟨dst, .call ⟨.value f,args,ats⟩,ty,pos,aft,gd⟩).run C.P w = .ok nxt w:=by
     intro nxt hn
     simp [execOp,resolve,hgc,Deferred.ofValue,hn]
    refine opRes_of_call ho hS hpk ?_ hres
    rcases hinv with ⟨f',args',h1,rfl⟩|⟨l,f',tmps,x,y,h1,rfl⟩
    ·exact step_enter ho hw (by simp) (hex _ h1)
    ·exact step_round ho hw (by simp) (hex _ h1)
   |_=>simp at h
  |_=>simp [simple] at hs
end
end Go.Abs

/- The abstract interpreter: a region's operations, one behind the other. -/
namespace Go.Abs
variable {M M' M'':Mem} {ρ ρ' ρ'':Ref} {G G' G'':Nat->Obj} {w w' w'':World} {nx nx':Nat} {Q Q' Q'' Q0:Nat->Prop} {P:Program} {C:Cfg} {L:Low}
variable {nt:Nat} {b:Frame} {cs:List Frame} {k:List Item} {ops:Array Oper} {i:Nat} {rest:List Nat} {o:Oper} {id:Nat} {s s':St} {a:Act}
theorem getD_some {arr:Array Value} {d:Nat} {v:Value} (h:arr.getD d Go.undef=v) (hv:v≠Go.undef):arr[d]? = some v:=by
 rw [Array.getD_eq_getD_getElem?] at h
 cases e:arr[d]? with
 |none=>rw [e] at h;exact absurd h.symm hv
 |some u=>rw [e] at h;simpa using h
theorem wantA_ok {t:Bool} (h:wantA ops s.tmps o=some t) (hT:TR M ρ G s.tmps a.tmps):Region.wanted o (yielded ops a.tmps)=t:=by
 unfold wantA at h
 unfold Region.wanted
 cases hg:o.guard with
 |none=>rw [hg] at h;simp at h;simp [h]
 |some p=>
  obtain ⟨j,want⟩:=p
  rw [hg] at h
  simp only at h ⊢
  unfold yielded
  cases hd:(ops[j]?).bind (·.dst) with
  |none=>rw [hd] at h;simp at h;subst h;rfl
  |some d=>
   rw [hd] at h
   simp only [Option.bind_some] at h ⊢
   have hv:=hT d
   split at h
   ·rename_i bb hb
    rw [hb] at hv
    have:=hv.bool_inv
    rw [getD_some this (by simp [Go.undef])]
    simp only [Option.some.injEq] at h
    subst h
    simp only
    cases bb<;>cases want<;>rfl
   ·rename_i hb
    rw [hb] at hv
    have hv:=hv.imm_inv
    simp only [Option.some.injEq] at h
    subst h
    generalize hz:a.tmps.getD d Go.undef=z at hv
    cases hv with
    |tup _ vs hl _=>
     have hne:∀ bb,a.tmps[d]? ≠ some (.bool bb):=fun bb e=>by
      rw [Array.getD_eq_getD_getElem?,e] at hz;simp at hz
     cases e:a.tmps[d]? with
     |none=>rfl
     |some z'=>
      cases z' with
      |bool bb=>exact absurd e (hne bb)
      |_=>rfl
   ·cases h
theorem SR.put {dst:Option Nat} {v:AV} {c:Value} (h:SR nt Q0 Q w M ρ s a) (hp:put nt s dst v=some s') (hv:VA M ρ s.G v c) :
  SR nt Q0 Q w M ρ s' (a.put dst c)/\s'.G=s.G/\s'.nx=s.nx/\s'.pk=s.pk/\s'.defers=s.defers:=by
 unfold Go.Abs.put at hp
 cases dst with
 |none=>cases hp;exact ⟨h,rfl,rfl,rfl,rfl⟩
 |some d=>
  simp only at hp
  split at hp
  ·rename_i hd
   cases hp
   refine ⟨⟨h.inv,fun t=>?_,by simpa [Act.put] using h.size,h.sub,h.dfr⟩,rfl,rfl,rfl,rfl⟩
   have hlt:d < a.tmps.size:=by rw [h.size];exact hd
   simp only [upd,Act.put]
   by_cases ht:t=d
   ·subst ht
    simp [Array.getD_eq_getD_getElem?,hlt]
    exact hv
   ·rw [if_neg ht]
    have:=h.tmps t
    rw [Array.getD_eq_getD_getElem?] at this ⊢
    rw [Array.getElem?_setIfInBounds_ne (Ne.symm ht)]
    exact this
  ·cases hp
structure Goes (nt:Nat) (b:Frame) (cs:List Frame) (Q0:Nat->Prop) (N:Nat->Prop) (Q:Nat->Prop) (w:World) (M:Mem) (ρ:Ref) (G0:Nat->Obj) (nx0:Nat) (s':St) (a':Act) (Q':Nat->Prop) (w':World) (M':Mem) (ρ':Ref):Prop where
 tr:Tr N Q w M ρ G0 Q' w' M' ρ' s'.G
 nx:nx0<=s'.nx
 sr:SR nt Q0 Q' w' M' ρ' s' a'
 pk:PkOK M' b cs s'.pk
theorem Goes.after {N N1 N2:Nat->Prop} {G1:Nat->Obj} {n0 n1:Nat} {a':Act} (t:Tr N1 Q w M ρ G Q' w' M' ρ' G1) (hn:n0<=n1) (h:Goes nt b cs Q0 N2 Q' w' M' ρ' G1 n1 s' a' Q'' w'' M'' ρ'') (h1:∀ o,N1 o->N o) (h2:∀ o,N2 o->N o) :
  Goes nt b cs Q0 N Q w M ρ G n0 s' a' Q'' w'' M'' ρ'':=⟨t.trans h.tr h1 h2,Nat.le_trans hn h.nx,h.sr,h.pk⟩
def LineEnd (P:Program) (nt:Nat) (b:Frame) (cs:List Frame) (k:List Item) (Q0 N Q:Nat->Prop) (w:World) (M:Mem) (ρ:Ref) (G0:Nat->Obj) (nx0:Nat) (m:Machine):Out->Prop
 | .norm s'=>∃ a' Q' w' M' ρ',Goes nt b cs Q0 N Q w M ρ G0 nx0 s' a' Q' w' M' ρ'/\Steps P m (lone (b.atR a' k) (csM s'.pk cs) w')
 | .pan v s'=>∃ a' Q' w' M' ρ' todo x,Goes nt b cs Q0 N Q w M ρ G0 nx0 s' a' Q' w' M' ρ'/\VI M' v x/\Steps P m (lone { b.atR a' todo with mode := .panicking [{ v:=x,recovered:=false }] } (csM s'.pk cs) w')
 |_=>False
theorem LineEnd.after {N N1 N2:Nat->Prop} {G1:Nat->Obj} {n0 n1:Nat} {m m1:Machine} {out:Out} (t:Tr N1 Q w M ρ G Q' w' M' ρ' G1) (hn:n0<=n1) (hs:Steps P m m1) (h:LineEnd P nt b cs k Q0 N2 Q' w' M' ρ' G1 n1 m1 out) (h1:∀ o,N1 o->N o) (h2:∀ o,N2 o->N o) :
  LineEnd P nt b cs k Q0 N Q w M ρ G n0 m out:=by
 cases out with
 |norm s'=>obtain ⟨a',Q',w',M',ρ',g,st⟩:=h;exact ⟨a',Q',w',M',ρ',g.after t hn h1 h2,hs.trans st⟩
 |pan v s'=>obtain ⟨a',Q',w',M',ρ',todo,x,g,hx,st⟩:=h;exact ⟨a',Q',w',M',ρ',todo,x,g.after t hn h1 h2,hx,hs.trans st⟩
 |exit=>exact h
 |ret=>exact h
theorem stepA_ok (hC:CfgOK C) (hL:CallOK C.P L) (hR:RoundOK C.P L) {out:Out} (h:stepA C L nt ops id o s=some out) (ho:ops[i]? = some o) (hS:SR nt Q0 Q w M ρ s a) (hpk:PkOK M b cs s.pk) (hid:ρ id=none) (hlt:id < s.nx) :
  LineEnd C.P nt b cs (.inRegion ops rest::k) Q0 (fun o=>o=id\/s.nx<=o) Q w M ρ s.G s.nx (lone (b.atR a (.inRegion ops (i::rest)::k)) (csM s.pk cs) w) out:=by
 unfold stepA at h
 have fin:∀ v s1 s',OpN C.P nt b cs k ops i rest o id Q0 Q w M ρ s a v s1->Go.Abs.put nt s1 o.dst v=some s' ->
   LineEnd C.P nt b cs (.inRegion ops rest::k) Q0 (fun o=>o=id\/s.nx<=o) Q w M ρ s.G s.nx (lone (b.atR a (.inRegion ops (i::rest)::k)) (csM s.pk cs) w) (.norm s'):=by
  intro v s1 s' ⟨c,a1,Q',w',M',ρ',t,hn,ht,hS1,hv,hpk1,hst⟩ hp
  obtain ⟨hS2,e1,e2,e3,e4⟩:=hS1.put hp hv
  refine ⟨_,Q',w',M',ρ',⟨by rw [e1];exact t,by rw [e2];exact hn,hS2,by rw [e3];exact hpk1.mono t.ev.mem⟩,by rw [e3];exact hst⟩
 split at h
 ·rename_i hw
  have hw:=wantA_ok hw hS.tmps
  split at h
  ·rename_i v ups hop
   have:=op_ok (k:=k) (rest:=rest) hC hL hR hop ho hw hS hpk hid hlt
   split at h
   ·rename_i s' hp;cases h;exact fin v _ s' this hp
   ·cases h
  ·rename_i v s1 hop
   have:=op_ok (k:=k) (rest:=rest) hC hL hR hop ho hw hS hpk hid hlt
   split at h
   ·rename_i s' hp;cases h;exact fin v _ s' this hp
   ·cases h
  ·rename_i v s1 hop
   cases h
   obtain ⟨x,a1,todo,Q',w',M',ρ',t,hn,hS1,hx,hpk1,hst⟩:=op_ok (k:=k) (rest:=rest) hC hL hR hop ho hw hS hpk hid hlt
   exact ⟨a1,Q',w',M',ρ',todo,x,⟨t,hn,hS1,hpk1.mono t.ev.mem⟩,hx,hst⟩
  ·cases h
 ·rename_i hw
  have hw:=wantA_ok hw hS.tmps
  split at h
  ·rename_i s' hp
   cases h
   refine fin (.imm (.tup [])) s s' ⟨Go.undef,a,Q,w,M,ρ,Tr.refl _ _ _ _ _ _,Nat.le_refl _,rfl,hS,?_,hpk, .one ?_⟩ hp
   ·exact .imm _ _ (.tup [] #[] rfl fun i x hx=>by simp at hx)
   ·have:=stepR_op_skip (P:=C.P) (b:=b) (a:=a) (k:=k) (cs:=csM s.pk cs) (w:=w) (ops:=ops) (i:=i) (rest:=rest) (by simp [ho,hw])
    rw [this,ho];rfl
  ·cases h
 ·cases h
theorem runA_ok (hC:CfgOK C) (hL:CallOK C.P L) (hR:RoundOK C.P L) {base:Nat}:∀ (l:List Nat) {s:St} {a:Act} {Q:Nat->Prop} {w:World} {M:Mem} {ρ:Ref} {out:Out},runA C L nt ops base l s=some out->l.Nodup->(∀ i∈l,i < ops.size/\ρ (base+i)=none) ->
  base+ops.size<=s.nx->SR nt Q0 Q w M ρ s a->PkOK M b cs s.pk->LineEnd C.P nt b cs k Q0 (base <= ·) Q w M ρ s.G s.nx (lone (b.atR a (.inRegion ops l::k)) (csM s.pk cs) w) out
 |[],s,a,Q,w,M,ρ,out,h,hnd,hl,hn,hS,hpk=>by
  cases h
  exact ⟨a,Q,w,M,ρ,⟨Tr.refl _ _ _ _ _ _,Nat.le_refl _,hS,hpk⟩, .one stepR_region_end⟩
 |i::r,s,a,Q,w,M,ρ,out,h,hnd,hl,hn,hS,hpk=>by
  have hi:=hl i (by simp)
  have ho:ops[i]? = some ops[i]:=Array.getElem?_eq_getElem hi.1
  simp only [runA,ho] at h
  split at h
  ·rename_i s1 h1
   obtain ⟨a1,Q1,w1,M1,ρ1,g,st⟩:=stepA_ok (k:=k) (rest:=r) hC hL hR h1 ho hS hpk hi.2 (by omega)
   have hnd':=List.nodup_cons.1 hnd
   have:=runA_ok hC hL hR r h hnd'.2 (fun j hj=>⟨(hl j (by simp [hj])).1,g.tr.born _ (fun e=>by
    rcases e with e|e
    ·have:j=i:=by omega
     subst this;exact hnd'.1 hj
    ·have:=(hl j (by simp [hj])).1;omega) (hl j (by simp [hj])).2⟩) (Nat.le_trans hn g.nx) g.sr g.pk
   exact LineEnd.after g.tr g.nx st this (fun o e=>by rcases e with e|e<;>omega) (fun _ h=>h)
  ·rename_i x hx
   have:=stepA_ok (k:=k) (rest:=r) hC hL hR h ho hS hpk hi.2 (by omega)
   cases out with
   |norm s1=>exact absurd h (hx s1)
   |pan v s1=>
    obtain ⟨a',Q',w',M',ρ',todo,x,g,hx,st⟩:=this
    exact ⟨a',Q',w',M',ρ',todo,x,⟨g.tr.weak (fun o e=>by rcases e with e|e<;>omega),g.nx,g.sr,g.pk⟩,hx,st⟩
   |exit=>exact this
   |ret=>exact this
end Go.Abs

/- The abstract interpreter: what an operation depends on. -/
namespace Go.Abs
variable {G G':Nat->Obj} {C:Cfg} {L:Low}
def Same (G G':Nat->Obj) (l:List Nat):Prop:=∀ q∈l,(G q).freeze=(G' q).freeze
theorem Same.mono {l l':List Nat} (h:Same G G' l) (hs:∀ q∈l',q∈l):Same G G' l':=fun q hq=>h q (hs q hq)
theorem row_same {o:Nat} {et:TypeId} {sz:Nat} {xs:List AV} {fr:Bool} (h:(G o).freeze=(G' o).freeze) (e:G o = .row et sz xs fr):∃ fr',G' o = .row et sz xs fr':=by
 rw [e] at h
 cases e':G' o<;>rw [e'] at h<;>simp only [Obj.freeze,reduceCtorEq,Obj.row.injEq] at h
 obtain ⟨rfl,rfl,rfl,_⟩:=h
 exact ⟨_,rfl⟩
theorem box_same {o:Nat} {cs:List AV} {fr:Bool} (h:(G o).freeze=(G' o).freeze) (e:G o = .box cs fr):∃ fr',G' o = .box cs fr':=by
 rw [e] at h
 cases e':G' o<;>rw [e'] at h<;>simp only [Obj.freeze,reduceCtorEq,Obj.box.injEq] at h
 obtain ⟨rfl,_⟩:=h
 exact ⟨_,rfl⟩
theorem mp_same {o:Nat} {ks:List IV} {vs:List AV} {fr:Bool} (h:(G o).freeze=(G' o).freeze) (e:G o = .mp ks vs fr):∃ fr',G' o = .mp ks vs fr':=by
 rw [e] at h
 cases e':G' o<;>rw [e'] at h<;>simp only [Obj.freeze,reduceCtorEq,Obj.mp.injEq] at h
 obtain ⟨rfl,rfl,_⟩:=h
 exact ⟨_,rfl⟩
theorem it_same {o:Nat} {ks vs:List IV} {d:Bool} (h:(G o).freeze=(G' o).freeze) (e:G o = .it ks vs d):G' o = .it ks vs d:=by
 rw [e] at h
 cases e':G' o<;>rw [e'] at h<;>simp only [Obj.freeze,reduceCtorEq,Obj.it.injEq] at h
 obtain ⟨rfl,rfl,rfl⟩:=h
 rfl
theorem aNext_congr {s s':St} {a:AV} {b:Bool} {ef:Ef} (h:Same s.G s'.G (direct a)) (hr:aNext s a b=some ef):aNext s' a b=some ef:=by
 unfold aNext at hr ⊢
 split at hr
 ·rename_i q
  have h:=h q (by simp [direct])
  split at hr
  ·rename_i e;rw [it_same h e];exact hr
  ·rename_i ks vs _ e;rw [it_same h e]
   cases ks<;>exact hr
  ·rename_i e;rw [it_same h e];exact hr
  ·cases hr
 ·cases hr
theorem aEntry_congr {a:AV} {ef:Ef} (h:Same G G' (direct a)) (hr:aEntry G a=some ef):aEntry G' a=some ef:=by
 unfold aEntry at hr ⊢
 split at hr
 ·rename_i q
  have h:=h q (by simp [direct])
  split at hr
  ·rename_i e;rw [it_same h e];exact hr
  ·cases hr
 ·cases hr
theorem readAt_congr {n:Nat} {a:AV} {r:List AV} (h:Same G G' (direct a)) (hr:readAt G n a=some r):readAt G' n a=some r:=by
 unfold readAt at hr ⊢
 cases a with
 |ptr o off=>
  have h:=h o (by simp [direct])
  simp only at hr ⊢
  split at hr
  ·rename_i cs fr e;obtain ⟨fr',e'⟩:=box_same h e;rw [e'];exact hr
  ·cases hr
 |rptr o m i off=>
  have h:=h o (by simp [direct])
  simp only at hr ⊢
  split at hr
  ·rename_i et sz xs fr e;obtain ⟨fr',e'⟩:=row_same h e;rw [e'];exact hr
  ·cases hr
 |imm v=>cases v<;>exact hr
 |_=>exact hr
theorem elems_congr {a:AV} {r:List AV} (h:Same G G' (direct a)) (hr:elems G a=some r):elems G' a=some r:=by
 unfold elems at hr ⊢
 cases a with
 |row o n=>
  have h:=h o (by simp [direct])
  simp only at hr ⊢
  split at hr
  ·rename_i et sz xs fr e;obtain ⟨fr',e'⟩:=row_same h e;rw [e'];exact hr
  ·cases hr
 |imm v=>cases v<;>exact hr
 |_=>exact hr
theorem elemAddr_congr {sz n:Nat} {a r:AV} (h:Same G G' (direct a)) (hr:elemAddr G sz a n=some r):elemAddr G' sz a n=some r:=by
 unfold elemAddr at hr ⊢
 cases a with
 |row o m=>
  have h:=h o (by simp [direct])
  simp only at hr ⊢
  split at hr
  ·rename_i et sz xs fr e;obtain ⟨fr',e'⟩:=row_same h e;rw [e'];exact hr
  ·cases hr
 |imm v=>cases v<;>exact hr
 |_=>exact hr
theorem lenA_congr {d:TyD} {a:AV} {n:Nat} (h:Same G G' (direct a)) (hr:lenA G d a=some n):lenA G' d a=some n:=by
 unfold lenA at hr ⊢
 cases d with
 |sl t=>
  simp only at hr ⊢
  split at hr
  ·rename_i l e;rw [elems_congr h e];exact hr
  ·cases hr
 |mp k e=>
  cases a with
  |map o=>
   have h:=h o (by simp [direct])
   simp only at hr ⊢
   split at hr
   ·rename_i ks vs fr e;obtain ⟨fr',e'⟩:=mp_same h e;rw [e'];exact hr
   ·cases hr
  |imm v=>cases v<;>exact hr
  |_=>exact hr
 |_=>exact hr
theorem mapKV_congr {a:AV} {r:List IV×List AV} (h:Same G G' (direct a)) (hr:mapKV G a=some r):mapKV G' a=some r:=by
 unfold mapKV at hr ⊢
 cases a with
 |map o=>
  have h:=h o (by simp [direct])
  simp only at hr ⊢
  split at hr
  ·rename_i ks vs fr e;obtain ⟨fr',e'⟩:=mp_same h e;rw [e'];exact hr
  ·cases hr
 |imm v=>cases v<;>exact hr
 |_=>exact hr
theorem peekL_congr {f g:AV->Option (IV×List Nat)}:∀ {l:List AV} {r:List IV×List Nat},(∀ x∈l,∀ z,f x=some z->g x=some z)->peekL f l=some r->peekL g l=some r
 |[],r,_,h=>h
 |x::l,r,hfg,h=>by
  simp only [peekL] at h ⊢
  split at h
  ·rename_i y i hy
   split at h
   ·rename_i ys ids hys
    rw [hfg x (by simp) _ hy,peekL_congr (fun z hz=>hfg z (by simp [hz])) hys]
    exact h
   ·cases h
  ·cases h
theorem peek_congr:∀ (k:Nat) (a:AV) (r:IV×List Nat),Same G G' (touch G k a)->peek G k a=some r->peek G' k a=some r:=by
 intro k
 induction k with
 |zero=>intro a r _ h;cases a<;>simp only [peek,reduceCtorEq] at h ⊢ <;> exact h
 |succ k ih=>
  intro a r hs h
  have list:∀ (l:List AV) (z:List IV×List Nat),Same G G' (l.flatMap (touch G k))->peekL (peek G k) l=some z->peekL (peek G' k) l=some z:=fun l z hl hz=>
   peekL_congr (fun x hx z hz=>ih x z (hl.mono fun q hq=>List.mem_flatMap.2 ⟨x,hx,hq⟩) hz) hz
  cases a with
  |row o n=>
   simp only [peek] at h ⊢
   simp only [touch] at hs
   split at h
   ·rename_i et sz xs fr e
    obtain ⟨fr',e'⟩:=row_same (hs o (by simp)) e
    rw [e'] at *
    rw [e] at hs
    split at h
    ·rename_i hn
     simp only [hn,if_true]
     split at h
     ·rename_i l ids hl
      rw [list _ _ (hs.mono fun q hq=>by simp [hq]) hl]
      exact h
     ·cases h
    ·cases h
   ·cases h
  |map o=>
   simp only [peek] at h ⊢
   simp only [touch] at hs
   split at h
   ·rename_i ks vs fr e
    obtain ⟨fr',e'⟩:=mp_same (hs o (by simp)) e
    rw [e'] at *
    rw [e] at hs
    split at h
    ·rename_i l ids hl
     simp only [list _ _ (hs.mono fun q hq=>by simp [hq]) hl]
     exact h
    ·cases h
   ·cases h
  |ptr o off=>
   simp only [peek] at h ⊢
   simp only [touch] at hs
   split at h
   ·rename_i cs fr e
    obtain ⟨fr',e'⟩:=box_same (hs o (by simp)) e
    rw [e'] at *
    rw [e] at hs
    split at h
    ·rename_i l ids hl
     simp only [list _ _ (hs.mono fun q hq=>by simp [hq]) hl]
     exact h
    ·cases h
   ·cases h
  |fn f cap=>
   simp only [peek] at h ⊢
   split at h
   ·rename_i l ids hl;rw [list _ _ hs hl];exact h
   ·cases h
  |agg cs=>
   simp only [peek] at h ⊢
   split at h
   ·rename_i l ids hl;rw [list _ _ hs hl];exact h
   ·cases h
  |tup cs=>
   simp only [peek] at h ⊢
   split at h
   ·rename_i l ids hl;rw [list _ _ hs hl];exact h
   ·cases h
  |_=>simp only [peek,reduceCtorEq] at h ⊢ <;> exact h
theorem touch_congr:∀ (k:Nat) (a:AV),Same G G' (touch G k a)->touch G' k a=touch G k a:=by
 intro k
 induction k with
 |zero=>intro a _;cases a<;>rfl
 |succ k ih=>
  intro a hs
  have list:∀ (l:List AV),Same G G' (l.flatMap (touch G k))->l.flatMap (touch G' k)=l.flatMap (touch G k):=fun l=>by
   induction l with
   |nil=>intro _;rfl
   |cons x l ihl=>
    intro hl
    simp only [List.flatMap_cons] at hl ⊢
    rw [ih x (hl.mono fun q hq=>by simp [hq]),ihl (hl.mono fun q hq=>List.mem_append_right _ hq)]
  cases a with
  |row o n=>
   simp only [touch] at hs ⊢
   have h0:=hs o (by simp)
   cases e:G o with
   |row et sz xs fr=>
    obtain ⟨fr',e'⟩:=row_same h0 e
    rw [e'] at *;rw [e] at hs
    simp only [list xs (hs.mono fun q hq=>by simp [hq])]
   |_=>rw [e] at h0;cases e':G' o<;>rw [e'] at h0<;>simp [Obj.freeze] at h0<;>rfl
  |rptr o n i off=>
   simp only [touch] at hs ⊢
   have h0:=hs o (by simp)
   cases e:G o with
   |row et sz xs fr=>
    obtain ⟨fr',e'⟩:=row_same h0 e
    rw [e'] at *;rw [e] at hs
    simp only [list xs (hs.mono fun q hq=>by simp [hq])]
   |_=>rw [e] at h0;cases e':G' o<;>rw [e'] at h0<;>simp [Obj.freeze] at h0<;>rfl
  |map o=>
   simp only [touch] at hs ⊢
   have h0:=hs o (by simp)
   cases e:G o with
   |mp ks vs fr=>
    obtain ⟨fr',e'⟩:=mp_same h0 e
    rw [e'] at *;rw [e] at hs
    simp only [list vs (hs.mono fun q hq=>by simp [hq])]
   |_=>rw [e] at h0;cases e':G' o<;>rw [e'] at h0<;>simp [Obj.freeze] at h0<;>rfl
  |ptr o off=>
   simp only [touch] at hs ⊢
   have h0:=hs o (by simp)
   cases e:G o with
   |box cs fr=>
    obtain ⟨fr',e'⟩:=box_same h0 e
    rw [e'] at *;rw [e] at hs
    simp only [list cs (hs.mono fun q hq=>by simp [hq])]
   |_=>rw [e] at h0;cases e':G' o<;>rw [e'] at h0<;>simp [Obj.freeze] at h0<;>rfl
  |fn f cs=>exact list cs hs
  |agg cs=>exact list cs hs
  |tup cs=>exact list cs hs
  |_=>rfl
/-! ### operations -/
variable {id:Nat} {s s':St} {v:AV} {ups:List (Nat×U)}
theorem aLoad_congr {t:TypeId} {a:AV} {ef:Ef} (h:Same G G' (direct a)) (hr:aLoad C G t a=some ef):aLoad C G' t a=some ef:=by
 unfold aLoad at hr ⊢
 split at hr
 ·split at hr
  ·rename_i cs e;rw [readAt_congr h e];exact hr
  ·cases hr
 ·cases hr
theorem aConvert_congr {a b:TypeId} {x:AV} {ef:Ef} (h:Same G G' (direct x)) (hr:aConvert C G a b x=some ef):aConvert C G' a b x=some ef:=by
 unfold aConvert at hr ⊢
 split at hr
 ·rename_i i j hi hj
  split at hr
  ·exact hr
  ·exact hr
  ·rename_i hd hne
   split at hr
   ·split at hr
    ·split at hr
     ·rename_i k2 xs e1 e2
      rw [elems_congr h e2]
      simp only [e1]
      exact hr
     ·cases hr
    ·cases hr
   ·cases hr
  ·cases hr
 ·cases hr
theorem aIndexAddr_congr {t:TypeId} {x ix:AV} {ef:Ef} (h:Same G G' (direct x)) (hr:aIndexAddr C G t x ix=some ef):aIndexAddr C G' t x ix=some ef:=by
 unfold aIndexAddr at hr ⊢
 split at hr
 ·split at hr
  ·split at hr
   ·split at hr
    ·rename_i hn
     rw [if_pos hn]
     split at hr
     ·rename_i z e;rw [elemAddr_congr h e];exact hr
     ·cases hr
    ·cases hr
   ·cases hr
  ·exact hr
  ·cases hr
 ·cases hr
theorem lookA_congr {t:TypeId} {m k:AV} {ok:Bool} {ef:Ef} (h:Same G G' (direct m)) (hr:lookA C t G m k ok=some ef):lookA C t G' m k ok=some ef:=by
 unfold lookA at hr ⊢
 split at hr
 ·split at hr
  ·split at hr
   ·rename_i e1 e2 e3;rw [mapKV_congr h e2,e3];exact hr
   ·cases hr
  ·cases hr
 ·cases hr
theorem aStore_congr {t:TypeId} {a x:AV} (hr:aStore C s t a x=some (.val v ups)) (hw:∀ q∈wrOf ups,s'.G q=s.G q):aStore C s' t a x=some (.val v ups):=by
 unfold aStore at hr ⊢
 split at hr
 ·split at hr
  ·rename_i hf
   rw [if_pos hf]
   split at hr
   ·rename_i q off
    split at hr
    ·rename_i old e
     split at hr
     ·rename_i hb
      have hq:s'.G q=s.G q:=hw q (by cases hr;simp [wrOf])
      rw [hq,e]
      simp only [hb,if_true]
      exact hr
     ·cases hr
    ·cases hr
   ·rename_i q n j off
    split at hr
    ·rename_i et sz xs e
     split at hr
     ·rename_i y hy
      split at hr
      ·rename_i hb
       have hq:s'.G q=s.G q:=hw q (by cases hr;simp [wrOf])
       rw [hq,e]
       simp only [hy,hb,and_self,if_true]
       exact hr
      ·cases hr
     ·cases hr
    ·cases hr
   ·cases hr
  ·cases hr
 ·cases hr
theorem aMapUpdate_congr {t:TypeId} {m k x:AV} (hr:aMapUpdate C s t m k x=some (.val v ups)) (hw:∀ q∈wrOf ups,s'.G q=s.G q):aMapUpdate C s' t m k x=some (.val v ups):=by
 unfold aMapUpdate at hr ⊢
 split at hr
 ·rename_i i q key hi
  split at hr
  ·rename_i kt e ks vs hd hG
   have hq:s'.G q=s.G q:=hw q (by
    (repeat' split at hr)<;>first|(cases hr;simp [wrOf])|cases hr)
   rw [hq,hG,hd]
   exact hr
  ·cases hr
 ·cases hr
theorem aSlice_congr {t:TypeId} {x:AV} {lo hi:Option AV} {ef:Ef} (h:Same s.G s'.G (touch s.G pkDepth x)) (hr:aSlice C s t x lo hi=some ef):aSlice C s' t x lo hi=some ef:=by
 unfold aSlice at hr ⊢
 split at hr
 ·split at hr
  ·exact hr
  ·split at hr
   ·rename_i e1 e2;rw [peek_congr _ _ _ h e1,e2];exact hr
   ·cases hr
  ·cases hr
 ·cases hr
theorem aAppend_congr {t u:TypeId} {a x:AV} (h:Same s.G s'.G (direct x)) (hr:aAppend C s id t u a x=some (.val v ups)) (hw:∀ q∈wrOf ups,s'.G q=s.G q):aAppend C s' id t u a x=some (.val v ups):=by
 unfold aAppend at hr ⊢
 split at hr
 ·rename_i k ys hk hys
  rw [elems_congr h hys,hk]
  dsimp only
  split at hr
  ·rename_i et hd
   try simp only [hd]
   split at hr
   ·rename_i i hi
    try simp only [hi]
    split at hr
    ·rename_i hc
     rw [if_pos hc]
     split at hr
     ·exact hr
     ·rename_i q n
      split at hr
      ·rename_i et' sz xs e
       split at hr
       ·rename_i hb
        have hq:s'.G q=s.G q:=hw q (by cases hr;simp [wrOf])
        simp only [hq,e]
        rw [if_pos hb]
        exact hr
       ·cases hr
      ·cases hr
     ·cases hr
    ·cases hr
   ·cases hr
  ·cases hr
 ·cases hr
theorem aBuiltin_congr {b:Builtin} {tys:List TypeId} {args:List AV} (hrec:s'.pk=s.pk) (h:Same s.G s'.G (args.flatMap direct)) (hr:aBuiltin C s id b tys args=some (.val v ups)) (hw:∀ q∈wrOf ups,s'.G q=s.G q) :
  aBuiltin C s' id b tys args=some (.val v ups):=by
 unfold aBuiltin at hr ⊢
 split at hr
 ·split at hr
  ·split at hr
   ·split at hr
    ·rename_i n e;rw [lenA_congr (h.mono fun q hq=>by simp [hq]) e];exact hr
    ·cases hr
   ·cases hr
  ·cases hr
 ·exact hr
 ·exact hr
 ·split at hr
  ·exact aAppend_congr (h.mono fun q hq=>by simp [hq]) hr hw
  ·cases hr
 ·rw [hrec]
  split at hr
  ·cases hr
  ·exact hr
  ·cases hr
 ·cases hr
theorem callA_congr {f:FuncId} {args:List AV} (h:Same s.G s'.G (args.flatMap (touch s.G pkDepth))) (hr:callA C L id s f args=some (.val v ups)):callA C L id s' f args=some (.val v ups):=by
 unfold callA at hr ⊢
 split at hr
 ·split at hr<;>cases hr
 ·rename_i hb
  rw [if_neg hb]
  split at hr
  ·cases hr
  ·rename_i ivs ids hp
   have:peeks s'.G args=some (ivs,ids):=peekL_congr (fun x hx z hz=>peek_congr _ _ _ (h.mono fun q hq=>List.mem_flatMap.2 ⟨x,hx,hq⟩) hz) hp
   rw [this]
   dsimp only
   split at hr
   ·exact hr
   ·exact hr
   ·split at hr
    ·exact hr
    ·split at hr<;>cases hr
    ·cases hr
theorem opA_congr {o:Op} (h:opA C L id s o=some (.val v ups)) (hev:∀ x∈o.operands,ev s'.tmps x=ev s.tmps x) (hrd:Same s.G s'.G (readsOf s o)) (hwr:∀ q∈wrOf ups,s'.G q=s.G q) (hpk:s'.pk=s.pk) :
  opA C L id s' o=some (.val v ups):=by
 have parts:∀ ps:Array (Nat×Operand),(∀ x∈(ps.toList.map (·.2)).toArray,ev s'.tmps x=ev s.tmps x)->(ps.toList.map fun p=>(p.1,ev s'.tmps p.2))=ps.toList.map fun p=>(p.1,ev s.tmps p.2):=fun ps hps=>
  List.map_congr_left fun p hp=>by rw [hps p.2 (by simpa using ⟨p.1,by simpa using hp⟩)]
 have one:∀ a:AV,Same s.G s'.G ([a].flatMap direct)->Same s.G s'.G (direct a):=fun a h=>h.mono fun q hq=>by simp [hq]
 unfold opA at h ⊢
 cases o<;>simp only [Op.operands,Call.operands] at hev
 case move x=>simp only at h ⊢;rw [hev x (by simp)];exact h
 case assign x=>simp only at h ⊢;rw [hev x (by simp)];exact h
 case pick c a b=>simp only at h ⊢;rw [hev c (by simp),hev a (by simp),hev b (by simp)];exact h
 case alloc t=>exact h
 case box t x=>simp only at h ⊢;rw [hev x (by simp)];exact h
 case build t ps=>simp only at h ⊢;rw [parts ps hev];exact h
 case buildSlice t n ps=>simp only at h ⊢;rw [parts ps hev];exact h
 case makeSlice t l c=>simp only at h ⊢;rw [hev l (by simp),hev c (by simp)];exact h
 case load t a=>simp only at h ⊢;rw [hev a (by simp)];exact aLoad_congr (hrd.mono fun q hq=>by simpa [readsOf,pureOp,Op.operands] using hq) h
 case store t a x=>simp only at h ⊢;rw [hev a (by simp),hev x (by simp)];exact aStore_congr h hwr
 case nilCheck x=>simp only at h ⊢;rw [hev x (by simp)];exact h
 case binOp op t x y z=>simp only at h ⊢;rw [hev x (by simp),hev y (by simp)];exact h
 case unOp op t x=>simp only at h ⊢;rw [hev x (by simp)];exact h
 case convert a b x=>simp only at h ⊢;rw [hev x (by simp)];exact aConvert_congr (hrd.mono fun q hq=>by simpa [readsOf,pureOp,Op.operands] using hq) h
 case makeInterface t x=>simp only at h ⊢;rw [hev x (by simp)];exact h
 case makeFunc f first cap=>
  simp only at h ⊢
  rw [List.map_congr_left fun x hx=>hev x (by simp;right;simpa using hx)]
  exact h
 case makeMap t r=>cases r<;>exact h
 case fieldAddr t x f=>simp only at h ⊢;rw [hev x (by simp)];exact h
 case indexAddr t x ix=>
  simp only at h ⊢;rw [hev x (by simp),hev ix (by simp)]
  exact aIndexAddr_congr (hrd.mono fun q hq=>by simp [readsOf,pureOp,Op.operands];exact .inl hq) h
 case index t x ix=>simp only at h ⊢;rw [hev x (by simp),hev ix (by simp)];exact h
 case lookup t m k ok=>
  simp only at h ⊢;rw [hev m (by simp),hev k (by simp)]
  exact lookA_congr (hrd.mono fun q hq=>by simp [readsOf,pureOp,Op.operands];exact .inl hq) h
 case mapUpdate t m k x=>simp only at h ⊢;rw [hev m (by simp),hev k (by simp),hev x (by simp)];exact aMapUpdate_congr h hwr
 case insert t m k x=>simp only at h ⊢;rw [hev m (by simp),hev k (by simp),hev x (by simp)];exact aMapUpdate_congr h hwr
 case extract x i=>simp only at h ⊢;rw [hev x (by simp)];exact h
 case range t x=>simp only at h ⊢;rw [hev x (by simp)];exact h
 case next x b=>simp only at h ⊢;rw [hev x (by simp)];exact aNext_congr (hrd.mono fun q hq=>by simpa [readsOf,pureOp,Op.operands] using hq) h
 case entry x=>simp only at h ⊢;rw [hev x (by simp)];exact aEntry_congr (hrd.mono fun q hq=>by simpa [readsOf,pureOp,Op.operands] using hq) h
 case slice t x lo hi mx=>
  cases mx with
  |some _=>cases h
  |none=>
   simp only at h ⊢
   have e1:lo.map (ev s'.tmps)=lo.map (ev s.tmps):=by cases lo with
    |none=>rfl
    |some y=>simp only [Option.map_some];rw [hev y (by simp)]
   have e2:hi.map (ev s'.tmps)=hi.map (ev s.tmps):=by cases hi with
    |none=>rfl
    |some y=>simp only [Option.map_some];rw [hev y (by simp)]
   rw [hev x (by simp),e1,e2]
   exact aSlice_congr (hrd.mono fun q hq=>by simpa [readsOf,pureOp] using hq) h
 case typeAssert x t' t ok=>simp only at h ⊢;rw [hev x (by simp)];exact h
 case panic x=>simp only at h;split at h<;>cases h
 case defer c=>simp only at h;(repeat' split at h)<;>cases h
 case call c=>
  obtain ⟨callee,args,ats⟩:=c
  simp only at hev
  have eargs:args.toList.map (ev s'.tmps)=args.toList.map (ev s.tmps):=List.map_congr_left fun x hx=>hev x (by simp;right;simpa using hx)
  cases callee with
  |builtin b=>
   simp only at h ⊢
   rw [eargs]
   exact aBuiltin_congr hpk (hrd.mono fun q hq=>by simpa [readsOf,pureOp,List.flatMap_map] using hq) h hwr
  |value f=>
   simp only at h ⊢
   rw [eargs,hev f (by simp)]
   unfold aCall at h ⊢
   split at h
   ·split at h<;>cases h
   ·rename_i hny
    split at h
    ·rename_i k cap hfn
     have hc:=callA_congr (hrd.mono fun q hq=>by simpa [readsOf,pureOp,hfn] using hq) h
     exact hc
    ·cases h
  |_=>cases h
 all_goals cases h
end Go.Abs

/- The abstract interpreter: operations of a region change places. -/
namespace Go.Abs
variable {G G':Nat->Obj} {C:Cfg} {L:Low} {id:Nat} {s s':St} {v:AV} {ups:List (Nat×U)}
theorem flatMap_same {α β:Type} {f g:α->List β}:∀ {l:List α},(∀ x∈l,f x=g x)->l.flatMap f=l.flatMap g
 |[],_=>rfl
 |x::l,h=>by simp only [List.flatMap_cons];rw [h x (by simp),flatMap_same fun y hy=>h y (by simp [hy])]
theorem readsOf_congr {o:Op} (hev:∀ x∈o.operands,ev s'.tmps x=ev s.tmps x) (hrd:Same s.G s'.G (readsOf s o)):readsOf s' o=readsOf s o:=by
 unfold readsOf at hrd ⊢
 by_cases hp:pureOp o=true
 ·simp only [hp,if_true]
 ·simp only [hp,if_false,Bool.false_eq_true] at hrd ⊢
  have gen:o.operands.toList.flatMap (fun x=>direct (ev s'.tmps x))=o.operands.toList.flatMap (fun x=>direct (ev s.tmps x)):=flatMap_same fun x hx=>by rw [hev x (by simpa using hx)]
  cases o
  case call c=>
   obtain ⟨callee,args,ats⟩:=c
   simp only [Op.operands,Call.operands] at hev
   have eargs:args.toList.map (ev s'.tmps)=args.toList.map (ev s.tmps):=List.map_congr_left fun x hx=>hev x (by simp;right;simpa using hx)
   cases callee with
   |builtin b=>exact flatMap_same fun x hx=>by rw [hev x (by simp;simpa using hx)]
   |value f=>
    simp only at hrd ⊢
    rw [hev f (by simp),eargs]
    split
    ·rename_i k cap hfn
     rw [hfn] at hrd
     exact flatMap_same fun x hx=>touch_congr _ _ (hrd.mono fun q hq=>List.mem_flatMap.2 ⟨x,hx,hq⟩)
    ·rfl
   |invoke r m=>exact gen
  case slice t x lo hi mx=>
   simp only at hrd ⊢
   rw [hev x (by simp [Op.operands])]
   exact touch_congr _ _ hrd
  case store t a x=>simp only;rw [hev a (by simp [Op.operands])]
  case mapUpdate t m k x=>simp only;rw [hev m (by simp [Op.operands])]
  case insert t m k x=>simp only;rw [hev m (by simp [Op.operands])]
  all_goals exact gen
/-! ### what is written -/
theorem updL_pt:∀ (ups:List (Nat×U)) {G G':Nat->Obj} {q:Nat},G q=G' q->updL G ups q=updL G' ups q
 |[],_,_,_,h=>h
 |(o,u)::r,G,G',q,h=>by
  simp only [updL]
  refine updL_pt r ?_
  by_cases hq:q=o
  ·subst hq;simp [upd,h]
  ·simp [upd,hq,h]
theorem updL_out:∀ (ups:List (Nat×U)) {G:Nat->Obj} {q:Nat},q∉wrOf ups->q∉fzOf ups->updL G ups q=G q
 |[],_,_,_,_=>rfl
 |(o, .set x)::r,G,q,h1,h2=>by
  simp only [wrOf,fzOf,List.mem_cons,not_or] at h1 h2
  simp only [updL]
  rw [updL_out r h1.2 h2]
  simp [upd,h1.1]
 |(o, .frz)::r,G,q,h1,h2=>by
  simp only [wrOf,fzOf,List.mem_cons,not_or] at h1 h2
  simp only [updL]
  rw [updL_out r h1 h2.2]
  simp [upd,h2.1]
theorem updL_frzd:∀ (ups:List (Nat×U)) {G:Nat->Obj} {q:Nat},q∉wrOf ups->q∈fzOf ups->updL G ups q=(G q).freeze
 |(o, .set x)::r,G,q,h1,h2=>by
  simp only [wrOf,fzOf,List.mem_cons,not_or] at h1 h2
  simp only [updL]
  rw [updL_frzd r h1.2 h2]
  simp [upd,h1.1]
 |(o, .frz)::r,G,q,h1,h2=>by
  simp only [wrOf,fzOf,List.mem_cons] at h1 h2
  simp only [updL]
  by_cases hr:q∈fzOf r
  ·rw [updL_frzd r h1 hr]
   by_cases hq:q=o
   ·subst hq;simp [upd,U.on,freeze_freeze]
   ·simp [upd,hq]
  ·rw [updL_out r h1 hr]
   have hq:q=o:=by
              rcases h2 with h2|h2
              ·exact h2
              ·exact absurd h2 hr
   subst hq;simp [upd,U.on]
theorem updL_same (ups:List (Nat×U)) {G:Nat->Obj} {q:Nat} (h:q∉wrOf ups):(updL G ups q).freeze=(G q).freeze:=by
 by_cases hf:q∈fzOf ups
 ·rw [updL_frzd ups h hf,freeze_freeze]
 ·rw [updL_out ups h hf]
theorem updL_comm {a b:List (Nat×U)} (h1:∀ q∈wrOf a,q∉wrOf b/\q∉fzOf b) (h2:∀ q∈wrOf b,q∉wrOf a/\q∉fzOf a) (G:Nat->Obj):updL (updL G a) b=updL (updL G b) a:=by
 funext q
 by_cases ha:q∈wrOf a
 ·rw [updL_out b (h1 q ha).1 (h1 q ha).2]
  exact updL_pt a (updL_out b (h1 q ha).1 (h1 q ha).2).symm
 ·by_cases hb:q∈wrOf b
  ·rw [updL_out a (h2 q hb).1 (h2 q hb).2]
   exact updL_pt b (updL_out a (h2 q hb).1 (h2 q hb).2)
  ·by_cases fa:q∈fzOf a<;>by_cases fb:q∈fzOf b
   ·rw [updL_frzd b hb fb,updL_frzd a ha fa,updL_frzd a ha fa,updL_frzd b hb fb]
   ·rw [updL_out b hb fb,updL_frzd a ha fa,updL_frzd a ha fa,updL_out b hb fb]
   ·rw [updL_frzd b hb fb,updL_out a ha fa,updL_out a ha fa,updL_frzd b hb fb]
   ·rw [updL_out b hb fb,updL_out a ha fa,updL_out a ha fa,updL_out b hb fb]
/-! ### one operation -/
def StepIs (C:Cfg) (L:Low) (ops:Array Oper) (id:Nat) (o:Oper) (s:St) (v:AV) (ups:List (Nat×U)) (rd:List Nat):Prop:=
 (wantA ops s.tmps o=some true/\opA C L id s o.op=some (.val v ups)/\rd=readsOf s o.op)\/(wantA ops s.tmps o=some false/\v = .imm (.tup [])/\ups=[]/\rd=[])
theorem stepD_some {nt:Nat} {ops:Array Oper} {base i:Nat} {o:Oper} {s s1:St} {f:Fp} (h:stepD C L nt ops base i o s=some (s1,f)) :
  ∃ v ups rd,f=⟨i,rd,wrOf ups,fzOf ups⟩/\put nt { s with G:=updL s.G ups } o.dst v=some s1/\StepIs C L ops (base+i) o s v ups rd:=by
 unfold stepD at h
 split at h
 ·rename_i hw
  split at h
  ·rename_i v ups hop
   split at h
   ·rename_i s' hp;cases h;exact ⟨v,ups,_,rfl,hp, .inl ⟨hw,hop,rfl⟩⟩
   ·cases h
  ·cases h
 ·rename_i hw
  split at h
  ·rename_i s' hp;cases h;exact ⟨.imm (.tup []),[],[],rfl,hp, .inr ⟨hw,rfl,rfl,rfl⟩⟩
  ·cases h
 ·cases h
theorem stepD_of {nt:Nat} {ops:Array Oper} {base i:Nat} {o:Oper} {s s1:St} {rd:List Nat} (h:StepIs C L ops (base+i) o s v ups rd) (hp:put nt { s with G:=updL s.G ups } o.dst v=some s1) :
  stepD C L nt ops base i o s=some (s1,⟨i,rd,wrOf ups,fzOf ups⟩):=by
 unfold stepD
 rcases h with ⟨h1,h2,rfl⟩|⟨h1,rfl,rfl,rfl⟩
 ·simp only [h1,h2,hp]
 ·have hp:put nt s o.dst (.imm (.tup []))=some s1:=hp
  simp only [h1,hp,wrOf,fzOf]
def updO (f:Nat->AV):Option Nat->AV->Nat->AV
 |some d,v=>upd f d v
 |none,_=>f
theorem put_some {nt:Nat} {s s1:St} {dst:Option Nat} {v:AV} (h:put nt s dst v=some s1):s1.G=s.G/\s1.nx=s.nx/\s1.defers=s.defers/\s1.pk=s.pk/\(∀ d,dst=some d->d < nt)/\s1.tmps=updO s.tmps dst v:=by
 unfold put at h
 cases dst with
 |none=>cases h;simp [updO]
 |some d=>
  simp only at h
  split at h
  ·rename_i hd;cases h;exact ⟨rfl,rfl,rfl,rfl,fun d' e=>by cases e;exact hd,rfl⟩
  ·cases h
theorem put_of {nt:Nat} {s:St} {dst:Option Nat} {v:AV} (h:∀ d,dst=some d->d < nt):put nt s dst v=some { s with tmps:=updO s.tmps dst v }:=by
 unfold put
 cases dst with
 |none=>rfl
 |some d=>simp [h d rfl,updO]
theorem stepIs_congr {ops:Array Oper} {o:Oper} {rd:List Nat} (h:StepIs C L ops id o s v ups rd) (ht:∀ t∈o.looksAt ops,s'.tmps t=s.tmps t) (hrd:Same s.G s'.G rd) (hwr:∀ q∈wrOf ups,s'.G q=s.G q) (hpk:s'.pk=s.pk) :
  StepIs C L ops id o s' v ups rd:=by
 have hev:∀ x∈o.op.operands,ev s'.tmps x=ev s.tmps x:=fun x hx=>by
  cases x with
  |tmp t=>
   refine ht t (List.mem_append_left _ (List.mem_filterMap.2 ⟨.tmp t,by simpa using hx,rfl⟩))
  |_=>rfl
 have hw:wantA ops s'.tmps o=wantA ops s.tmps o:=by
  unfold wantA
  cases hg:o.guard with
  |none=>rfl
  |some p=>
   obtain ⟨j,want⟩:=p
   simp only
   cases hd:(ops[j]?).bind (·.dst) with
   |none=>rfl
   |some d=>
    simp only
    rw [ht d (List.mem_append_right _ (by simp [hg,hd]))]
 rcases h with ⟨h1,h2,rfl⟩|⟨h1,rfl,rfl,rfl⟩
 ·exact .inl ⟨hw.trans h1,opA_congr h2 hev hrd hwr hpk,(readsOf_congr hev hrd).symm⟩
 ·exact .inr ⟨hw.trans h1,rfl,rfl,rfl⟩
theorem not_clash {a b:Fp} (h:clash a b=false):(∀ q∈a.wr,q∉b.rd/\q∉b.wr/\q∉b.fz)/\(∀ q∈b.wr,q∉a.rd/\q∉a.fz):=by
 unfold clash at h
 simp only [Bool.or_eq_false_iff,List.any_eq_false,Bool.or_eq_true,List.contains_iff_mem,not_or,and_assoc] at h
 exact ⟨fun q hq=>h.1 q hq,fun q hq=>h.2 q hq⟩
theorem stepD_swap {nt:Nat} {ops:Array Oper} {base i j:Nat} {oi oj:Oper} {s s1 s2:St} {fi fj:Fp} (h1:stepD C L nt ops base i oi s=some (s1,fi)) (h2:stepD C L nt ops base j oj s1=some (s2,fj)) (hc:clash fi fj=false) (ha:oi.apart ops oj=true) :
  ∃ s1',stepD C L nt ops base j oj s=some (s1',fj)/\stepD C L nt ops base i oi s1'=some (s2,fi):=by
 obtain ⟨vi,ui,ri,rfl,pi,si⟩:=stepD_some h1
 obtain ⟨vj,uj,rj,rfl,pj,sj⟩:=stepD_some h2
 obtain ⟨c1,c2⟩:=not_clash hc
 simp only at c1 c2
 obtain ⟨a1,a2,a3⟩:=Oper.apart_spec ha
 obtain ⟨gi,ni,di,ki,li,ti⟩:=put_some pi
 obtain ⟨gj,nj,dj,kj,lj,tj⟩:=put_some pj
 simp only at gi ni di ki ti gj nj dj kj tj
 -- j, where i has not been
 have sj':StepIs C L ops (base+j) oj s vj uj rj:=by
  refine stepIs_congr sj (fun t ht=>?_) (fun q hq=>?_) (fun q hq=>?_) ki.symm
  ·rw [ti]
   cases hd:oi.dst with
   |none=>rfl
   |some d=>simp only [updO,upd];rw [if_neg (fun e:t=d=>a1 d hd (by rw [<-e];exact ht))]
  ·rw [gi]
   exact updL_same ui (fun e=>(c1 q e).1 hq)
  ·rw [gi,updL_out ui (fun e=>(c1 q e).2.1 hq) (c2 q hq).2]
 have pj':=put_of (s:={ s with G:=updL s.G uj }) (v:=vj) lj
 refine ⟨_,stepD_of sj' pj',?_⟩
 have si':StepIs C L ops (base+i) oi { { s with G:=updL s.G uj } with tmps:=updO s.tmps oj.dst vj } vi ui ri:=by
  refine stepIs_congr si (fun t ht=>?_) (fun q hq=>?_) (fun q hq=>?_) rfl
  ·cases hd:oj.dst with
   |none=>rfl
   |some d=>simp only [updO,upd];rw [if_neg (fun e:t=d=>a3 d hd (by rw [<-e];exact ht))]
  ·exact (updL_same uj (fun e=>(c2 q e).1 hq)).symm
  ·exact updL_out uj (c1 q hq).2.1 (c1 q hq).2.2
 refine stepD_of si' ?_
 rw [put_of li]
 congr 1
 cases s2
 simp only at gj nj dj kj tj
 simp only [St.mk.injEq]
 subst gj nj dj kj tj
 refine ⟨?_,?_,ni.symm,di.symm,ki.symm⟩
 ·rw [ti]
  cases hi:oi.dst with
  |none=>cases hj:oj.dst<;>rfl
  |some d=>
   cases hj:oj.dst with
   |none=>rfl
   |some e=>
    simp only [updO]
    have hne:d≠e:=fun x=>a2 d hi (x▸hj)
    funext t
    simp only [upd]
    by_cases h1:t=d<;>by_cases h2:t=e<;>simp_all
 ·rw [gi]
  exact (updL_comm (fun q hq=>(c1 q hq).2) (fun q hq=>⟨fun e=>(c1 q e).2.1 hq,(c2 q hq).2⟩) s.G).symm
end Go.Abs

/- The abstract interpreter: the orders that a region may draw. -/
namespace Go.Abs
variable {ops:Array Oper}
theorem edges_lt (h:edgesOK ops=true) {i:Nat} {o:Oper} (ho:ops[i]? = some o) {e:Edge} (he:e∈o.after) (hb:Region.binds .any e=true):e.on < i:=by
 unfold edgesOK at h
 have:=List.all_eq_true.1 h (o,i) (by rw [List.mem_zipIdx_iff_getElem?];simpa using ho)
 have:=Array.all_eq_true_iff_forall_mem.1 this e he
 simpa [hb] using this
/-! ### what comes before what -/
def bef (acc:Array Nat) (o:Oper):Nat:=o.after.foldl (fun s e=>if Region.binds .any e then s ||| 2 ^ e.on ||| acc.getD e.on 0 else s) 0
theorem befs_size:∀ (l:List Oper) (acc:Array Nat),(l.foldl (fun acc o=>acc.push (bef acc o)) acc).size=acc.size+l.length
 |[],acc=>rfl
 |o::l,acc=>by simp only [List.foldl_cons];rw [befs_size l];simp;omega
theorem befs_keep:∀ (l:List Oper) (acc:Array Nat) (k:Nat),k < acc.size->(l.foldl (fun acc o=>acc.push (bef acc o)) acc).getD k 0=acc.getD k 0
 |[],acc,k,h=>rfl
 |o::l,acc,k,h=>by
  simp only [List.foldl_cons]
  rw [befs_keep l _ k (by simp;omega)]
  simp [Array.getD_eq_getD_getElem?,Array.getElem?_push,Nat.ne_of_lt h]
theorem bef_bit {acc:Array Nat} {o:Oper} {j:Nat} (h:(bef acc o).testBit j=true):∃ e∈o.after,Region.binds .any e=true/\(e.on=j\/(acc.getD e.on 0).testBit j=true):=by
 unfold bef at h
 rw [<-Array.foldl_toList] at h
 have key:∀ (l:List Edge) (s:Nat),(l.foldl (fun s e=>if Region.binds .any e then s ||| 2 ^ e.on ||| acc.getD e.on 0 else s) s).testBit j=true->s.testBit j=true\/∃ e∈l,Region.binds .any e=true/\(e.on=j\/(acc.getD e.on 0).testBit j=true):=by
  intro l
  induction l with
  |nil=>intro s h;exact .inl h
  |cons e l ih=>
   intro s h
   simp only [List.foldl_cons] at h
   rcases ih _ h with h1|⟨e',he',h1⟩
   ·split at h1
    ·rename_i hb
     simp only [Nat.testBit_or,Bool.or_eq_true,Nat.testBit_two_pow,decide_eq_true_eq] at h1
     rcases h1 with (h1|h1)|h1
     ·exact .inl h1
     ·exact .inr ⟨e,by simp,hb, .inl h1⟩
     ·exact .inr ⟨e,by simp,hb, .inr h1⟩
    ·exact .inl h1
   ·exact .inr ⟨e',by simp [he'],h1⟩
 rcases key o.after.toList 0 h with h1|⟨e,he,h1⟩
 ·simp at h1
 ·exact ⟨e,by simpa using he,h1⟩
theorem before_at {i:Nat} {o:Oper} (ho:ops[i]? = some o):∃ acc:Array Nat,(Region.before ops).getD i 0=bef acc o/\∀ k j,(acc.getD k 0).testBit j=true->((Region.before ops).getD k 0).testBit j=true:=by
 have hb:Region.before ops=ops.toList.foldl (fun acc o=>acc.push (bef acc o)) #[]:=by
  unfold Region.before bef;rw [Array.foldl_toList]
 have hi:i < ops.toList.length:=by have:=(Array.getElem?_eq_some_iff.1 ho).1;simpa using this
 have hsplit:ops.toList=ops.toList.take i++o::ops.toList.drop (i+1):=by
  have e:ops.toList[i]=o:=by have:=(Array.getElem?_eq_some_iff.1 ho).2;simpa using this
  rw [<-e,List.getElem_cons_drop,List.take_append_drop]
 have hlen:(ops.toList.take i).length=i:=by rw [List.length_take];omega
 refine ⟨(ops.toList.take i).foldl (fun acc o=>acc.push (bef acc o)) #[],?_,fun k j h=>?_⟩
 ·rw [hb,hsplit,List.foldl_append,List.foldl_cons]
  have hs:=befs_size (ops.toList.take i) #[]
  rw [hlen] at hs
  simp only [List.size_toArray,List.length_nil,Nat.zero_add] at hs
  rw [befs_keep _ _ i (by simp [hs])]
  simp only [List.take_append_of_le_length (Nat.le_of_eq hlen.symm)]
  rw [List.take_of_length_le (Nat.le_of_eq hlen)]
  rw [Array.getD_eq_getD_getElem?,Array.getElem?_push,if_pos hs.symm]
  rfl
 ·have hs:=befs_size (ops.toList.take i) #[]
  by_cases hk:k < ((ops.toList.take i).foldl (fun acc o=>acc.push (bef acc o)) #[]).size
  ·rw [hb,hsplit,List.foldl_append,befs_keep _ _ k hk];exact h
  ·rw [Array.getD_eq_getD_getElem?,Array.getElem?_eq_none (by omega)] at h
   simp at h
/-! ### the orders -/
def Closed (ops:Array Oper) (listed:Array Bool):Prop:=∀ i,listed.getD i false=true->∀ j,((Region.before ops).getD i 0).testBit j=true->listed.getD j false=true
theorem ready_before {listed:Array Bool} (hc:Closed ops listed) {i:Nat} (hi:i∈Region.ready .any ops listed) {j:Nat} (h:ordered ops j i=true):listed.getD j false=true:=by
 obtain ⟨_,o,ho,hall⟩:=mem_ready.1 hi
 obtain ⟨acc,h1,h2⟩:=before_at ho
 unfold ordered at h
 rw [h1] at h
 obtain ⟨e,he,hb,hj⟩:=bef_bit h
 have hl:=hall e he hb
 rcases hj with rfl|hj
 ·exact hl
 ·exact hc _ hl j (h2 _ _ hj)
theorem countP_one {p p':Nat->Bool} {i:Nat} (hp:p i=true) (hp':p' i=false) (hne:∀ k,k≠i->p' k=p k):∀ n,i < n->(List.range n).countP p'+1=(List.range n).countP p:=by
 intro n
 induction n with
 |zero=>intro h;omega
 |succ n ih=>
  intro h
  rw [List.range_succ,List.countP_append,List.countP_append]
  by_cases hin:i=n
  ·subst hin
   have:(List.range i).countP p'=(List.range i).countP p:=List.countP_congr fun k hk=>by
    rw [hne k (by have:=List.mem_range.1 hk;omega)]
   simp [this,hp,hp']
  ·have:=ih (by omega)
   have e:p' n=p n:=hne n (fun e=>hin e.symm)
   simp only [List.countP_singleton,e]
   omega
theorem least {p:Nat->Bool}:∀ n,(∃ k,k < n/\p k=true)->∃ k,k < n/\p k=true/\∀ j,j < k->p j=false:=by
 intro n
 induction n with
 |zero=>intro ⟨k,h,_⟩;omega
 |succ n ih=>
  intro ⟨k,hk,hp⟩
  by_cases h:∃ k,k < n/\p k=true
  ·obtain ⟨k',h1,h2,h3⟩:=ih h;exact ⟨k',by omega,h2,h3⟩
  ·have hkn:k=n:=by
    rcases Nat.lt_or_ge k n with h1|h1
    ·exact absurd ⟨k,h1,hp⟩ h
    ·omega
   subst hkn
   refine ⟨k,hk,hp,fun j hj=>?_⟩
   cases e:p j with
   |false=>rfl
   |true=>exact absurd ⟨j,hj,e⟩ h
theorem set_getD {listed:Array Bool} {i j:Nat} (d:Bool) (hi:i < listed.size):(listed.setIfInBounds i true).getD j d=if j=i then true else listed.getD j d:=by
 rw [Array.getD_eq_getD_getElem?,Array.getD_eq_getD_getElem?,Array.getElem?_setIfInBounds]
 by_cases h:i=j
 ·subst h;simp [hi]
 ·simp [h,Ne.symm h]
theorem sched_go (he:edgesOK ops=true):∀ (fuel t:Nat) (listed:Array Bool),listed.size=ops.size->Closed ops listed->(List.range ops.size).countP (fun i => !listed.getD i true)=fuel ->
  (Region.linearise.go .any ops fuel t listed []).Nodup/\(∀ i,i∈Region.linearise.go .any ops fuel t listed []↔listed.getD i true=false)/\List.Pairwise (fun i j=>ordered ops j i=false) (Region.linearise.go .any ops fuel t listed []):=by
 intro fuel
 induction fuel with
 |zero=>
  intro t listed hs hc hn
  simp only [Region.linearise.go,List.reverse_nil]
  refine ⟨List.nodup_nil,fun i=>⟨fun h=>(by cases h),fun h=>?_⟩,List.Pairwise.nil⟩
  have hlt:i < ops.size:=by
   rcases Nat.lt_or_ge i ops.size with h1|h1
   ·exact h1
   ·rw [Array.getD_eq_getD_getElem?,Array.getElem?_eq_none (by omega)] at h;simp at h
  have:=List.countP_eq_zero.1 hn i (List.mem_range.2 hlt)
  rw [h] at this;simp at this
 |succ fuel ih=>
  intro t listed hs hc hn
  simp only [Region.linearise.go]
  change List.Nodup (match (Region.ready .any ops listed)[t % (Region.ready .any ops listed).length]? with
   |some i=>Region.linearise.go .any ops fuel (t / (Region.ready .any ops listed).length) (listed.setIfInBounds i true) [i]
   |none=>[].reverse)/\(∀ i,i∈(match (Region.ready .any ops listed)[t % (Region.ready .any ops listed).length]? with
   |some i=>Region.linearise.go .any ops fuel (t / (Region.ready .any ops listed).length) (listed.setIfInBounds i true) [i]
   |none=>[].reverse)↔listed.getD i true=false)/\List.Pairwise (fun i j=>ordered ops j i=false) (match (Region.ready .any ops listed)[t % (Region.ready .any ops listed).length]? with
   |some i=>Region.linearise.go .any ops fuel (t / (Region.ready .any ops listed).length) (listed.setIfInBounds i true) [i]
   |none=>[].reverse)
  -- something is ready
  obtain ⟨k0,hk0,hp0⟩:∃ k,k < ops.size/\(!listed.getD k true)=true:=by
   have hpos:0 < (List.range ops.size).countP (fun i => !listed.getD i true):=by omega
   obtain ⟨k,hk,hp⟩:=List.countP_pos_iff.1 hpos
   exact ⟨k,List.mem_range.1 hk,hp⟩
  obtain ⟨k,hk,hp,hmin⟩:=least (p:=fun k => !listed.getD k true) ops.size ⟨k0,hk0,hp0⟩
  have hkr:k∈Region.ready .any ops listed:=by
   refine mem_ready.2 ⟨by simpa using hp,ops[k],Array.getElem?_eq_getElem hk,fun e he' hb=>?_⟩
   have hlt:=edges_lt he (Array.getElem?_eq_getElem hk) he' hb
   have:=hmin _ hlt
   have h2:e.on < listed.size:=by omega
   simpa [Array.getD_eq_getD_getElem?,h2] using this
  have hpos:0 < (Region.ready .any ops listed).length:=List.length_pos_of_mem hkr
  have hlt:t % (Region.ready .any ops listed).length < (Region.ready .any ops listed).length:=Nat.mod_lt _ hpos
  rw [List.getElem?_eq_getElem hlt]
  simp only []
  generalize hi:(Region.ready .any ops listed)[t % (Region.ready .any ops listed).length]=i
  have hir:i∈Region.ready .any ops listed:=hi▸List.getElem_mem hlt
  obtain ⟨hun,o,ho,hall⟩:=mem_ready.1 hir
  have hio:i < listed.size:=by have:=(Array.getElem?_eq_some_iff.1 ho).1;omega
  have hc':Closed ops (listed.setIfInBounds i true):=by
   intro x hx j hj
   rw [set_getD _ hio] at hx ⊢
   by_cases hji:j=i
   ·rw [if_pos hji]
   ·rw [if_neg hji]
    by_cases hxi:x=i
    ·subst hxi
     exact ready_before hc hir hj
    ·rw [if_neg hxi] at hx
     exact hc x hx j hj
  have hcount:(List.range ops.size).countP (fun j => !(listed.setIfInBounds i true).getD j true)=fuel:=by
   have:=countP_one (p:=fun j => !listed.getD j true) (p':=fun j => !(listed.setIfInBounds i true).getD j true) (i:=i) (by simpa using hun) (by simp only [set_getD _ hio,if_true];rfl) (fun k hk=>by simp only [set_getD _ hio];rw [if_neg hk]) ops.size (by omega)
   omega
  obtain ⟨h1,h2,h3⟩:=ih (t / (Region.ready .any ops listed).length) (listed.setIfInBounds i true) (by simpa using hs) hc' hcount
  rw [linearise_go_acc,List.reverse_singleton,List.singleton_append]
  refine ⟨List.nodup_cons.2 ⟨fun hm=>?_,h1⟩,fun j=>?_,List.pairwise_cons.2 ⟨fun j hj=>?_,h3⟩⟩
  ·have:=(h2 i).1 hm
   rw [set_getD _ hio,if_pos rfl] at this;cases this
  ·rw [List.mem_cons,h2,set_getD _ hio]
   by_cases hji:j=i
   ·subst hji;simp [hun]
   ·simp [hji]
  ·cases hor:ordered ops j i with
   |false=>rfl
   |true=>
    have hl:=ready_before hc hir hor
    have hj':=(h2 j).1 hj
    rw [set_getD _ hio] at hj'
    split at hj'
    ·cases hj'
    ·rename_i hne
     rcases Nat.lt_or_ge j listed.size with h4|h4
     ·rw [Array.getD_eq_getD_getElem?] at hl hj';simp [h4] at hl hj';rw [hl] at hj';cases hj'
     ·rw [Array.getD_eq_getD_getElem?,Array.getElem?_eq_none h4] at hl;simp at hl
theorem sched_ok (he:edgesOK ops=true) (t:Nat) :
  (Region.schedule true ops t).Nodup/\(∀ i,i∈Region.schedule true ops t↔i < ops.size)/\List.Pairwise (fun i j=>ordered ops j i=false) (Region.schedule true ops t):=by
 have hg:∀ i,(Array.replicate ops.size false).getD i false=false:=fun i=>by
  rw [Array.getD_eq_getD_getElem?,Array.getElem?_replicate];split<;>rfl
 have h:=sched_go he ops.size t (Array.replicate ops.size false) (by simp) (fun i hi=>by rw [hg i] at hi;cases hi) (by
  rw [List.countP_eq_length.2 (fun i hi=>by
   have:=List.mem_range.1 hi
   simp [Array.getD_eq_getD_getElem?,this])]
  simp)
 simp only [Region.schedule,Bool.true_or,if_true,Region.linearise]
 refine ⟨h.1,fun i=>(h.2.1 i).trans ?_,h.2.2⟩
 rw [Array.getD_eq_getD_getElem?,Array.getElem?_replicate]
 by_cases hi:i < ops.size<;>simp [hi]
end Go.Abs

/- The abstract interpreter: operations that fail in a region that draws its order. -/
namespace Go.Abs
variable {G G':Nat->Obj} {C:Cfg} {L:Low} {id:Nat} {s s':St} {v:AV} {ups:List (Nat×U)}
theorem opA_pan {o:Op} {x:IV} {s1:St} (h:opA C L id s o=some (.pan x s1)) (hp:panOK C s o=true):s1=s:=by
 unfold opA at h
 cases o<;>simp only [panOK,Bool.false_eq_true] at hp
 case panic y=>simp only at h;split at h<;>cases h;rfl
 case call c=>
  obtain ⟨callee,args,ats⟩:=c
  cases callee with
  |value f=>
   simp only at h hp
   split at hp
   ·rename_i k cap hfn
    unfold aCall at h
    split at h
    ·rename_i q hq;rw [hq] at hfn;cases hfn
    ·rw [hfn] at h
     simp only at h
     unfold callA at h
     rw [if_neg (by simpa using hp)] at h
     (repeat' split at h)<;>first|(unfold give at h;(repeat' split at h)<;>cases h)|(cases h;done)|(cases h;rfl)
   ·cases hp
  |_=>simp at hp
theorem opA_congr_pan {o:Op} {x:IV} {s1:St} (h:opA C L id s o=some (.pan x s1)) (hp:panOK C s o=true) (hev:∀ y∈o.operands,ev s'.tmps y=ev s.tmps y) (hrd:Same s.G s'.G (readsOf s o)) :
  opA C L id s' o=some (.pan x s')/\panOK C s' o=true:=by
 unfold opA at h ⊢
 cases o<;>simp only [panOK,Bool.false_eq_true] at hp<;>simp only [Op.operands,Call.operands] at hev
 case panic y=>
  simp only at h ⊢
  rw [hev y (by simp)]
  split at h
  ·cases h;exact ⟨rfl,rfl⟩
  ·cases h
 case call c=>
  obtain ⟨callee,args,ats⟩:=c
  simp only at hev
  have eargs:args.toList.map (ev s'.tmps)=args.toList.map (ev s.tmps):=List.map_congr_left fun x hx=>hev x (by simp;right;simpa using hx)
  cases callee with
  |value f=>
   simp only at h hp ⊢
   have ef:=hev f (by simp)
   rw [eargs,ef]
   split at hp
   ·rename_i k cap hfn
    refine ⟨?_,by simp only [panOK,ef,hfn];exact hp⟩
    have hrd':Same s.G s'.G ((args.toList.map (ev s.tmps)++cap).flatMap (touch s.G pkDepth)):=hrd.mono fun q hq=>by simpa [readsOf,pureOp,hfn] using hq
    unfold aCall at h ⊢
    split at h
    ·rename_i q hq;rw [hq] at hfn;cases hfn
    ·rename_i hny
     rw [hfn] at h
     simp only at h
     have key:callA C L id s' k (args.toList.map (ev s.tmps)++cap)=some (.pan x s'):=by
      unfold callA at h ⊢
      have hb:¬ C.byref k=true:=by simpa using hp
      rw [if_neg hb] at h ⊢
      split at h
      ·cases h
      ·rename_i ivs ids hpk
       have:peeks s'.G (args.toList.map (ev s.tmps)++cap)=some (ivs,ids):=peekL_congr (fun x hx z hz=>peek_congr _ _ _ (hrd'.mono fun q hq=>List.mem_flatMap.2 ⟨x,hx,hq⟩) hz) hpk
       rw [this]
       dsimp only
       split at h
       ·unfold give at h;split at h<;>cases h
       ·cases h
       ·split at h
        ·split at h
         ·unfold give at h;split at h<;>cases h
         ·cases h
        ·split at h
         ·rename_i hsc;cases h;rw [if_pos hsc]
         ·cases h
        ·cases h
     simp only [hfn]
     exact key
   ·cases hp
  |_=>simp at hp
/-! ### changing places -/
variable {nt base i j:Nat} {ops:Array Oper} {o oi oj:Oper} {s1 s2:St} {fi fj f:Fp} {p pi pj:Option IV}
theorem stepX_none:stepX C L nt ops base i o s=some (s1,f,none)↔stepD C L nt ops base i o s=some (s1,f):=by
 unfold stepX stepD
 cases wantA ops s.tmps o with
 |none=>simp
 |some t=>
  cases t with
  |false=>
   simp only
   cases put nt s o.dst (.imm (.tup []))<;>simp
  |true=>
   simp only
   cases opA C L (base+i) s o.op with
   |none=>simp
   |some ef=>
    cases ef with
    |val v ups=>simp only;cases put nt { s with G:=updL s.G ups } o.dst v<;>simp
    |wr v s1=>simp
    |pan v s1=>simp only;split<;>simp
def PanIs (C:Cfg) (L:Low) (ops:Array Oper) (id:Nat) (o:Oper) (s:St) (x:IV) (rd:List Nat):Prop:=
 wantA ops s.tmps o=some true/\(∃ s1,opA C L id s o.op=some (.pan x s1))/\panOK C s o.op=true/\rd=readsOf s o.op
theorem stepX_pan {x:IV}:stepX C L nt ops base i o s=some (s1,f,some x)↔s1=s/\∃ rd,f=⟨i,rd,[],[]⟩/\PanIs C L ops (base+i) o s x rd:=by
 unfold stepX PanIs
 cases hw:wantA ops s.tmps o with
 |none=>simp
 |some t=>
  cases t with
  |false=>simp only;cases put nt s o.dst (.imm (.tup []))<;>simp
  |true=>
   simp only
   cases hop:opA C L (base+i) s o.op with
   |none=>simp
   |some ef=>
    cases ef with
    |val v ups=>simp only;cases put nt { s with G:=updL s.G ups } o.dst v<;>simp
    |wr v s1=>simp
    |pan v s3=>
     simp only
     by_cases hp:panOK C s o.op=true
     ·simp only [hp,if_true,Option.some.injEq,Prod.mk.injEq,Ef.pan.injEq]
      constructor
      ·rintro ⟨rfl,rfl,rfl⟩;exact ⟨rfl,_,rfl,trivial,⟨s3,rfl,rfl⟩,trivial,rfl⟩
      ·rintro ⟨rfl,rd,rfl,_,⟨s4,rfl,_⟩,_,rfl⟩;exact ⟨rfl,rfl,rfl⟩
     ·simp [hp]
theorem looks_ev (ht:∀ t∈o.looksAt ops,s'.tmps t=s.tmps t):(∀ x∈o.op.operands,ev s'.tmps x=ev s.tmps x)/\wantA ops s'.tmps o=wantA ops s.tmps o:=by
 refine ⟨fun x hx=>?_,?_⟩
 ·cases x with
  |tmp t=>exact ht t (List.mem_append_left _ (List.mem_filterMap.2 ⟨.tmp t,by simpa using hx,rfl⟩))
  |_=>rfl
 ·unfold wantA
  cases hg:o.guard with
  |none=>rfl
  |some p=>
   obtain ⟨j,want⟩:=p
   simp only
   cases hd:(ops[j]?).bind (·.dst) with
   |none=>rfl
   |some d=>
    simp only
    rw [ht d (List.mem_append_right _ (by simp [hg,hd]))]
theorem panIs_congr {x:IV} {rd:List Nat} (h:PanIs C L ops id o s x rd) (ht:∀ t∈o.looksAt ops,s'.tmps t=s.tmps t) (hrd:Same s.G s'.G rd):PanIs C L ops id o s' x rd:=by
 obtain ⟨h1,⟨s1,h2⟩,h3,rfl⟩:=h
 obtain ⟨hev,hw⟩:=looks_ev ht
 obtain ⟨h4,h5⟩:=opA_congr_pan h2 h3 hev hrd
 exact ⟨hw.trans h1,⟨s',h4⟩,h5,(readsOf_congr hev hrd).symm⟩
theorem stepX_swap (h1:stepX C L nt ops base i oi s=some (s1,fi,pi)) (h2:stepX C L nt ops base j oj s1=some (s2,fj,pj)) (hc:clash fi fj=false) (ha:oi.apart ops oj=true) :
  ∃ s1',stepX C L nt ops base j oj s=some (s1',fj,pj)/\stepX C L nt ops base i oi s1'=some (s2,fi,pi):=by
 obtain ⟨c1,c2⟩:=not_clash hc
 obtain ⟨a1,a2,a3⟩:=Oper.apart_spec ha
 have upd_out:∀ {t d:Nat} {f:Nat->AV} {v:AV},t≠d->upd f d v t=f t:=fun h=>by simp [upd,h]
 cases pi with
 |some x=>
  obtain ⟨rfl,rd,rfl,hp⟩:=stepX_pan.1 h1
  refine ⟨s2,h2,stepX_pan.2 ?_⟩
  cases pj with
  |some y=>
   obtain ⟨rfl,_⟩:=stepX_pan.1 h2
   exact ⟨rfl,rd,rfl,hp⟩
  |none=>
   -- j has a value: i panics behind it as well; but then the state is that behind j
   obtain ⟨vj,uj,rj,rfl,pj,sj⟩:=stepD_some (stepX_none.1 h2)
   obtain ⟨gj,nj,dj,kj,lj,tj⟩:=put_some pj
   simp only at gj nj dj kj tj c1 c2
   refine ⟨rfl,rd,rfl,panIs_congr hp (fun t ht=>?_) (fun q hq=>?_)⟩
   ·rw [tj]
    cases hd:oj.dst with
    |none=>rfl
    |some d=>exact upd_out (fun e=>a3 d hd (by rw [<-e];exact ht))
   ·rw [gj]
    exact (updL_same uj (fun e=>(c2 q e).1 hq)).symm
 |none=>
  cases pj with
  |none=>
   obtain ⟨s1',h3,h4⟩:=stepD_swap (stepX_none.1 h1) (stepX_none.1 h2) hc ha
   exact ⟨s1',stepX_none.2 h3,stepX_none.2 h4⟩
  |some y=>
   obtain ⟨rfl,rd,rfl,hp⟩:=stepX_pan.1 h2
   obtain ⟨vi,ui,ri,rfl,pi,si⟩:=stepD_some (stepX_none.1 h1)
   obtain ⟨gi,ni,di,ki,li,ti⟩:=put_some pi
   simp only at gi ni di ki ti c1 c2
   refine ⟨s,stepX_pan.2 ⟨rfl,rd,rfl,panIs_congr hp (fun t ht=>?_) (fun q hq=>?_)⟩,h1⟩
   ·rw [ti]
    cases hd:oi.dst with
    |none=>rfl
    |some d=>exact (upd_out (fun e=>a1 d hd (by rw [<-e];exact ht))).symm
   ·rw [gi]
    exact updL_same ui (fun e=>(c1 q e).1 hq)
end Go.Abs

/- The abstract interpreter: a region that draws its order. -/
namespace Go.Abs
variable {M M' M'':Mem} {ρ ρ' ρ'':Ref} {G G' G'':Nat->Obj} {w w' w'':World} {nx nx':Nat} {Q Q' Q'' Q0:Nat->Prop} {P:Program} {C:Cfg} {L:Low}
variable {nt:Nat} {b:Frame} {cs:List Frame} {k:List Item} {ops:Array Oper} {i:Nat} {rest:List Nat} {o:Oper} {id:Nat} {s s':St} {a:Act}
def Free (ops:Array Oper) (a b:Fp):Prop:=ordered ops a.i b.i=true\/(clash a b=false/\apartI ops a.i b.i=true)
theorem drawOK_pw:∀ (fs:List Fp),drawOK ops fs=true->fs.Pairwise (Free ops)
 |[],_ => .nil
 |f::fs,h=>by
  simp only [drawOK,Bool.and_eq_true] at h
  refine .cons (fun g hg=>?_) (drawOK_pw fs h.2)
  have key:∀ (l:List Fp),clearOf ops f l=true->∀ g∈l,Free ops f g:=by
   intro l
   induction l with
   |nil=>intro _ g hg;cases hg
   |cons x l ih=>
    intro h g hg
    simp only [clearOf,Bool.and_eq_true,Bool.or_eq_true,Bool.not_eq_true'] at h
    rcases List.mem_cons.1 hg with rfl|hg
    ·exact h.1
    ·exact ih h.2 g hg
  exact key fs h.1 g hg
theorem runD_cons {base:Nat} {l:List Nat} {fs:List Fp} (h:runD C L nt ops base (i::l) s=some (s',fs)) :
  ∃ o s1 f fs',ops[i]? = some o/\stepD C L nt ops base i o s=some (s1,f)/\runD C L nt ops base l s1=some (s',fs')/\fs=f::fs'/\f.i=i:=by
 simp only [runD] at h
 split at h
 ·cases h
 ·rename_i o ho
  split at h
  ·rename_i s1 f h1
   split at h
   ·rename_i s2 fs' h2
    cases h
    obtain ⟨v,ups,rd,e,_⟩:=stepD_some h1
    exact ⟨o,s1,f,fs',ho,h1,h2,rfl,by rw [e]⟩
   ·cases h
  ·cases h
theorem runD_of {base:Nat} {l:List Nat} {s1:St} {f:Fp} {fs:List Fp} (ho:ops[i]? = some o) (h1:stepD C L nt ops base i o s=some (s1,f)) (h2:runD C L nt ops base l s1=some (s',fs)):runD C L nt ops base (i::l) s=some (s',f::fs):=by
 simp only [runD,ho,h1,h2]
theorem runD_front {base x:Nat} {post:List Nat}:∀ (pre:List Nat) {s:St} {fs:List Fp},runD C L nt ops base (pre++x::post) s=some (s',fs)->fs.Pairwise (Free ops)->(∀ y∈pre,ordered ops y x=false) ->
  ∃ fx fs',runD C L nt ops base (x::(pre++post)) s=some (s',fx::fs')/\fx.i=x/\fs'.Pairwise (Free ops)/\(∀ f∈fs',f∈fs)/\fx∈fs
 |[],s,fs,h,hp,_=>by
  obtain ⟨o,s1,f,fs',ho,h1,h2,rfl,hf⟩:=runD_cons h
  exact ⟨f,fs',runD_of ho h1 h2,hf,(List.pairwise_cons.1 hp).2,fun g hg=>by simp [hg],by simp⟩
 |y::pre,s,fs,h,hp,hn=>by
  obtain ⟨oy,s1,fy,fs1,hoy,h1,h2,rfl,hfy⟩:=runD_cons h
  have hp':=List.pairwise_cons.1 hp
  obtain ⟨fx,fs2,h3,hfx,hp2,hsub,hin⟩:=runD_front pre h2 hp'.2 (fun z hz=>hn z (by simp [hz]))
  obtain ⟨ox,s2,f',fs3,hox,h4,h5,e,_⟩:=runD_cons h3
  cases e
  have hfree:=hp'.1 fx hin
  unfold Free at hfree
  rw [hfy,hfx,hn y (by simp)] at hfree
  simp only [Bool.false_eq_true,false_or] at hfree
  have hap:oy.apart ops ox=true:=by have:=hfree.2;unfold apartI at this;rw [hoy,hox] at this;exact this
  obtain ⟨s1',h6,h7⟩:=stepD_swap h1 h4 hfree.1 hap
  refine ⟨fx,fy::fs2,runD_of hox h6 (runD_of hoy h7 h5),hfx, .cons (fun g hg=>hp'.1 g (hsub g hg)) hp2,fun g hg=>?_,by simp [hin]⟩
  rcases List.mem_cons.1 hg with rfl|hg
  ·simp
  ·simp [hsub g hg]
theorem stepA_of_stepD {base:Nat} {s1:St} {f:Fp} (h:stepD C L nt ops base i o s=some (s1,f)):stepA C L nt ops (base+i) o s=some (.norm s1):=by
 obtain ⟨v,ups,rd,rfl,hp,hs⟩:=stepD_some h
 unfold stepA
 rcases hs with ⟨h1,h2,_⟩|⟨h1,rfl,rfl,_⟩
 ·simp only [h1,h2,hp]
 ·have hp:put nt s o.dst (.imm (.tup []))=some s1:=hp
  simp only [h1,hp]
theorem runT_ok (hC:CfgOK C) (hL:CallOK C.P L) (hR:RoundOK C.P L) {base:Nat}:∀ (t:List Nat) {l:List Nat} {s:St} {a:Act} {Q:Nat->Prop} {w:World} {M:Mem} {ρ:Ref} {fs:List Fp},runD C L nt ops base l s=some (s',fs)->fs.Pairwise (Free ops) ->
  t.Nodup->(∀ i,i∈t↔i∈l)->l.Nodup->t.Pairwise (fun i j=>ordered ops j i=false)->(∀ i∈t,i < ops.size/\ρ (base+i)=none)->base+ops.size<=s.nx->SR nt Q0 Q w M ρ s a->PkOK M b cs s.pk ->
  LineEnd C.P nt b cs (.inRegion ops rest::k) Q0 (fun o=>(∃ x∈t,o=base+x)\/base+ops.size<=o) Q w M ρ s.G s.nx (lone (b.atR a (.inRegion ops (t++rest)::k)) (csM s.pk cs) w) (.norm s')
 |[],l,s,a,Q,w,M,ρ,fs,h,hp,hnd,hm,hnl,hv,hi,hn,hS,hpk=>by
  have:l=[]:=List.eq_nil_iff_forall_not_mem.2 fun x hx=>by have:=(hm x).2 hx;cases this
  subst this
  cases h
  exact ⟨a,Q,w,M,ρ,⟨Tr.refl _ _ _ _ _ _,Nat.le_refl _,hS,hpk⟩,Steps.refl _ _⟩
 |x::t,l,s,a,Q,w,M,ρ,fs,h,hp,hnd,hm,hnl,hv,hi,hn,hS,hpk=>by
  obtain ⟨pre,post,rfl⟩:=List.append_of_mem ((hm x).1 (by simp))
  have hnd':=List.nodup_cons.1 hnd
  have hv':=List.pairwise_cons.1 hv
  have hxl:x∉pre++post:=by
   have:=List.nodup_append.1 hnl
   intro hh
   rcases List.mem_append.1 hh with h1|h1
   ·exact this.2.2 x h1 x (by simp) rfl
   ·exact (List.nodup_cons.1 this.2.1).1 h1
  have hnl':(pre++post).Nodup:=by
   have h1:=List.nodup_append.1 hnl
   refine List.nodup_append.2 ⟨h1.1,(List.nodup_cons.1 h1.2.1).2,fun u hu v hv=>h1.2.2 u hu v (by simp [hv])⟩
  have hmem:∀ j,j∈t↔j∈pre++post:=fun j=>by
   have h1:=hm j
   constructor
   ·intro hj
    have:=h1.1 (by simp [hj])
    rcases List.mem_append.1 this with h2|h2
    ·simp [h2]
    ·rcases List.mem_cons.1 h2 with h3|h3
     ·subst h3;exact absurd hj hnd'.1
     ·simp [h3]
   ·intro hj
    have:j∈x::t:=h1.2 (by rcases List.mem_append.1 hj with h2|h2<;>simp [h2])
    rcases List.mem_cons.1 this with h3|h3
    ·subst h3;exact absurd hj hxl
    ·exact h3
  obtain ⟨fx,fs',h1,hfx,hp',_,_⟩:=runD_front pre h hp (fun y hy=>hv'.1 y ((hmem y).2 (by simp [hy])))
  obtain ⟨o,s1,f,fs2,ho,h2,h3,e,_⟩:=runD_cons h1
  cases e
  have hix:=hi x (by simp)
  obtain ⟨a1,Q1,w1,M1,ρ1,g,st⟩:=stepA_ok (k:=k) (rest:=t++rest) hC hL hR (stepA_of_stepD h2) ho hS hpk hix.2 (by omega)
  have:=runT_ok hC hL hR t h3 hp' hnd'.2 hmem hnl' hv'.2 (fun j hj=>⟨(hi j (by simp [hj])).1,g.tr.born _ (fun e=>by
   rcases e with e|e
   ·have:j=x:=by omega
    subst this;exact hnd'.1 hj
   ·have:=(hi j (by simp [hj])).1;omega) (hi j (by simp [hj])).2⟩) (Nat.le_trans hn g.nx) g.sr g.pk
  exact LineEnd.after g.tr g.nx st this (fun o e=>by
   rcases e with e|e
   ·exact .inl ⟨x,by simp,e⟩
   ·exact .inr (by omega)) (fun o e=>by
   rcases e with ⟨y,hy,e⟩|e
   ·exact .inl ⟨y,by simp [hy],e⟩
   ·exact .inr e)
theorem runD_snoc {base:Nat}:∀ (l:List Nat) {s s1 s2:St} {fs:List Fp} {f:Fp} {o:Oper},runD C L nt ops base l s=some (s1,fs)->ops[i]? = some o->stepD C L nt ops base i o s1=some (s2,f)->runD C L nt ops base (l++[i]) s=some (s2,fs++[f])
 |[],s,s1,s2,fs,f,o,h,ho,h1=>by
  cases h
  exact runD_of ho h1 rfl
 |x::l,s,s1,s2,fs,f,o,h,ho,h1=>by
  obtain ⟨o',s3,g,fs',a1,a2,a3,rfl,_⟩:=runD_cons h
  exact runD_of a1 a2 (runD_snoc l a3 ho h1)
theorem pivot_before {i j:Nat} (h:pivot ops i=true) (hj:j < ops.size) (hlt:j < i):ordered ops j i=true:=by
 have:=List.all_eq_true.1 h j (List.mem_range.2 hj)
 rw [show Nat.blt j i=true by simpa [Nat.blt_eq] using hlt] at this
 exact this
theorem pivot_after {i j:Nat} (h:pivot ops i=true) (hj:j < ops.size) (hlt:i < j):ordered ops i j=true:=by
 have:=List.all_eq_true.1 h j (List.mem_range.2 hj)
 have e1:Nat.blt j i=false:=by
  rw [Bool.eq_false_iff,ne_eq,Nat.blt_eq];omega
 have e2:Nat.beq j i=false:=by
  rw [Bool.eq_false_iff,ne_eq,Nat.beq_eq];omega
 rw [e1,e2] at this
 exact this
theorem runP_ok (hC:CfgOK C) (hL:CallOK C.P L) (hR:RoundOK C.P L) {base:Nat}:∀ (r:List Nat) {pre t:List Nat} {s0 s:St} {a:Act} {Q:Nat->Prop} {w:World} {M:Mem} {ρ:Ref} {fs fs':List Fp},runD C L nt ops base pre s0=some (s,fs.reverse)->runP C L nt ops base r fs s=some (s',fs')->drawOK ops fs'.reverse=true ->
  t.Nodup->(∀ i,i∈t↔i∈pre++r)->(pre++r).Pairwise (· < ·)->t.Pairwise (fun i j=>ordered ops j i=false)->(∀ i∈t,i < ops.size/\ρ (base+i)=none)->base+ops.size<=s0.nx->SR nt Q0 Q w M ρ s0 a->PkOK M b cs s0.pk ->
  LineEnd C.P nt b cs k Q0 (base <= ·) Q w M ρ s0.G s0.nx (lone (b.atR a (.inRegion ops t::k)) (csM s0.pk cs) w) (.norm s')
 |[],pre,t,s0,s,a,Q,w,M,ρ,fs,fs',h0,h,hd,hnd,hm,hlt,hv,hi,hn,hS,hpk=>by
  cases h
  rw [List.append_nil] at hm hlt
  have:=runT_ok hC hL hR (k:=k) (rest:=[]) (cs:=cs) (b:=b) t h0 (drawOK_pw _ hd) hnd hm (hlt.imp Nat.ne_of_lt) hv hi hn hS hpk
  rw [List.append_nil] at this
  obtain ⟨a',Q',w',M',ρ',g,st⟩:=this
  exact ⟨a',Q',w',M',ρ',⟨g.tr.weak (fun o e=>by rcases e with ⟨x,_,e⟩|e<;>omega),g.nx,g.sr,g.pk⟩,st.trans (.one stepR_region_end)⟩
 |i::r,pre,t,s0,s,a,Q,w,M,ρ,fs,fs',h0,h,hd,hnd,hm,hlt,hv,hi,hn,hS,hpk=>by
  unfold runP at h
  split at h
  ·cases h
  rename_i o ho
  cases hst:stepP C L nt ops base i o s fs with
  |none=>rw [hst] at h;cases h
  |some y=>
   obtain ⟨s1,fs1⟩:=y
   rw [hst] at h
   simp only at h
   unfold stepP at hst
   cases hsd:stepD C L nt ops base i o s with
   |some z=>
    obtain ⟨s2,f⟩:=z
    rw [hsd] at hst
    cases hst
    have e:pre++i::r=(pre++[i])++r:=by simp
    rw [e] at hm hlt
    exact runP_ok hC hL hR r (by rw [List.reverse_cons];exact runD_snoc pre h0 ho hsd) h hd hnd hm hlt hv hi hn hS hpk
   |none=>
    rw [hsd] at hst
    simp only at hst
    split at hst
    rotate_left
    ·cases hst
    rename_i hk
    split at hst
    rotate_left
    ·cases hst
    rename_i s2 ha
    cases hst
    rw [Bool.and_eq_true] at hk
    obtain ⟨t1,t2,rfl⟩:=List.append_of_mem ((hm i).2 (by simp))
    have hltA:=List.pairwise_append.1 hlt
    have hltB:=List.pairwise_cons.1 hltA.2.1
    have hndA:=List.nodup_append.1 hnd
    have hndB:=List.nodup_cons.1 hndA.2.1
    have hvA:=List.pairwise_append.1 hv
    have hvB:=List.pairwise_cons.1 hvA.2.1
    have h1:∀ j,j∈t1↔j∈pre:=fun j=>by
     constructor
     ·intro hj
      rcases List.mem_append.1 ((hm j).1 (by simp [hj])) with h2|h2
      ·exact h2
      ·exfalso
       rcases List.mem_cons.1 h2 with rfl|h3
       ·exact hndA.2.2 j hj j (by simp) rfl
       ·have h4:=hvA.2.2 j hj i (by simp)
        rw [pivot_after hk.1 (hi j (by simp [hj])).1 (hltB.1 j h3)] at h4
        cases h4
     ·intro hj
      have hjt:=(hm j).2 (by simp [hj])
      rcases List.mem_append.1 hjt with h2|h2
      ·exact h2
      ·exfalso
       have hji:=hltA.2.2 j hj i (by simp)
       rcases List.mem_cons.1 h2 with rfl|h3
       ·omega
       ·have h4:=hvB.1 j h3
        rw [pivot_before hk.1 (hi j hjt).1 hji] at h4
        cases h4
    have h2:∀ j,j∈t2↔j∈[]++r:=fun j=>by
     rw [List.nil_append]
     constructor
     ·intro hj
      rcases List.mem_append.1 ((hm j).1 (by simp [hj])) with h3|h3
      ·exfalso
       exact hndA.2.2 j ((h1 j).2 h3) j (by simp [hj]) rfl
      ·rcases List.mem_cons.1 h3 with rfl|h4
       ·exact absurd hj hndB.1
       ·exact h4
     ·intro hj
      have hji:=hltB.1 j hj
      rcases List.mem_append.1 ((hm j).2 (by simp [hj])) with h3|h3
      ·exfalso
       have:=hltA.2.2 j ((h1 j).1 h3) j (by simp [hj])
       omega
      ·rcases List.mem_cons.1 h3 with rfl|h4
       ·omega
       ·exact h4
    obtain ⟨a1,Q1,w1,M1,ρ1,g1,st1⟩:=runT_ok hC hL hR (k:=k) (rest:=i::t2) (cs:=cs) (b:=b) t1 h0 (drawOK_pw _ hk.2) hndA.1 h1 (hltA.1.imp Nat.ne_of_lt) hvA.1 (fun j hj=>hi j (by simp [hj])) hn hS hpk
    have hfree:∀ j∈i::t2,ρ1 (base+j)=none:=fun j hj=>g1.tr.born _ (fun e=>by
     rcases e with ⟨x,hx,e⟩|e
     ·have:j=x:=by omega
      subst this;exact hndA.2.2 j hx j hj rfl
     ·have:=(hi j (by simp only [List.mem_append];exact .inr hj)).1;omega) (hi j (by simp only [List.mem_append];exact .inr hj)).2
    have hii:=(hi i (by simp)).1
    obtain ⟨a2,Q2,w2,M2,ρ2,g2,st2⟩:=stepA_ok (k:=k) (rest:=t2) hC hL hR ha ho g1.sr g1.pk (hfree i (by simp)) (by have:=g1.nx;omega)
    have h3:=runP_ok hC hL hR r (pre:=[]) (t:=t2) (s0:=s1) (s:=s1) (fs:=[]) rfl h hd hndB.2 h2 (by rw [List.nil_append];exact hltB.2) hvB.2 (fun j hj=>⟨(hi j (by simp [hj])).1,g2.tr.born _ (fun e=>by
     rcases e with e|e
     ·have:j=i:=by omega
      subst this;exact hndB.1 hj
     ·have:=(hi j (by simp [hj])).1;have:=g1.nx;omega) (hfree j (by simp [hj]))⟩) (by have:=g1.nx;have:=g2.nx;omega) g2.sr g2.pk
    have h4:=LineEnd.after g2.tr g2.nx st2 h3 (N:=(base <= ·)) (fun o e=>by
     have:=g1.nx
     rcases e with e|e
     ·show base<=o;omega
     ·show base<=o;omega) (fun _ h=>h)
    exact LineEnd.after g1.tr g1.nx st1 h4 (fun o e=>by
     rcases e with ⟨x,_,e⟩|e
     ·show base<=o;omega
     ·show base<=o;omega) (fun _ h=>h)
/-! ### where an operation fails -/
def runXL (C:Cfg) (L:Low) (nt:Nat) (ops:Array Oper) (base:Nat):List Nat->St->Option (List (Fp×Option IV))
 |[],_=>some []
 |i::r,s=>match ops[i]? with
  |none=>none
  |some o=>match stepX C L nt ops base i o s with
   |some (s1,f,p)=>match runXL C L nt ops base r s1 with
    |some es=>some ((f,p)::es)
    |none=>none
   |none=>none
theorem stepX_i {base:Nat} {s1:St} {f:Fp} {p:Option IV} (h:stepX C L nt ops base i o s=some (s1,f,p)):f.i=i:=by
 cases p with
 |none=>obtain ⟨v,ups,rd,e,_⟩:=stepD_some (stepX_none.1 h);rw [e]
 |some x=>obtain ⟨_,rd,e,_⟩:=stepX_pan.1 h;rw [e]
theorem runX_list {base:Nat}:∀ (l ps:List Nat) {s:St} {es:List (Fp×Option IV)},runX C L nt ops base l ps s=some es ->
  ∃ l',runXL C L nt ops base l' s=some es/\l'.Sublist l/\∀ d∈l,d∉l'->∃ p,(p∈ps\/∃ e∈es,e.1.i=p/\e.2.isSome=true)/\ordered ops p d=true
 |[],ps,s,es,h=>by cases h;exact ⟨[],rfl, .slnil,fun d hd=>by cases hd⟩
 |i::r,ps,s,es,h=>by
  simp only [runX] at h
  split at h
  ·rename_i hp
   obtain ⟨l',h1,h2,h3⟩:=runX_list r ps h
   refine ⟨l',h1, .cons _ h2,fun d hd hn=>?_⟩
   rcases List.mem_cons.1 hd with rfl|hd
   ·obtain ⟨p,hp1,hp2⟩:=List.any_eq_true.1 hp
    exact ⟨p, .inl hp1,hp2⟩
   ·exact h3 d hd hn
  ·split at h
   ·cases h
   ·rename_i o ho
    split at h
    ·rename_i s1 f h1
     split at h
     ·rename_i es' h2
      cases h
      obtain ⟨l',h3,h4,h5⟩:=runX_list r ps h2
      refine ⟨i::l',by simp only [runXL,ho,h1,h3], .cons_cons _ h4,fun d hd hn=>?_⟩
      rcases List.mem_cons.1 hd with rfl|hd
      ·exact absurd (by simp) hn
      ·obtain ⟨p,hp,hd'⟩:=h5 d hd (fun e=>hn (by simp [e]))
       exact ⟨p,hp.imp (fun h=>h) (fun ⟨e,he,h⟩=>⟨e,by simp [he],h⟩),hd'⟩
     ·cases h
    ·rename_i s1 f v h1
     split at h
     ·rename_i es' h2
      cases h
      obtain ⟨l',h3,h4,h5⟩:=runX_list r (i::ps) h2
      refine ⟨i::l',by simp only [runXL,ho,h1,h3], .cons_cons _ h4,fun d hd hn=>?_⟩
      rcases List.mem_cons.1 hd with rfl|hd
      ·exact absurd (by simp) hn
      ·obtain ⟨p,hp,hd'⟩:=h5 d hd (fun e=>hn (by simp [e]))
       refine ⟨p,?_,hd'⟩
       rcases hp with hp|⟨e,he,h⟩
       ·rcases List.mem_cons.1 hp with rfl|hp
        ·exact .inr ⟨(f,some v),by simp,stepX_i h1,rfl⟩
        ·exact .inl hp
       ·exact .inr ⟨e,by simp [he],h⟩
     ·cases h
    ·cases h
theorem runXL_cons {base:Nat} {l:List Nat} {es:List (Fp×Option IV)} (h:runXL C L nt ops base (i::l) s=some es) :
  ∃ o s1 f p es',ops[i]? = some o/\stepX C L nt ops base i o s=some (s1,f,p)/\runXL C L nt ops base l s1=some es'/\es=(f,p)::es'/\f.i=i:=by
 simp only [runXL] at h
 split at h
 ·cases h
 ·rename_i o ho
  split at h
  ·rename_i s1 f p h1
   split at h
   ·rename_i es' h2;cases h;exact ⟨o,s1,f,p,es',ho,h1,h2,rfl,stepX_i h1⟩
   ·cases h
  ·cases h
theorem runXL_i {base:Nat}:∀ (l:List Nat) {s:St} {es:List (Fp×Option IV)},runXL C L nt ops base l s=some es->es.map (·.1.i)=l
 |[],s,es,h=>by cases h;rfl
 |i::l,s,es,h=>by
  obtain ⟨o,s1,f,p,es',ho,h1,h2,rfl,hf⟩:=runXL_cons h
  simp only [List.map_cons,hf,runXL_i l h2]
theorem runXL_of {base:Nat} {l:List Nat} {s1:St} {f:Fp} {p:Option IV} {es:List (Fp×Option IV)} (ho:ops[i]? = some o) (h1:stepX C L nt ops base i o s=some (s1,f,p)) (h2:runXL C L nt ops base l s1=some es) :
  runXL C L nt ops base (i::l) s=some ((f,p)::es):=by
 simp only [runXL,ho,h1,h2]
theorem runXL_front {base x:Nat} {post:List Nat}:∀ (pre:List Nat) {s:St} {es:List (Fp×Option IV)},runXL C L nt ops base (pre++x::post) s=some es->(es.map (·.1)).Pairwise (Free ops)->(∀ y∈pre,ordered ops y x=false) ->
  ∃ ex es',runXL C L nt ops base (x::(pre++post)) s=some (ex::es')/\ex.1.i=x/\(es'.map (·.1)).Pairwise (Free ops)/\(∀ e∈es',e∈es)/\ex∈es/\(∀ e∈es,e=ex\/e∈es')
 |[],s,es,h,hp,_=>by
  obtain ⟨o,s1,f,p,es',ho,h1,h2,rfl,hf⟩:=runXL_cons h
  exact ⟨(f,p),es',runXL_of ho h1 h2,hf,(List.pairwise_cons.1 hp).2,fun g hg=>by simp [hg],by simp,fun e he=>by simpa using he⟩
 |y::pre,s,es,h,hp,hn=>by
  obtain ⟨oy,s1,fy,py,es1,hoy,h1,h2,rfl,hfy⟩:=runXL_cons h
  have hp':=List.pairwise_cons.1 hp
  obtain ⟨ex,es2,h3,hex,hp2,hsub,hin,hall⟩:=runXL_front pre h2 hp'.2 (fun z hz=>hn z (by simp [hz]))
  obtain ⟨ox,s2,fx,px,es3,hox,h4,h5,e,_⟩:=runXL_cons h3
  cases e
  have hfree:=hp'.1 fx (List.mem_map.2 ⟨_,hin,rfl⟩)
  unfold Free at hfree
  simp only at hex
  rw [hfy,hex,hn y (by simp)] at hfree
  simp only [Bool.false_eq_true,false_or] at hfree
  have hap:oy.apart ops ox=true:=by have:=hfree.2;unfold apartI at this;rw [hoy,hox] at this;exact this
  obtain ⟨s1',h6,h7⟩:=stepX_swap h1 h4 hfree.1 hap
  refine ⟨(fx,px),(fy,py)::es2,runXL_of hox h6 (runXL_of hoy h7 h5),hex,?_,fun g hg=>?_,by simp [hin],fun e he=>?_⟩
  ·rw [List.map_cons]
   refine .cons (fun g hg=>?_) hp2
   obtain ⟨e,he,rfl⟩:=List.mem_map.1 hg
   exact hp'.1 _ (List.mem_map.2 ⟨e,hsub e he,rfl⟩)
  ·rcases List.mem_cons.1 hg with rfl|hg
   ·simp
   ·simp [hsub g hg]
  ·rcases List.mem_cons.1 he with rfl|he
   ·simp
   ·rcases hall e he with h|h
    ·exact .inl h
    ·exact .inr (by simp [h])
structure Part (ops:Array Oper) (base:Nat) (es:List (Fp×Option IV)) (s s':St):Prop where
 defers:s'.defers=s.defers
 pk:s'.pk=s.pk
 nx:s'.nx=s.nx
 G:∀ q,q < base->s'.G q=s.G q\/(q∈fzAll es/\s'.G q=(s.G q).freeze)
 tmps:∀ t,s'.tmps t=s.tmps t\/∃ o∈ops.toList,o.dst=some t
theorem Part.refl (base:Nat) (es:List (Fp×Option IV)) (s:St):Part ops base es s s:=⟨rfl,rfl,rfl,fun _ _ => .inl rfl,fun _ => .inl rfl⟩
theorem Part.step {base:Nat} {es es':List (Fp×Option IV)} {s1 s2:St} {f:Fp} (ho:ops[i]? = some o) (h:stepD C L nt ops base i o s=some (s1,f)) (hf:(f,none)∈es) (hw:∀ q∈f.wr,base<=q) (hs:∀ e∈es',e∈es) (k:Part ops base es' s1 s2):Part ops base es s s2:=by
 obtain ⟨v,ups,rd,rfl,hp,_⟩:=stepD_some h
 obtain ⟨g1,n1,d1,k1,_,t1⟩:=put_some hp
 simp only at g1 n1 d1 k1 t1 hw
 have hsub:∀ q,q∈fzAll es'->q∈fzAll es:=fun q hq=>by
  obtain ⟨e,he,hq⟩:=List.mem_flatMap.1 hq
  exact List.mem_flatMap.2 ⟨e,hs e he,hq⟩
 refine ⟨k.defers.trans d1,k.pk.trans k1,k.nx.trans n1,fun q hq=>?_,fun t=>?_⟩
 ·have hnw:q∉wrOf ups:=fun e=>by have:=hw q e;omega
  have h1:s1.G q=s.G q\/(q∈fzAll es/\s1.G q=(s.G q).freeze):=by
   rw [g1]
   by_cases hz:q∈fzOf ups
   ·exact .inr ⟨List.mem_flatMap.2 ⟨_,hf,hz⟩,updL_frzd ups hnw hz⟩
   ·exact .inl (updL_out ups hnw hz)
  rcases k.G q hq with h2|⟨h2,h3⟩
  ·rw [h2];exact h1
  ·right
   refine ⟨hsub q h2,?_⟩
   rcases h1 with h1|⟨_,h1⟩
   ·rw [h3,h1]
   ·rw [h3,h1,freeze_freeze]
 ·rcases k.tmps t with h2|h2
  ·rw [h2,t1]
   cases hd:o.dst with
   |none=>exact .inl rfl
   |some d=>
    by_cases htd:t=d
    ·subst htd;exact .inr ⟨o,by rw [Array.mem_toList_iff];exact Array.mem_of_getElem? ho,hd⟩
    ·left;simp [updO,upd,htd]
  ·exact .inr h2
theorem failT_ok (hC:CfgOK C) (hL:CallOK C.P L) (hR:RoundOK C.P L) {base:Nat}:∀ (t:List Nat) {l:List Nat} {s:St} {a:Act} {Q:Nat->Prop} {w:World} {M:Mem} {ρ:Ref} {es:List (Fp×Option IV)},runXL C L nt ops base l s=some es->(es.map (·.1)).Pairwise (Free ops) ->
  t.Nodup->(∀ i∈l,i∈t)->l.Nodup->(∀ d∈t,d∉l->∃ e∈es,e.2.isSome=true/\ordered ops e.1.i d=true)->(∀ e∈es,e.1.i∈l)->t.Pairwise (fun i j=>ordered ops j i=false)->(∀ i∈t,i < ops.size/\ρ (base+i)=none)->base+ops.size<=s.nx ->
  SR nt Q0 Q w M ρ s a->PkOK M b cs s.pk->(∃ e∈es,e.2.isSome=true)->(∀ e∈es,∀ q∈e.1.wr,base<=q) ->
  ∃ e∈es,∃ v sK a' Q' w' M' ρ' todo x,e.2=some v/\Part ops base es s sK/\Goes nt b cs Q0 (base <= ·) Q w M ρ s.G s.nx sK a' Q' w' M' ρ'/\VI M' v x /\
   Steps C.P (lone (b.atR a (.inRegion ops t::k)) (csM s.pk cs) w) (lone { b.atR a' todo with mode := .panicking [{ v:=x,recovered:=false }] } (csM sK.pk cs) w')
 |[],l,s,a,Q,w,M,ρ,es,h,hp,hnd,hm,hnl,hD,hil,hv,hi,hn,hS,hpk,⟨e,he,hes⟩,hw=>by
  have:=hm _ (hil e he);cases this
 |x::t,l,s,a,Q,w,M,ρ,es,h,hp,hnd,hm,hnl,hD,hil,hv,hi,hn,hS,hpk,hes,hw=>by
  have hnd':=List.nodup_cons.1 hnd
  have hv':=List.pairwise_cons.1 hv
  have hxl:x∈l:=by
   by_cases hx:x∈l
   ·exact hx
   ·exfalso
    obtain ⟨e,he,_,ho⟩:=hD x (by simp) hx
    have hel:=hil e he
    have:e.1.i∈x::t:=hm _ hel
    rcases List.mem_cons.1 this with h1|h1
    ·exact hx (h1▸hel)
    ·rw [hv'.1 _ h1] at ho;cases ho
  obtain ⟨pre,post,rfl⟩:=List.append_of_mem hxl
  have hnl2:=List.nodup_append.1 hnl
  have hxn:x∉pre++post:=by
   intro hh
   rcases List.mem_append.1 hh with h1|h1
   ·exact hnl2.2.2 x h1 x (by simp) rfl
   ·exact (List.nodup_cons.1 hnl2.2.1).1 h1
  have hnl':(pre++post).Nodup:=List.nodup_append.2 ⟨hnl2.1,(List.nodup_cons.1 hnl2.2.1).2,fun u hu v hv=>hnl2.2.2 u hu v (by simp [hv])⟩
  have hmt:∀ j∈pre++post,j∈t:=fun j hj=>by
   have:j∈x::t:=hm j (by rcases List.mem_append.1 hj with h2|h2<;>simp [h2])
   rcases List.mem_cons.1 this with h3|h3
   ·subst h3;exact absurd hj hxn
   ·exact h3
  obtain ⟨ex,es',h1,hex,hp',hsub,hin,hall⟩:=runXL_front pre h hp (fun y hy=>hv'.1 y (hmt y (by simp [hy])))
  obtain ⟨o,s1,f,p,es2,ho,h2,h3,e,hfi⟩:=runXL_cons h1
  cases e
  have hix:=hi x (by simp)
  cases p with
  |some v=>
   obtain ⟨e1,rd,rfl,hpan⟩:=stepX_pan.1 h2
   subst e1
   obtain ⟨hw1,⟨s3,hop⟩,hpo,_⟩:=hpan
   have e3:=opA_pan hop hpo
   rw [e3] at hop
   have hA:stepA C L nt ops (base+x) o s1=some (.pan v s1):=by unfold stepA;simp only [hw1,hop]
   obtain ⟨a',Q',w',M',ρ',todo,y,g,hy,st⟩:=stepA_ok (k:=k) (rest:=t) hC hL hR hA ho hS hpk hix.2 (by omega)
   exact ⟨_,hin,v,s1,a',Q',w',M',ρ',todo,y,rfl, .refl _ _ _,⟨g.tr.weak (fun o e=>by rcases e with e|e<;>omega),g.nx,g.sr,g.pk⟩,hy,st⟩
  |none=>
   have hd:=stepX_none.1 h2
   obtain ⟨a1,Q1,w1,M1,ρ1,g,st⟩:=stepA_ok (k:=k) (rest:=t) hC hL hR (stepA_of_stepD hd) ho hS hpk hix.2 (by omega)
   have hi2:∀ e∈es',e.1.i∈pre++post:=fun e he=>by
    rw [<-runXL_i _ h3]
    exact List.mem_map.2 ⟨e,he,rfl⟩
   obtain ⟨e,he,v,sK,a',Q',w',M',ρ',todo,y,hev,hpart,gK,hy,stK⟩:=failT_ok hC hL hR t h3 hp' hnd'.2 hmt hnl' (fun d hdt hdl=>by
     obtain ⟨e,he,h4,h5⟩:=hD d (by simp [hdt]) (fun hh=>by
      rcases List.mem_append.1 hh with h6|h6
      ·exact hdl (by simp [h6])
      ·rcases List.mem_cons.1 h6 with h7|h7
       ·exact hnd'.1 (h7▸hdt)
       ·exact hdl (by simp [h7]))
     rcases hall e he with rfl|h6
     ·cases h4
     ·exact ⟨e,h6,h4,h5⟩) hi2 hv'.2 (fun j hj=>⟨(hi j (by simp [hj])).1,g.tr.born _ (fun e=>by
     rcases e with e|e
     ·have:j=x:=by omega
      subst this;exact hnd'.1 hj
     ·have:=(hi j (by simp [hj])).1;omega) (hi j (by simp [hj])).2⟩) (Nat.le_trans hn g.nx) g.sr g.pk (by
     obtain ⟨e,he,h4⟩:=hes
     rcases hall e he with rfl|h6
     ·cases h4
     ·exact ⟨e,h6,h4⟩) (fun e he=>hw e (hsub e he))
   exact ⟨e,hsub e he,v,sK,a',Q',w',M',ρ',todo,y,hev,hpart.step ho hd hin (hw _ hin) hsub,Goes.after g.tr g.nx gK (fun o e=>by rcases e with e|e<;>omega) (fun _ h=>h),hy,st.trans stK⟩
theorem Inv.thin (h:Inv Q w M ρ G nx) (hG:∀ q,G' q=G q\/G' q = .gone):Inv Q w M ρ G' nx/\Ev M ρ G M ρ G':=by
 have hv:Ev M ρ G M ρ G':=⟨Mem.le_refl M,fun _ _ h => .inl h,fun o _ et sz xs fr e=>by
  rcases hG o with h1|h1
  ·exact ⟨xs,fr,h1▸e,Nat.le_refl _,fun _=>rfl⟩
  ·rw [h1] at e;cases e⟩
 have hl:∀ o,(G' o).live=true->G' o=G o:=fun o ho=>by
  rcases hG o with h1|h1
  ·exact h1
  ·rw [h1] at ho;simp [Obj.live] at ho
 refine ⟨⟨h.mem,fun o=>?_,h.free,fun o ho=>?_,fun o o' v v' b h1 h2=>?_,fun o v b h1 h2=>?_,h.new⟩,hv⟩
 ·rcases hG o with h1|h1
  ·exact (h.obj o).mono h1 rfl hv (fun _ _ _ _=>rfl)
  ·unfold ObjOK;rw [h1];trivial
 ·rcases hG o with h1|h1
  ·rw [h1];exact h.gone o ho
  ·exact h1
 ·exact h.sep o o' v v' b (hl o h1▸h1) (hl o' h2▸h2)
 ·exact h.own o v b (hl o h1▸h1) (hl o h1▸h2)
theorem freeze_data {x:Obj} (h:x.data=false):x.freeze=x:=by cases x<;>first|rfl|simp [Obj.data] at h
theorem poison_ok {es:List (Fp×Option IV)} {sK:St} {a':Act} (hS:SR nt Q0 Q w M ρ s a) (hp:Part ops s.nx es { s with nx:=s.nx+ops.size } sK) {n0:Nat} (g:Goes nt b cs Q0 (s.nx <= ·) Q w M ρ s.G n0 sK a' Q' w' M' ρ') :
  ∃ M'',M'.le M''/\Goes nt b cs Q0 (s.nx <= ·) Q w M ρ s.G s.nx (poison ops es s) a' Q' w' M'' ρ':=by
 let ids:=(fzAll es).filter fun q=>(sK.G q).data
 have hids:∀ o∈ids,(sK.G o).data=true:=fun o ho=>(List.mem_filter.1 ho).2
 have h1:=g.sr.inv.frz hids
 have e1:=Ev.frz w' M' ρ' sK.G ids
 have hG:∀ q,(poison ops es s).G q=updL sK.G (frz ids) q\/(poison ops es s).G q = .gone:=by
  intro q
  simp only [poison,List.contains_iff_mem]
  rcases Nat.lt_or_ge q s.nx with hq|hq
  ·left
   rw [updL_frz]
   have hpq:=hp.G q hq
   simp only at hpq
   by_cases hz:q∈fzAll es
   ·rw [if_pos hz]
    by_cases hd:(sK.G q).data=true
    ·rw [if_pos (show q∈ids from List.mem_filter.2 ⟨hz,hd⟩)]
     rcases hpq with h2|⟨_,h2⟩
     ·rw [h2]
     ·rw [h2,freeze_freeze]
    ·rw [if_neg (fun e:q∈ids=>hd (List.mem_filter.1 e).2)]
     rcases hpq with h2|⟨_,h2⟩
     ·rw [h2] at hd ⊢;exact freeze_data (by simpa using hd)
     ·exact h2.symm
   ·rw [if_neg hz,if_neg (fun e:q∈ids=>hz (List.mem_filter.1 e).1)]
    rcases hpq with h2|⟨h2,_⟩
    ·exact h2.symm
    ·exact absurd h2 hz
  ·right
   have hgone:=hS.inv.gone q (hS.inv.free q hq)
   rw [hgone]
   split<;>rfl
 obtain ⟨h2,e2⟩:=h1.thin hG
 have t2:Tr (fun _=>False) Q' w' M' ρ' sK.G Q' w' (memOf w' M' ρ' ids) ρ' (poison ops es s).G:=⟨fun _ h=>h,e1.trans e2,WS.refl _ _,MQ.memOf g.sr.inv hids,fun _ _ h=>h⟩
 refine ⟨_,t2.ev.mem,g.tr.trans t2 (fun _ h=>h) (fun _ h=>h.elim),by simp [poison],⟨?_,fun t=>?_,g.sr.size,g.sr.sub,?_⟩,?_⟩
 ·have hn:sK.nx=s.nx+ops.size:=hp.nx
  rw [hn] at h2
  exact h2
 ·simp only [poison]
  split
  ·exact .undef _
  ·rename_i hno
   rcases hp.tmps t with h3|⟨o,ho,hd⟩
   ·have:=(g.sr.tmps t).mono t2.ev
    rw [h3] at this
    exact this
   ·exact absurd (List.any_eq_true.2 ⟨o,ho,by simp [hd]⟩) hno
 ·have hd:=g.sr.dfr.mono t2
  rw [hp.defers] at hd
  exact hd
 ·have:=g.pk.mono t2.ev.mem
  rw [hp.pk] at this
  exact this
theorem alike_eq {x y:IV} (h:IV.alike x y=true):x=y:=by
 unfold IV.alike at h
 split at h
 ·simp only [decide_eq_true_eq] at h;rw [h]
 ·cases h
theorem drawn_ok (hC:CfgOK C) (hL:CallOK C.P L) (hR:RoundOK C.P L) {out:Out} (h:regionA C L nt ops true s=some out) (hS:SR nt Q0 Q w M ρ s a) (hpk:PkOK M b cs s.pk) :
  LineEnd C.P nt b cs k Q0 (s.nx <= ·) Q w M ρ s.G s.nx (lone (b.atR a (.code (.region id ops true)::k)) (csM s.pk cs) w) out:=by
 unfold regionA at h
 simp only [if_true] at h
 split at h
 ·rename_i s1 fs hrun
  split at h
  ·rename_i hd
   cases h
   simp only [Bool.and_eq_true] at hd
   have hws:Tr (fun o=>s.nx<=o) Q w M ρ s.G Q { w with drawn:=w.drawn+1 } M ρ s.G:=⟨fun _ h=>h,Ev.refl _ _ _,⟨rfl,rfl,rfl,Nat.le_refl _,fun _ _=>rfl⟩,MQ.refl _ _,fun _ _ h=>h⟩
   have hI':Inv Q { w with drawn:=w.drawn+1 } M ρ s.G s.nx:=hS.inv.world (fun _ _=>rfl) (Nat.le_refl _)
   have hS':SR nt Q0 Q { w with drawn:=w.drawn+1 } M ρ { s with nx:=s.nx+ops.size } a:=⟨hI'.later (by simp),hS.tmps,hS.size,hS.sub,hS.dfr.mono hws⟩
   obtain ⟨h1,h2,h3⟩:=sched_ok hd.2 (w.tape w.drawn (.order b.fn id))
   have:=runP_ok hC hL hR (k:=k) (cs:=cs) (b:=b) (pre:=[]) (t:=Region.schedule true ops (w.tape w.drawn (.order b.fn id))) _ rfl hrun hd.1 h1 (fun i=>(h2 i).trans (by simp)) (by rw [List.nil_append];exact List.pairwise_lt_range) h3 (fun i hi=>⟨(h2 i).1 hi,hS.inv.free _ (by omega)⟩) (Nat.le_refl _) hS' hpk
   have hst:=stepR_region_draw (P:=C.P) (b:=b) (a:=a) (k:=k) (cs:=csM s.pk cs) (w:=w) (ops:=ops) (id:=id)
   rw [hC.mixed] at hst
   exact LineEnd.after hws (by simp) (.one hst) this (fun _ h=>h) (fun _ h=>h)
  ·cases h
 ·unfold failA at h
  split at h
  rotate_left
  ·cases h
  rename_i es hrun
  split at h
  rotate_left
  ·cases h
  rename_i v r hpans
  split at h
  rotate_left
  ·cases h
  rename_i hd
  cases h
  simp only [Bool.and_eq_true] at hd
  obtain ⟨⟨⟨hal,hdr⟩,hed⟩,hwr⟩:=hd
  have hws:Tr (fun o=>s.nx<=o) Q w M ρ s.G Q { w with drawn:=w.drawn+1 } M ρ s.G:=⟨fun _ h=>h,Ev.refl _ _ _,⟨rfl,rfl,rfl,Nat.le_refl _,fun _ _=>rfl⟩,MQ.refl _ _,fun _ _ h=>h⟩
  have hI':Inv Q { w with drawn:=w.drawn+1 } M ρ s.G s.nx:=hS.inv.world (fun _ _=>rfl) (Nat.le_refl _)
  have hS0:SR nt Q0 Q { w with drawn:=w.drawn+1 } M ρ s a:=⟨hI',hS.tmps,hS.size,hS.sub,hS.dfr.mono hws⟩
  have hS':SR nt Q0 Q { w with drawn:=w.drawn+1 } M ρ { s with nx:=s.nx+ops.size } a:=⟨hI'.later (by simp),hS.tmps,hS.size,hS.sub,hS.dfr.mono hws⟩
  obtain ⟨h1,h2,h3⟩:=sched_ok hed (w.tape w.drawn (.order b.fn id))
  obtain ⟨l',hl1,hl2,hl3⟩:=runX_list _ _ hrun
  have hil:=runXL_i _ hl1
  have hin:∀ e∈es,e.1.i∈l':=fun e he=>by rw [<-hil];exact List.mem_map.2 ⟨e,he,rfl⟩
  have hsome:∃ e∈es,e.2.isSome=true:=by
   have:v∈es.filterMap (·.2):=by rw [hpans];simp
   obtain ⟨e,he,hv⟩:=List.mem_filterMap.1 this
   exact ⟨e,he,by rw [hv];rfl⟩
  obtain ⟨e,he,v',sK,a',Q',w',M',ρ',todo,x,hev,hpart,g,hx,st⟩:=failT_ok hC hL hR (k:=k) (cs:=cs) (b:=b) (Region.schedule true ops (w.tape w.drawn (.order b.fn id))) hl1 (drawOK_pw _ hdr) h1 (fun i hi=>(h2 i).2 (by
    have:=hl2.subset hi;simpa using this)) (hl2.nodup List.nodup_range) (fun d hd hn=>by
    obtain ⟨p,hp,ho⟩:=hl3 d (by have:=(h2 d).1 hd;simpa using this) hn
    rcases hp with hp|⟨e,he,h4,h5⟩
    ·cases hp
    ·exact ⟨e,he,h5,by rw [h4];exact ho⟩) hin h3 (fun i hi=>⟨(h2 i).1 hi,hS.inv.free _ (by omega)⟩) (Nat.le_refl _) hS' hpk hsome (fun e he q hq=>by
    have:=List.all_eq_true.1 (List.all_eq_true.1 hwr e he) q hq
    simpa using this)
  have hvv:v'=v:=by
   have hm:v'∈es.filterMap (·.2):=List.mem_filterMap.2 ⟨e,he,hev⟩
   rw [hpans] at hm
   rcases List.mem_cons.1 hm with h4|h4
   ·exact h4
   ·exact (alike_eq (List.all_eq_true.1 hal v' h4)).symm
  subst hvv
  obtain ⟨M'',hle,gp⟩:=poison_ok hS0 hpart g
  have hst:=stepR_region_draw (P:=C.P) (b:=b) (a:=a) (k:=k) (cs:=csM s.pk cs) (w:=w) (ops:=ops) (id:=id)
  rw [hC.mixed] at hst
  have hpkK:(poison ops es s).pk=sK.pk:=hpart.pk.symm
  refine LineEnd.after hws (Nat.le_refl _) (.one hst) (m1:=_) (N2:=fun o=>s.nx<=o) ?_ (fun _ h=>h) (fun _ h=>h)
  exact ⟨a',Q',w',M'',ρ',todo,x,gp,hx.mono hle,by rw [hpkK];exact st⟩
end Go.Abs
