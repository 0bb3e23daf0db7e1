/- The abstract interpreter: a logic of what code comes to: slices of slices of the call's own. -/
import Derived.Test.YtbdoijpclmhbaaaGreatSo6
import Derived.KernelRfl
namespace Go.Abs
variable {C:Cfg} {fid nt:Nat} {l:Env} {G G':Nat->Obj} {nx:Nat} {df:List (AV×List AV)} {pk:Pk} {Φ Φ':Out->Prop} {a b:Code} {ol r:List Oper} {base i d:Nat} {ty:TypeId} {pos:String} {af:Array Edge} {v:AV} {id:Nat}
def All2 {α β:Type} (R:α->β->Prop):List α->List β->Prop
 |[],[]=>True
 |a::r,b::s=>R a b/\All2 R r s
 |_,_=>False
theorem All2.imp {α β:Type} {R S:α->β->Prop} (h:∀ a b,R a b->S a b):∀ {l:List α} {m:List β},All2 R l m->All2 S l m
 |[],[],_=>trivial
 |_::_,_::_,hl=>⟨h _ _ hl.1,All2.imp h hl.2⟩
 |[],_::_,hl=>hl.elim
 |_::_,[],hl=>hl.elim
theorem All2.append {α β:Type} {R:α->β->Prop}:∀ {l:List α} {m:List β} {l':List α} {m':List β},All2 R l m->All2 R l' m'->All2 R (l++l') (m++m')
 |[],[],_,_,_,h'=>h'
 |_::_,_::_,_,_,hl,h'=>⟨hl.1,All2.append hl.2 h'⟩
 |[],_::_,_,_,hl,_=>hl.elim
 |_::_,[],_,_,hl,_=>hl.elim
theorem All2.length {α β:Type} {R:α->β->Prop}:∀ {l:List α} {m:List β},All2 R l m->l.length=m.length
 |[],[],_=>rfl
 |_::_,_::_,hl=>by simp only [List.length_cons,All2.length hl.2]
 |[],_::_,hl=>hl.elim
 |_::_,[],hl=>hl.elim
theorem peekL_frame {f g:AV->Option (IV×List Nat)} {Q:Nat->Prop} (hfg:∀ v x ids,f v=some (x,ids)->(∀ o∈ids,Q o)->g v=some (x,ids)):∀ (vs:List AV) (xs:List IV) (ids:List Nat),peekL f vs=some (xs,ids)->(∀ o∈ids,Q o)->peekL g vs=some (xs,ids)
 |[],xs,ids,h,_=>h
 |v::r,xs,ids,h,hq=>by
  unfold peekL at h ⊢
  cases hv:f v with
  |none=>rw [hv] at h;cases h
  |some p=>
   obtain ⟨x,i⟩:=p
   rw [hv] at h
   cases hr:peekL f r with
   |none=>rw [hr] at h;cases h
   |some q=>
    obtain ⟨l,is⟩:=q
    rw [hr] at h
    cases h
    rw [hfg v x i hv (fun o ho=>hq o (by simp [ho])),peekL_frame hfg r l is hr (fun o ho=>hq o (by simp [ho]))]
theorem peek_frame:∀ (k:Nat) (v:AV) (x:IV) (ids:List Nat),Go.Abs.peek G k v=some (x,ids)->(∀ o∈ids,G' o=G o)->Go.Abs.peek G' k v=some (x,ids):=by
 intro k
 induction k with
 |zero=>
  intro v x ids h _
  cases v<;>simp only [Go.Abs.peek] at h ⊢ <;> first|exact h|cases h
 |succ k ih=>
  intro v x ids h hq
  cases v with
  |imm y=>exact h
  |nils=>exact h
  |row o n=>
   unfold Go.Abs.peek at h ⊢
   cases hG:G o with
   |row e sz vs fr=>
    rw [hG] at h
    dsimp only at h
    split at h
    ·rename_i hn
     cases hp:peekL (Go.Abs.peek G k) vs with
     |none=>rw [hp] at h;cases h
     |some p=>
      obtain ⟨xs,is⟩:=p
      rw [hp] at h
      cases h
      rw [hq o (by simp),hG]
      dsimp only
      rw [if_pos hn,peekL_frame (g:=Go.Abs.peek G' k) (Q:=fun o=>G' o=G o) ih vs xs is hp (fun o' ho=>hq o' (by simp [ho]))]
    ·cases h
   |_=>rw [hG] at h;cases h
  |map o=>
   unfold Go.Abs.peek at h ⊢
   cases hG:G o with
   |mp ks vs fr=>
    rw [hG] at h
    dsimp only at h
    cases hp:peekL (Go.Abs.peek G k) vs with
    |none=>rw [hp] at h;cases h
    |some p=>
     obtain ⟨xs,is⟩:=p
     rw [hp] at h
     cases h
     rw [hq o (by simp),hG]
     dsimp only
     rw [peekL_frame (g:=Go.Abs.peek G' k) (Q:=fun o=>G' o=G o) ih vs xs is hp (fun o' ho=>hq o' (by simp [ho]))]
   |_=>rw [hG] at h;cases h
  |ptr o off=>
   unfold Go.Abs.peek at h ⊢
   cases hG:G o with
   |box cs fr=>
    rw [hG] at h
    dsimp only at h
    cases hp:peekL (Go.Abs.peek G k) cs with
    |none=>rw [hp] at h;cases h
    |some p=>
     obtain ⟨xs,is⟩:=p
     rw [hp] at h
     cases h
     rw [hq o (by simp),hG]
     dsimp only
     rw [peekL_frame (g:=Go.Abs.peek G' k) (Q:=fun o=>G' o=G o) ih cs xs is hp (fun o' ho=>hq o' (by simp [ho]))]
   |_=>rw [hG] at h;cases h
  |fn f cap=>
   unfold Go.Abs.peek at h ⊢
   cases hp:peekL (Go.Abs.peek G k) cap with
   |none=>rw [hp] at h;cases h
   |some p=>
    obtain ⟨xs,is⟩:=p
    rw [hp] at h
    cases h
    rw [peekL_frame (g:=Go.Abs.peek G' k) (Q:=fun o=>G' o=G o) ih cap xs _ hp hq]
  |agg cs=>
   unfold Go.Abs.peek at h ⊢
   cases hp:peekL (Go.Abs.peek G k) cs with
   |none=>rw [hp] at h;cases h
   |some p=>
    obtain ⟨xs,is⟩:=p
    rw [hp] at h
    cases h
    rw [peekL_frame (g:=Go.Abs.peek G' k) (Q:=fun o=>G' o=G o) ih cs xs _ hp hq]
  |tup cs=>
   unfold Go.Abs.peek at h ⊢
   cases hp:peekL (Go.Abs.peek G k) cs with
   |none=>rw [hp] at h;cases h
   |some p=>
    obtain ⟨xs,is⟩:=p
    rw [hp] at h
    cases h
    rw [peekL_frame (g:=Go.Abs.peek G' k) (Q:=fun o=>G' o=G o) ih cs xs _ hp hq]
  |_=>simp only [Go.Abs.peek] at h;cases h
def Rdx (d:Nat) (G:Nat->Obj) (P:Nat->Prop) (v:AV) (x:IV):Prop:=∃ ids,(∀ k,Go.Abs.peek G (k+d) v=some (x,ids))/\∀ i∈ids,P i
theorem Rdx.imm (d:Nat) (G:Nat->Obj) (P:Nat->Prop) (x:IV):Rdx d G P (.imm x) x:=⟨[],fun k=>by cases k+d<;>rfl,fun _ h=>by cases h⟩
theorem Rdx.nils (d:Nat) (G:Nat->Obj) (P:Nat->Prop):Rdx d G P .nils (.lst []):=⟨[],fun k=>by cases k+d<;>rfl,fun _ h=>by cases h⟩
theorem Rdx.frame {d:Nat} {P P':Nat->Prop} {v:AV} {x:IV} (h:Rdx d G P v x) (hG:∀ o,P o->G' o=G o) (hP:∀ o,P o->P' o):Rdx d G' P' v x:=by
 obtain ⟨ids,h1,h2⟩:=h
 exact ⟨ids,fun k=>peek_frame _ _ _ _ (h1 k) fun o ho=>hG o (h2 o ho),fun o ho=>hP o (h2 o ho)⟩
theorem Rdx.peek {d:Nat} {P:Nat->Prop} {v:AV} {x:IV} (h:Rdx d G P v x) (hd:d<=100):∃ ids,Go.Abs.peek G pkDepth v=some (x,ids):=by
 obtain ⟨ids,h1,_⟩:=h
 have:=h1 (100-d)
 rw [show 100-d+d=100 by omega] at this
 exact ⟨ids,this⟩
theorem All2.peekL {d:Nat} {P:Nat->Prop}:∀ {vs:List AV} {xs:List IV},All2 (Rdx d G P) vs xs->∃ ids,(∀ k,Go.Abs.peekL (Go.Abs.peek G (k+d)) vs=some (xs,ids))/\∀ i∈ids,P i
 |[],[],_=>⟨[],fun _=>rfl,fun _ h=>by cases h⟩
 |v::vs,x::xs,h=>by
  obtain ⟨i1,a1,b1⟩:=h.1
  obtain ⟨i2,a2,b2⟩:=All2.peekL h.2
  refine ⟨i1++i2,fun k=>?_,fun i hi=>(List.mem_append.1 hi).elim (b1 i) (b2 i)⟩
  unfold Go.Abs.peekL
  rw [a1 k,a2 k]
 |[],_::_,h=>h.elim
 |_::_,[],h=>h.elim
theorem Rdx.row {d o n e sz:Nat} {P:Nat->Prop} {vs:List AV} {xs:List IV} {fr:Bool} (hG:G o = .row e sz vs fr) (hn:vs.length=n) (h:All2 (Rdx d G P) vs xs) (ho:P o):Rdx (d+1) G P (.row o n) (.lst xs):=by
 obtain ⟨ids,h1,h2⟩:=h.peekL
 refine ⟨o::ids,fun k=>?_,fun i hi=>(List.mem_cons.1 hi).elim (fun h=>h▸ho) (h2 i)⟩
 show Go.Abs.peek G (k+d+1) _=_
 unfold Go.Abs.peek
 rw [hG]
 dsimp only
 rw [if_pos hn,h1 k]
theorem All2.imms (d:Nat) (G:Nat->Obj) (P:Nat->Prop):∀ xs:List IV,All2 (Rdx d G P) (xs.map .imm) xs
 |[]=>trivial
 |_::r=>⟨.imm ..,All2.imms d G P r⟩
theorem Own.rdx {e sz lo hi:Nat} {xs:List IV} (h:Own e sz lo hi xs G v):Rdx 1 G (fun i=>lo<=i/\i < hi) v (.lst xs):=by
 rcases h with ⟨rfl,rfl⟩|⟨o,h1,h2,rfl,hG⟩
 ·exact .nils ..
 ·exact .row hG (by simp) (All2.imms 0 G _ xs) ⟨h1,h2⟩
def OwnV (d e sz lo hi:Nat) (xs:List IV) (G:Nat->Obj) (v:AV):Prop:=
 (xs=[]/\v = .nils)\/∃ o vs,lo<=o/\o < hi/\v = .row o vs.length/\G o = .row e sz vs false/\All2 (Rdx d G (fun i=>lo<=i/\i < hi/\i≠o)) vs xs
theorem OwnV.nil (d e sz lo hi:Nat) (G:Nat->Obj):OwnV d e sz lo hi [] G .nils := .inl ⟨rfl,rfl⟩
theorem OwnV.rdx {d e sz lo hi:Nat} {xs:List IV} (h:OwnV d e sz lo hi xs G v):Rdx (d+1) G (fun i=>lo<=i/\i < hi) v (.lst xs):=by
 rcases h with ⟨rfl,rfl⟩|⟨o,vs,h1,h2,rfl,hG,ha⟩
 ·exact .nils ..
 ·exact .row hG rfl (ha.imp fun _ _ h=>h.frame (fun _ _=>rfl) fun _ h=>⟨h.1,h.2.1⟩) ⟨h1,h2⟩
theorem OwnV.frame {d e sz lo hi hi':Nat} {xs:List IV} (h:OwnV d e sz lo hi xs G v) (hh:hi<=hi') (hG:∀ o,lo<=o->o < hi->G' o=G o):OwnV d e sz lo hi' xs G' v:=by
 rcases h with h|⟨o,vs,h1,h2,h3,h4,ha⟩
 ·exact .inl h
 ·exact .inr ⟨o,vs,h1,by omega,h3,by rw [hG o h1 h2];exact h4,ha.imp fun _ _ h=>h.frame (fun i hi=>hG i hi.1 hi.2.1) fun i hi=>⟨hi.1,by omega,hi.2.2⟩⟩
theorem R.appOwnV {x y:Operand} {t u d' e lo hi:Nat} {k ke:TyI} {xs ys:List IV} {ws:List AV} {w:AV} [hk:TyIs C t k] (ht:k.d = .sl e) [he:TyIs C e ke] (hu:Nat.beq t u=true) (hx:lookO l x=some v) (ho:OwnV d' e ke.sz lo hi xs G v) (hy:lookO l y=some w) (hw:elems G w=some ws)
  (hs:0 < ke.sz) (hb:ke.bytes<=4096) (hz:ke.zero.fits ke.sz=true) (hys:ws.all (AV.fits ke.sz)=true) (hm:xs.length+ws.length<=most) (hid:lo<=hi/\hi<=base+i) (hi2:∀ G',(∀ o,o < hi->lo<=o\/G' o=G o)->(∀ o,hi<=o->o≠base+i->G' o=G o)->All2 (Rdx d' G' (fun o=>hi<=o/\o < base+i)) ws ys) (hd:Nat.ble (d+1) nt=true)
  (next:∀ v' G',OwnV d' e ke.sz lo (base+i+1) (xs++ys) G' v'->(∀ o,o < lo->G' o=G o)->(∀ o,hi<=o->o < base+i->G' o=G o)->R C nt ol base (i+1) r ((d,v')::l) G' nx df pk Φ) :
  R C nt ol base i (⟨some d, .call { callee := .builtin .append,args := #[x,y],argTypes := #[t,u] },ty,pos,af,none⟩::r) l G nx df pk Φ:=by
 rcases ho with ⟨rfl,rfl⟩|⟨o,vs,h1,h2,rfl,hG,ha⟩
 ·refine R.op1 (O.appNil ht hu hx hy hw hs hb hz hys (by simpa using hm)) hd (next _ _ (.inr ⟨base+i,ws,by omega,by omega,rfl,upd_same ..,?_⟩) (fun o ho=>upd_ne _ _ _ _ (by omega)) fun o h1 h2=>upd_ne _ _ _ _ (by omega))
  exact (hi2 (upd G (base+i) (.row e ke.sz ws false)) (fun o h => .inr (upd_ne _ _ _ _ (by omega))) fun o h h'=>upd_ne _ _ _ _ h').imp fun _ _ h=>h.frame (fun _ _=>rfl) fun i hi=>⟨by omega,by omega,by omega⟩
 ·refine R.op1 (O.appRow ht hu hx hG rfl hy hw hs hb hz hys (by rw [ha.length];exact hm)) hd (next _ _ (.inr ⟨o,vs++ws,h1,by omega,rfl,upd_same ..,?_⟩) (fun o' ho=>upd_ne _ _ _ _ (by omega)) fun o' h1 h2=>upd_ne _ _ _ _ (by omega))
  refine (ha.imp fun _ _ h=>h.frame (fun i hi=>upd_ne _ _ _ _ hi.2.2) fun i hi=>⟨hi.1,by omega,hi.2.2⟩).append ?_
  refine (hi2 (upd G o (.row e ke.sz (vs++ws) false)) (fun o' h=>?_) fun o' h h'=>upd_ne _ _ _ _ (by omega)).imp fun _ _ h=>h.frame (fun _ _=>rfl) fun i hi=>⟨by omega,by omega,by omega⟩
  by_cases h':o'=o
  ·exact .inl (by omega)
  ·exact .inr (upd_ne _ _ _ _ h')
theorem O.makeSlice {t e:TypeId} {x y:Operand} {k ke:TyI} {kk kk':IntKind} {m n:Int} [hk:TyIs C t k] (ht:k.d = .sl e) (he:TyIs C e ke) (hx:lookO l x=some (.imm (.int kk m))) (hy:lookO l y=some (.imm (.int kk' n))) (h0:0<=m/\m<=n/\n<=most) (hb:ke.bytes<=4096) (hz:ke.zero.fits ke.sz=true) (hs:0 < ke.sz) :
  OpV C id l G nx df pk (.makeSlice t x y) (.row id m.toNat) [(id, .set (.row e ke.sz (List.replicate m.toNat ke.zero) false))]:=
 O.of fun t' L hA=>by
  simp only [opA,hA.ev hx,hA.ev hy,aMakeSlice,hk.is,ht,he.is]
  rw [if_pos ⟨h0.1,h0.2.1,h0.2.2,hb,hz,hs⟩]
theorem O.storeR {a x:Operand} {t et sz:TypeId} {k:TyI} {o m n:Nat} {vs:List AV} {u:AV} [hk:TyIs C t k] (hs:k.sz=1) (ha:lookO l a=some (.rptr o m n 0)) (hx:lookO l x=some v) (hf:v.fits 1=true) (hG:G o = .row et sz vs false) (hm:vs.length=m) (hu:vs[n]? = some u) (huc:Nat.ble 1 u.cells.length=true) (hv:avOf u (splice u.cells 0 v.cells)=v) :
  OpV C id l G nx df pk (.store t a x) .undef [(o, .set (.row et sz (vs.set n v) false))]:=
 O.of fun t' L hA=>by
  simp only [opA,hA.ev ha,hA.ev hx,aStore,hk.is,hs,hf,if_true,hG,hu]
  rw [if_pos ⟨hm,by decide,by have:=Nat.le_of_ble_eq_true huc;omega⟩,hv]
end Go.Abs

/- The reference: the definitions that each definition names. -/
open Go Go.Abs
namespace Go.Abs
set_option maxRecDepth 100000
set_option maxHeartbeats 4000000
instance fnis84:FnIs CC 172:=⟨rfl,fun _=>rfl⟩
def ty34:TyI:={ d:=TyD.sl 44,sz:=1,bytes:=24,zero:=AV.nils }
instance tyis34:TyIs CC 35 ty34:=⟨by kernel_rfl⟩
def ty87:TyI:={ d:=TyD.sl 4,sz:=1,bytes:=24,zero:=AV.nils }
instance tyis87:TyIs CC 151 ty87:=⟨by kernel_rfl⟩
def ty88:TyI:={ d:=TyD.sl 151,sz:=1,bytes:=24,zero:=AV.nils }
instance tyis88:TyIs CC 198 ty88:=⟨by kernel_rfl⟩
theorem Own.fits1 {e sz lo hi:Nat} {xs:List IV} {G:Nat->Obj} {v:AV} (h:Own e sz lo hi xs G v):AV.fits 1 v=true:=by
 rcases h with ⟨_,rfl⟩|⟨o,_,_,rfl,_⟩<;>rfl
def namesDef (x:Exp):Bool:=x.op==2||x.op==3
def stepsL (names:List Str) (l:List Exp):List Int:=(l.filter namesDef).map fun x=>idxFrom names x.name 0
def intIV (n:Int):IV := .int .i64 n
def intsIV (l:List Int):IV := .lst (l.map intIV)
def stepsR (p:Pgm):List (List Int):=p.defs.map fun d=>stepsL (defNames p) (allE d.exp)
theorem stepsL_take {names:List Str} {l:List Exp} {x:Exp} {i:Nat} (h:l[i]? = some x):stepsL names (l.take (i+1))=stepsL names (l.take i)++(if namesDef x then [idxFrom names x.name 0] else []):=by
 unfold stepsL
 rw [List.take_add_one,h,List.filter_append,List.map_append]
 congr 1
 simp only [Option.toList,List.filter_cons,List.filter_nil]
 split<;>rfl
theorem stepsL_len (names:List Str) (l:List Exp):(stepsL names l).length<=l.length:=by
 unfold stepsL;rw [List.length_map];exact List.length_filter_le ..
theorem ret84 (p:Pgm) (hp:p.Fits) (hd6:p.defs.length<=6) (hsz:∀ d∈p.defs,(allE d.exp).length<=1000):Ret CC 172 [p.iv] (.lst ((stepsR p).map intsIV)):=by
 have hr96:=ret96 p hp.defs
 have hnl:(defNames p).length<=7:=by simp [defNames];omega
 unfold stepsR
 generalize defNames p=names at hr96 hnl ⊢
 obtain ⟨srcs,defs⟩:=p
 simp only at hd6 hsz ⊢
 have hdm:(defs.map Dfn.iv).length=defs.length:=List.length_map ..
 refine Ret.of (fn:=Go.Proofs.Tryz.f172) (by kernel_rfl) rfl rfl ?_
 refine W.seq (W.region ?_)
 refine R.op1 (O.boxS (cs:=[.imm (.lst (srcs.map sv)), .imm (.lst (defs.map Dfn.iv))]) rfl rfl rfl) rfl ?_
 refine SS ?_
 refine W.loop (X:=Nat×AV) (fun x=>[(1, .ptr 0 0),(4, .imm (.lst (names.map sv))),(5, .imm (.int .i64 x.1)),(3,x.2)])
  (fun x nx G=>G 0 = .box [.imm (.lst (srcs.map sv)), .imm (.lst (defs.map Dfn.iv))] false/\x.1<=defs.length/\1<=nx/\OwnV 1 44 1 1 nx (((defs.take x.1).map fun d=>stepsL names (allE d.exp)).map intsIV) G x.2) (fun x=>defs.length-x.1) (0, .nils)
  .auto ⟨rfl,Nat.zero_le _,by simp, .inl ⟨rfl,rfl⟩⟩ ?_
 rintro ⟨i,v⟩ hi0 G ⟨hB,hi,hnx,ho⟩
 dsimp only at hi ho ⊢
 refine SS ?_
 refine W.cond rfl (fun h1=>?_) (fun h1=>?_)
 ·have h1':i < defs.length:=by have:=of_decide_eq_true h1;omega
  obtain ⟨d,hx⟩:=at_lt h1'
  have hxi:=at_map Dfn.iv hx
  have hdc:=d.cells_len
  have hdm:=List.mem_of_getElem? hx
  have hr58:=ret58 (hp.exp d hdm) (by have:=hsz d hdm;omega)
  have hle:=hsz d hdm
  have htake:((defs.take (i+1)).map fun d=>stepsL names (allE d.exp))=((defs.take i).map fun d=>stepsL names (allE d.exp))++[stepsL names (allE d.exp)]:=by
   rw [List.take_add_one,hx];simp
  generalize allE d.exp=nodes at hr58 hle htake
  have hnm:(Exp.ivs nodes).length=nodes.length:=ivs_len nodes
  obtain ⟨nm,⟨o',s',n',f',c',k'⟩⟩:=d
  have hmu:defs.length-(i+1) < defs.length-i:=by omega
  refine SS ?_
  refine W.loop (X:=Nat×AV) (fun x=>[(1, .ptr 0 0),(4, .imm (.lst (names.map sv))),(5, .imm (.int .i64 i)),(3,v),(7, .imm (.lst (Exp.ivs nodes))),(8, .imm (.int .i64 x.1)),(6,x.2)])
   (fun x nx G=>G 0 = .box [.imm (.lst (srcs.map sv)), .imm (.lst (defs.map Dfn.iv))] false/\OwnV 1 44 1 1 hi0 (((defs.take i).map fun d=>stepsL names (allE d.exp)).map intsIV) G v/\x.1<=nodes.length/\hi0<=nx/\Own 3 1 hi0 nx ((stepsL names (nodes.take x.1)).map intIV) G x.2) (fun x=>nodes.length-x.1) (0, .nils)
   .auto ⟨hB,ho,Nat.zero_le _,by omega, .inl ⟨rfl,rfl⟩⟩ ?_
  clear hB ho
  rintro ⟨k,t⟩ nx G ⟨hB,ho,hk,hnx2,ht⟩
  dsimp only at hk ht ⊢
  refine SS ?_
  refine W.cond rfl (fun h2=>?_) (fun h2=>?_)
  ·have h2':k < nodes.length:=by have:=of_decide_eq_true h2;omega
   obtain ⟨x,hx2⟩:=at_lt h2'
   have hxi2:=ivs_at hx2
   have hr69:=ret69 names x.name (by omega)
   have hst:=stepsL_take (names:=names) hx2
   have hmu2:nodes.length-(k+1) < nodes.length-k:=by omega
   have hlen:=stepsL_len names (nodes.take k)
   rw [List.length_take] at hlen
   obtain ⟨op,s',n',f',c',k'⟩:=x
   have hcase:((op==2)=true\/((op==2)=false/\(op==3)=true))\/((op==2)=false/\(op==3)=false):=by
    cases op==2<;>cases op==3<;>simp
   rcases hcase with hyes|⟨hA,hB3⟩
   ·have hy:namesDef (.mk op s' n' f' c' k')=true:=by show (op==2||op==3)=true;rcases hyes with h|⟨h,h'⟩<;>rw [h]<;>first|rfl|(rw [h'];rfl)
    rw [hy,if_pos rfl] at hst
    rcases hyes with hA|⟨hA,hB3⟩
    iterate 2
     ·refine SS ?_
      refine R.op1 (O.buildS (n:=1) (ke:=ty3) (xs:=[.imm (.int .i64 (idxFrom names s' 0))]) rfl rfl rfl (by decide) rfl rfl (by decide)) rfl ?_
      refine R.appOwn (lo:=hi0) (ys:=[intIV (idxFrom names s' 0)]) rfl rfl rfl (ht.upd (by omega) (by omega)) rfl (by simp [elems,upd];rfl) (by decide) (by decide) rfl (by simp [intIV];rfl) (by simp only [List.length_map,List.length_cons,List.length_nil,most];omega) ⟨by omega,by simp only [List.length_cons,List.length_nil];omega⟩ rfl fun v' G' ho' hG'=>?_
      have hfr:∀ o,o < hi0->G' o=G o:=fun o h=>by rw [hG' o h,upd_ne _ _ _ _ (by omega)]
      refine SS ?_
      refine W.skipLop (k+1,v') hmu2 .auto ⟨by rw [hfr 0 (by omega)];exact hB,ho.frame (Nat.le_refl _) fun o _ h=>hfr o h,h2',by omega,?_⟩
      show Own 3 1 hi0 _ ((stepsL names (nodes.take (k+1))).map intIV) G' v'
      rw [hst,List.map_append]
      exact ho'.up (by omega)
   ·have hy:namesDef (.mk op s' n' f' c' k')=false:=by show (op==2||op==3)=false;rw [hA,hB3];rfl
    rw [hy,if_neg (by decide),List.append_nil] at hst
    refine SS ?_
    refine W.skipLop (k+1,t) hmu2 .auto ⟨hB,ho,h2',by omega,?_⟩
    show Own 3 1 hi0 _ ((stepsL names (nodes.take (k+1))).map intIV) _ t
    rw [hst]
    exact ht.up (by omega)
  ·have h2':nodes.length<=k:=by have:=of_decide_eq_false h2;omega
   rw [List.take_of_length_le h2'] at ht
   have hfit:=ht.fits1
   refine SS ?_
   refine R.op1 (O.buildS (n:=1) (ke:=ty30) (xs:=[t]) rfl rfl rfl (by decide) rfl (by show ([t].all (AV.fits 1))=true;simp [hfit]) (by decide)) rfl ?_
   refine R.appOwnV (d':=1) (lo:=1) (hi:=hi0) (ws:=[t]) (ys:=[intsIV (stepsL names nodes)]) rfl rfl rfl (ho.frame (Nat.le_refl _) fun o _ h=>upd_ne _ _ _ _ (by omega)) rfl (by simp [elems,upd]) (by decide) (by decide) rfl (by show ([t].all (AV.fits 1))=true;simp [hfit]) (by simp only [List.length_map,List.length_take,List.length_cons,List.length_nil,most];omega) ⟨by omega,by omega⟩ (fun G' h1 h2=>⟨?_,trivial⟩) rfl fun v' G' ho' hG1 hG2=>?_
   ·exact ht.rdx.frame (fun o ho=>by rw [h2 o ho.1 (by omega),upd_ne _ _ _ _ (by omega)]) fun o ho=>⟨ho.1,by omega⟩
   ·have hB':G' 0 = .box [.imm (.lst (srcs.map sv)), .imm (.lst (defs.map Dfn.iv))] false:=by rw [hG1 0 (by omega),upd_ne _ _ _ _ (by omega)];exact hB
    refine SS ?_
    refine W.skipLop (i+1,v') hmu .auto ⟨hB',h1',by omega,?_⟩
    show OwnV 1 44 1 1 _ (((defs.take (i+1)).map fun d=>stepsL names (allE d.exp)).map intsIV) G' v'
    rw [htake,List.map_append]
    exact ho'.frame (by simp only [List.length_cons,List.length_nil];omega) fun _ _ _=>rfl
 ·have h1':defs.length<=i:=by have:=of_decide_eq_false h1;omega
  refine SS ?_
  refine W.retFin1 rfl ?_
  rw [List.take_of_length_le h1'] at ho
  exact ho.rdx.peek (by decide)
end Go.Abs

/- What a graph's nodes reach; how it is found. (No program in sight.) -/
namespace Go.Abs
inductive Reach (tos:List (List Nat)) (i:Nat):Nat->Prop where
 |one {j:Nat} (h:j∈tos.getD i []):Reach tos i j
 |more {k j:Nat} (h:Reach tos i k) (hj:j∈tos.getD k []):Reach tos i j
open Classical in
noncomputable def reachB (tos:List (List Nat)) (i j:Nat):Bool:=decide (Reach tos i j)
theorem reachB_iff {tos:List (List Nat)} {i j:Nat}:reachB tos i j=true↔Reach tos i j:=by unfold reachB;simp
noncomputable def reachRow (tos:List (List Nat)) (n i:Nat):List Bool:=(List.range n).map (reachB tos i)
structure Bfs (tos:List (List Nat)) (n i k:Nat) (b:List Bool) (T:List Nat):Prop where
 len:b.length=n
 bnd:∀ x∈T,x < n
 sndT:∀ x∈T,Reach tos i x
 sndB:∀ j,b[j]? = some true->Reach tos i j
 start:∀ j∈tos.getD i [],j∈T
 clos:∀ j,b[j]? = some true->∀ m∈tos.getD j [],m∈T
 seen:∀ m x,m < k->T[m]? = some x->b[x]? = some true
 kle:k<=T.length
 size:T.length+1000*b.count false<=1000*(n+1)
theorem Bfs.init {tos:List (List Nat)} {n i:Nat} (hl:(tos.getD i []).length<=1000) (hb:∀ x∈tos.getD i [],x < n):Bfs tos n i 0 (List.replicate n false) (tos.getD i []) where
 len:=by simp
 bnd:=hb
 sndT x h := .one h
 sndB j h:=by simp [List.getElem?_replicate] at h
 start j h:=h
 clos j h:=by simp [List.getElem?_replicate] at h
 seen m x h:=by omega
 kle:=Nat.zero_le _
 size:=by rw [List.count_replicate];simp only [beq_self_eq_true,if_true];omega
theorem Bfs.skip {tos:List (List Nat)} {n i k x:Nat} {b:List Bool} {T:List Nat} (h:Bfs tos n i k b T) (hx:T[k]? = some x) (hb:b[x]? = some true):Bfs tos n i (k+1) b T:=
 { h with
  kle:=by
   have:=(List.getElem?_eq_some_iff.1 hx).1
   omega
  seen:=fun m y hm hy=>by
   rcases Nat.lt_or_ge m k with hlt|hge
   ·exact h.seen m y hlt hy
   ·obtain rfl:m=k:=by omega
    rw [hx] at hy;cases hy;exact hb }
theorem Bfs.step {tos:List (List Nat)} {n i k x:Nat} {b:List Bool} {T:List Nat} (h:Bfs tos n i k b T) (hx:T[k]? = some x) (hb:b[x]? = some false) (hl:(tos.getD x []).length<=1000) (hbd:∀ y∈tos.getD x [],y < n) :
  Bfs tos n i (k+1) (b.set x true) (T++tos.getD x []):=by
 have hxT:=List.mem_of_getElem? hx
 have hxb:x < b.length:=(List.getElem?_eq_some_iff.1 hb).1
 have hkT:=(List.getElem?_eq_some_iff.1 hx).1
 have hset:∀ j,(b.set x true)[j]? = some true->j=x\/b[j]? = some true:=by
  intro j hj
  rw [List.getElem?_set] at hj
  split at hj
  ·rename_i e;exact .inl e.symm
  ·exact .inr hj
 have hcnt:(b.set x true).count false+1=b.count false:=by
  rw [List.count_set hxb]
  have e:b[x]=false:=by
   rw [List.getElem?_eq_getElem hxb] at hb
   exact Option.some.inj hb
  have hpos:0 < b.count false:=List.count_pos_iff.2 (e▸List.getElem_mem hxb)
  rw [e]
  simp
  omega
 exact {
  len:=by simp [h.len]
  bnd:=fun y hy=>(List.mem_append.1 hy).elim (h.bnd y) (hbd y)
  sndT:=fun y hy=>(List.mem_append.1 hy).elim (h.sndT y) fun hy => .more (h.sndT x hxT) hy
  sndB:=fun j hj=>(hset j hj).elim (fun e=>e▸h.sndT x hxT) (h.sndB j)
  start:=fun j hj=>List.mem_append.2 (.inl (h.start j hj))
  clos:=fun j hj m hm=>by
   rcases hset j hj with rfl|hj
   ·exact List.mem_append.2 (.inr hm)
   ·exact List.mem_append.2 (.inl (h.clos j hj m hm))
  seen:=fun m y hm hy=>by
   rw [List.getElem?_set]
   have hmT:m < T.length:=by omega
   rw [List.getElem?_append_left hmT] at hy
   rcases Nat.lt_or_ge m k with hlt|hge
   ·have:=h.seen m y hlt hy
    split
    ·simp
    ·exact this
   ·obtain rfl:m=k:=by omega
    rw [hx] at hy;cases hy
    simp [hxb]
  kle:=by simp;omega
  size:=by
   have:=h.size
   simp only [List.length_append]
   omega }
theorem Bfs.mu {tos:List (List Nat)} {x:Nat} {b:List Bool} {T:List Nat} {k:Nat} (hx:T[k]? = some x) (hb:b[x]? = some false) (hl:(tos.getD x []).length<=1000) :
  1000*(b.set x true).count false+(T++tos.getD x []).length-(k+1) < 1000*b.count false+T.length-k:=by
 have hxb:x < b.length:=(List.getElem?_eq_some_iff.1 hb).1
 have hkT:=(List.getElem?_eq_some_iff.1 hx).1
 have hcnt:(b.set x true).count false+1=b.count false:=by
  rw [List.count_set hxb]
  have e:b[x]=false:=by
   rw [List.getElem?_eq_getElem hxb] at hb
   exact Option.some.inj hb
  have hpos:0 < b.count false:=List.count_pos_iff.2 (e▸List.getElem_mem hxb)
  rw [e]
  simp
  omega
 simp only [List.length_append]
 omega
theorem Bfs.fin {tos:List (List Nat)} {n i k:Nat} {b:List Bool} {T:List Nat} (h:Bfs tos n i k b T) (hk:T.length<=k):b=reachRow tos n i:=by
 have hall:∀ x∈T,b[x]? = some true:=fun x hx=>by
  obtain ⟨m,hm,rfl⟩:=List.mem_iff_getElem.1 hx
  exact h.seen m _ (by omega) (List.getElem?_eq_getElem hm)
 have hr:∀ j,Reach tos i j->j∈T:=by
  intro j hj
  induction hj with
  |one hj=>exact h.start _ hj
  |more hk hj ih=>exact h.clos _ (hall _ ih) _ hj
 apply List.ext_getElem?
 intro j
 unfold reachRow
 rw [List.getElem?_map]
 rcases Nat.lt_or_ge j n with hj|hj
 ·rw [List.getElem?_range hj]
  have hjb:j < b.length:=by rw [h.len];exact hj
  rw [List.getElem?_eq_getElem hjb]
  simp only [Option.map_some,Option.some.injEq]
  cases hv:b[j] with
  |true=>exact (reachB_iff.2 (h.sndB j (by rw [List.getElem?_eq_getElem hjb,hv]))).symm
  |false=>
   cases hq:reachB tos i j with
   |false=>rfl
   |true=>
    have:=hall j (hr j (reachB_iff.1 hq))
    rw [List.getElem?_eq_getElem hjb,hv] at this
    cases this
 ·rw [List.getElem?_eq_none (by rw [h.len];exact hj),List.getElem?_eq_none (by simpa using hj)]
  rfl
end Go.Abs

/- The reference: which definitions each one reaches. -/
open Go Go.Abs
namespace Go.Abs
set_option maxRecDepth 100000
set_option maxHeartbeats 4000000
instance fnis53:FnIs CC 128:=⟨rfl,fun _=>rfl⟩
def natIV (n:Nat):IV := .int .i64 n
def natsIV (l:List Nat):IV := .lst (l.map natIV)
def boolsIV (l:List Bool):IV := .lst (l.map .bool)
noncomputable def reachR (tos:List (List Nat)):List (List Bool):=(List.range tos.length).map (reachRow tos tos.length)
theorem R.gen' {C:Cfg} {nt:Nat} {ol r:List Oper} {base i:Nat} {l:Env} {G:Nat->Obj} {nx:Nat} {df:List (AV×List AV)} {pk:Pk} {Φ:Out->Prop} (P:(Nat->Obj)->Prop) (h0:P G) (h:∀ G,P G->R C nt ol base i r l G nx df pk Φ):R C nt ol base i r l G nx df pk Φ:=h _ h0
theorem W.gen' {C:Cfg} {fid nt:Nat} {b:Code} {l:Env} {G:Nat->Obj} {nx:Nat} {df:List (AV×List AV)} {pk:Pk} {Φ:Out->Prop} (P:(Nat->Obj)->Prop) (h0:P G) (h:∀ G,P G->W C fid nt b l G nx df pk Φ):W C fid nt b l G nx df pk Φ:=h _ h0
theorem mid_at {α:Type} {d:List α} {x:α} {r:List α} {i:Nat} (h:d.length=i):(d++x::r)[i]? = some x:=by
 subst h;simp
theorem mid_set {α:Type} {d:List α} {x y:α} {r:List α} {i:Nat} (h:d.length=i):(d++x::r).set i y=d++y::r:=by
 subst h;simp
theorem ret53 (p:Pgm) (hp:p.Fits) (hd6:p.defs.length<=6) (hsz:∀ d∈p.defs,(allE d.exp).length<=1000) (tos:List (List Nat)) (hto:stepsR p=tos.map fun t=>t.map Int.ofNat) (hlen:∀ t∈tos,t.length<=1000) (hbd:∀ t∈tos,∀ x∈t,x < tos.length) :
  Ret CC 128 [p.iv] (.lst ((reachR tos).map boolsIV)):=by
 have hr84:=ret84 p hp hd6 hsz
 have hn:p.defs.length=tos.length:=by
  have:=congrArg List.length hto
  simpa [stepsR] using this
 rw [hto] at hr84
 have hiv:(tos.map fun t=>t.map Int.ofNat).map intsIV=tos.map natsIV:=by
  rw [List.map_map]
  apply List.map_congr_left
  intro t _
  simp only [Function.comp,intsIV,natsIV,List.map_map]
  rfl
 rw [hiv] at hr84
 clear hto hiv hsz
 have hgetl:∀ i,(tos.getD i []).length<=1000:=fun i=>by
  rw [List.getD_eq_getElem?_getD]
  cases h:tos[i]? with
  |none=>simp
  |some t=>exact hlen t (List.mem_of_getElem? h)
 have hgetb:∀ i,∀ x∈tos.getD i [],x < tos.length:=fun i=>by
  rw [List.getD_eq_getElem?_getD]
  cases h:tos[i]? with
  |none=>simp
  |some t=>exact hbd t (List.mem_of_getElem? h)
 obtain ⟨srcs,defs⟩:=p
 simp only at hn hd6
 have hdm:(defs.map Dfn.iv).length=tos.length:=by rw [List.length_map,hn]
 unfold reachR
 generalize htn:tos.length=n at *
 refine Ret.of (fn:=Go.Proofs.Tryz.f128) (by kernel_rfl) rfl rfl ?_
 refine W.seq (W.region ?_)
 refine R.op1 (O.boxS (cs:=[.imm (.lst (srcs.map sv)), .imm (.lst (defs.map Dfn.iv))]) rfl rfl rfl) rfl ?_
 refine SS ?_
 rw [hdm]
 refine R.op1 (O.makeSlice (ke:=ty87) rfl inferInstance rfl rfl ⟨by omega,Int.le_refl _,by unfold most;omega⟩ (by decide) rfl (by decide)) rfl ?_
 refine SS ?_
 refine W.loop (X:=Nat) (fun i=>[(3, .imm (.int .i64 n)),(4, .imm (.lst (tos.map natsIV))),(5, .row 10 n),(6, .imm (.int .i64 i))])
  (fun i nx G=>11<=nx/\i<=n/\∃ done,G 10 = .row 151 1 (done++List.replicate (n-i) .nils) false/\All2 (Rdx 1 G (fun o=>11<=o/\o < nx)) done (((List.range i).map (reachRow tos n)).map boolsIV)) (fun i=>n-i) 0
  .auto ⟨by decide,Nat.zero_le _,[],?_,trivial⟩ ?_
 ·rfl
 rintro i nx G ⟨hnx,hi,done,hG,hdone⟩
 have hdl:done.length=i:=by rw [hdone.length];simp
 refine SS ?_
 refine W.cond rfl (fun h1=>?_) (fun h1=>?_)
 ·have h1':i < n:=by have:=of_decide_eq_true h1;omega
  have hrep:List.replicate (n-i) AV.nils = .nils::List.replicate (n-(i+1)) .nils:=by
   rw [show n-i=n-(i+1)+1 by omega,List.replicate_succ]
  rw [hrep] at hG
  refine SS ?_
  refine R.op1 (O.makeSlice (ke:=ty4) rfl inferInstance rfl rfl ⟨by omega,Int.le_refl _,by unfold most;omega⟩ (by decide) rfl (by decide)) rfl ?_
  refine R.gen' (fun G'=>G' (nx+6) = .row 4 1 ((List.replicate n false).map fun b => .imm (.bool b)) false/\G' 10 = .row 151 1 (done ++ .nils::List.replicate (n-(i+1)) .nils) false/\∀ o,o < nx->G' o=G o) ⟨?_,?_,?_⟩ ?_
  ·show upd G (nx+6) _ (nx+6)=_
   rw [upd_same,List.map_replicate];rfl
  ·show upd G (nx+6) _ 10=_
   rw [upd_ne _ _ _ _ (by omega)];exact hG
  ·intro o ho
   show upd G (nx+6) _ o=_
   rw [upd_ne _ _ _ _ (by omega)]
  rintro G' ⟨hGi,hG10,hfr⟩
  have hml:(done++AV.nils::List.replicate (n-(i+1)) .nils).length=n:=by simp;omega
  refine SS ?_
  refine R.opN1 (O.storeR (v := .row (nx+6) n) rfl rfl rfl rfl hG10 hml (mid_at hdl) rfl rfl) ?_
  refine R.gen' (fun G'=>G' (nx+6) = .row 4 1 ((List.replicate n false).map fun b => .imm (.bool b)) false/\G' 10 = .row 151 1 (done ++ .row (nx+6) n::List.replicate (n-(i+1)) .nils) false/\∀ o,o < nx->o≠10->G' o=G o) ⟨?_,?_,?_⟩ ?_
  ·rw [upd_ne _ _ _ _ (by omega)];exact hGi
  ·rw [upd_same,Int.toNat_natCast,mid_set hdl]
  ·intro o ho h10
   rw [upd_ne _ _ _ _ h10];exact hfr o ho
  clear hGi hG10 hfr hG G'
  rintro G' ⟨hGi,hG10,hfr⟩
  have hdone':All2 (Rdx 1 G' (fun o=>11<=o/\o < nx)) done (((List.range i).map (reachRow tos n)).map boolsIV):=hdone.imp fun _ _ h=>h.frame (fun o ho=>hfr o ho.2 (by omega)) fun _ h=>h
  clear hdone hfr
  obtain ⟨t,hx⟩:∃ t,tos[i]? = some t:=at_lt (by omega)
  have hxi:=at_map natsIV hx
  have hti:tos.getD i []=t:=by rw [List.getD_eq_getElem?_getD,hx];rfl
  have htl:=hgetl i
  have hinit:=Bfs.init (n:=n) (hgetl i) (hgetb i)
  rw [hti] at hinit htl
  have hmu:n-(i+1) < n-i:=by omega
  refine SS ?_
  refine R.appOwn (lo:=nx+7) (xs:=[]) (ys:=t.map natIV) rfl rfl rfl (.inl ⟨rfl,rfl⟩) rfl rfl (by decide) (by decide) rfl ?_ (by simp only [List.length_map,List.length_nil,most];omega) ⟨?_,?_⟩ rfl fun v' G'' ho' hfr'=>?_
  ·intro y hy
   obtain ⟨z,_,rfl⟩:=List.mem_map.1 hy
   rfl
  ·simp only [List.length_cons,List.length_nil];omega
  ·simp only [List.length_cons,List.length_nil];omega
  rw [List.nil_append] at ho'
  have hdone'':All2 (Rdx 1 G'' (fun o=>11<=o/\o < nx)) done (((List.range i).map (reachRow tos n)).map boolsIV):=hdone'.imp fun _ _ h=>h.frame (fun o ho=>hfr' o (by omega)) fun _ h=>h
  have hGi'':=hfr' (nx+6) (by omega)
  rw [hGi] at hGi''
  have hG10'':=hfr' 10 (by omega)
  rw [hG10] at hG10''
  clear hdone' hGi hG10 hfr' G'
  refine SS ?_
  have hdl:done.length=i:=hdl
  refine W.loop (X:=Nat×AV×List Bool×List Nat) (fun x=>[(3, .imm (.int .i64 n)),(4, .imm (.lst (tos.map natsIV))),(5, .row 10 n),(6, .imm (.int .i64 i)),(7,x.2.1),(8, .imm (.int .i64 x.1))])
   (fun x nx2 G=>nx+7<=nx2/\G 10 = .row 151 1 (done ++ .row (nx+6) n::List.replicate (n-(i+1)) .nils) false/\All2 (Rdx 1 G (fun o=>11<=o/\o < nx)) done (((List.range i).map (reachRow tos n)).map boolsIV) /\
    G (nx+6) = .row 4 1 (x.2.2.1.map fun b => .imm (.bool b)) false/\Own 3 1 (nx+7) nx2 (x.2.2.2.map natIV) G x.2.1/\Bfs tos n i x.1 x.2.2.1 x.2.2.2) (fun x=>1000*x.2.2.1.count false+x.2.2.2.length-x.1) (0,v',List.replicate n false,t)
   .auto ⟨?_,hG10'',hdone'',hGi'',ho'.up ?_,hinit⟩ ?_
  ·simp only [List.length_cons,List.length_nil];omega
  ·simp only [List.length_cons,List.length_nil];omega
  clear ho' hG10'' hdone'' hGi'' hinit hxi
  rintro ⟨k,tv,b,T⟩ nx2 G ⟨hnx2,hG10,hdone,hGi,hT,hb⟩
  dsimp only at hGi hT hb ⊢
  have hTl:(T.map natIV).length=T.length:=List.length_map ..
  refine SS ?_
  refine W.cond rfl (fun h2=>?_) (fun h2=>?_)
  ·have h2':k < T.length:=by have:=of_decide_eq_true h2;omega
   obtain ⟨x,hxk⟩:=at_lt h2'
   have hxn:=hb.bnd x (List.mem_of_getElem? hxk)
   obtain ⟨bx,hbx⟩:∃ bx,b[x]? = some bx:=at_lt (by rw [hb.len];exact hxn)
   rcases hT with ⟨hTn,_⟩|⟨ot,ho1,ho2,rfl,hGt⟩
   ·rw [hTn] at hTl;simp at hTl;omega
   have f1:(done++AV.row (nx+6) n::List.replicate (n-(i+1)) .nils)[(i:Int).toNat]? = some (.row (nx+6) n):=by rw [Int.toNat_natCast];exact mid_at hdl
   have f2:(done++AV.row (nx+6) n::List.replicate (n-(i+1)) .nils).length=n:=by simp;omega
   have f3:((T.map natIV).map AV.imm)[(k:Int).toNat]? = some (.imm (natIV x)):=by rw [Int.toNat_natCast,List.getElem?_map,List.getElem?_map,hxk];rfl
   have f4:((T.map natIV).map AV.imm).length=(T.map natIV).length:=List.length_map ..
   have f5:(b.map fun b=>AV.imm (.bool b))[(x:Int).toNat]? = some (.imm (.bool bx)):=by rw [Int.toNat_natCast,List.getElem?_map,hbx];rfl
   have f6:(b.map fun b=>AV.imm (.bool b)).length=n:=by rw [List.length_map];exact hb.len
   have hTb:T.length<=7000:=by have:=hb.size;omega
   cases bx with
   |true=>
    refine SS ?_
    refine W.skipLop (k+1, .row ot (T.map natIV).length,b,T) ?_ .auto ⟨by omega,hG10,hdone,hGi, .inr ⟨ot,ho1,by omega,rfl,hGt⟩,hb.skip hxk hbx⟩
    show 1000*b.count false+T.length-(k+1) < 1000*b.count false+T.length-k
    omega
   |false=>
    obtain ⟨t2,hx2⟩:∃ t2,tos[x]? = some t2:=at_lt (by omega)
    have hti2:tos.getD x []=t2:=by rw [List.getD_eq_getElem?_getD,hx2];rfl
    have f7:=at_map natsIV hx2
    have hstep:=hb.step hxk hbx (hgetl x) (hgetb x)
    have hmu2:=Bfs.mu hxk hbx (hgetl x)
    have hl2:=hgetl x
    rw [hti2] at hstep hmu2 hl2
    have hsz:=hb.size
    refine SS ?_
    refine D.opN1 (O.storeR (v := .imm (.bool true)) rfl rfl rfl rfl hGi f6 f5 rfl rfl) rfl ?_
    refine D.done (by kernel_rfl) ?_
    refine W.gen' (fun G'=>G' (nx+6) = .row 4 1 ((b.set x true).map fun b => .imm (.bool b)) false/\∀ o,o≠nx+6->G' o=G o) ⟨?_,?_⟩ ?_
    ·rw [upd_same,Int.toNat_natCast,List.map_set]
    ·intro o ho
     rw [upd_ne _ _ _ _ ho]
    rintro G' ⟨hGi',hfr⟩
    have hG10':=hfr 10 (by omega)
    rw [hG10] at hG10'
    have hGt':=hfr ot (by omega)
    rw [hGt] at hGt'
    have hdone':All2 (Rdx 1 G' (fun o=>11<=o/\o < nx)) done (((List.range i).map (reachRow tos n)).map boolsIV):=hdone.imp fun _ _ h=>h.frame (fun o ho=>hfr o (by omega)) fun _ h=>h
    clear hGi hG10 hGt hdone hfr
    refine SS ?_
    refine R.appOwn (lo:=nx+7) (xs:=T.map natIV) (ys:=t2.map natIV) rfl rfl rfl (.inr ⟨ot,ho1,by omega,rfl,hGt'⟩) rfl rfl (by decide) (by decide) rfl ?_ (by simp only [List.length_map,most];omega) ⟨?_,?_⟩ rfl fun v' G'' ho' hfr'=>?_
    ·intro y hy
     obtain ⟨z,_,rfl⟩:=List.mem_map.1 hy
     rfl
    ·simp only [List.length_cons,List.length_nil];omega
    ·simp only [List.length_cons,List.length_nil];omega
    have g1:=hfr' (nx+6) (by omega)
    rw [hGi'] at g1
    have g2:=hfr' 10 (by omega)
    rw [hG10'] at g2
    have g3:All2 (Rdx 1 G'' (fun o=>11<=o/\o < nx)) done (((List.range i).map (reachRow tos n)).map boolsIV):=hdone'.imp fun _ _ h=>h.frame (fun o ho=>hfr' o (by omega)) fun _ h=>h
    refine SS ?_
    refine W.skipLop (k+1,v',b.set x true,T++t2) hmu2 .auto ⟨?_,g2,g3,g1,?_,hstep⟩
    ·simp only [List.length_cons,List.length_nil];omega
    ·show Own 3 1 (nx+7) _ ((T++t2).map natIV) _ v'
     rw [List.map_append]
     exact ho'.up (by omega)
  ·have h2':T.length<=k:=by have:=of_decide_eq_false h2;omega
   have hfin:=hb.fin h2'
   refine SS ?_
   refine W.skipLop (i+1) hmu .auto ⟨by omega,h1',done++[.row (nx+6) n],?_,?_⟩
   ·rw [List.append_assoc];exact hG10
   ·rw [List.range_succ,List.map_append,List.map_append]
    refine (hdone.imp fun _ _ h=>h.frame (fun _ _=>rfl) fun o ho=>⟨ho.1,by omega⟩).append ⟨?_,trivial⟩
    rw [hfin] at hGi
    refine .row hGi (by simp [reachRow]) ?_ ⟨by omega,by omega⟩
    have:=All2.imms 0 G (fun _=>False) ((reachRow tos n i).map .bool)
    rw [List.map_map] at this
    exact this.imp fun _ _ h=>h.frame (fun _ _=>rfl) fun o ho=>ho.elim
 ·have h1':n<=i:=by have:=of_decide_eq_false h1;omega
  obtain rfl:i=n:=by omega
  rw [Nat.sub_self,List.replicate_zero,List.append_nil] at hG
  refine SS ?_
  refine W.retFin1 rfl ?_
  exact (Rdx.row (P:=fun _=>True) hG hdl (hdone.imp fun _ _ h=>h.frame (fun _ _=>rfl) fun _ _=>trivial) trivial).peek (by decide)
end Go.Abs

/- The reference: the rings of a program. -/
open Go Go.Abs
namespace Go.Abs
set_option maxRecDepth 100000
set_option maxHeartbeats 4000000
instance fnis55:FnIs CC 66:=⟨rfl,fun _=>rfl⟩
def at2 (m:List (List Bool)) (i j:Nat):Bool:=(m.getD i []).getD j false
def inRing (m:List (List Bool)) (i k:Nat):Bool:=k==i||(at2 m i k&&at2 m k i)
def ringTo (m:List (List Bool)) (i k:Nat):List Nat:=(List.range k).filter (inRing m i)
def ringIs (m:List (List Bool)) (i:Nat):Bool:=at2 m i i&&(ringTo m i m.length).head? == some i
def ringsTo (m:List (List Bool)) (i:Nat):List (List Nat):=((List.range i).filter (ringIs m)).map fun i=>ringTo m i m.length
def ringsR (m:List (List Bool)):List (List Nat):=ringsTo m m.length
theorem ringTo_succ (m:List (List Bool)) (i k:Nat):ringTo m i (k+1)=ringTo m i k++(if inRing m i k then [k] else []):=by
 unfold ringTo
 rw [List.range_succ,List.filter_append]
 congr 1
 simp only [List.filter_cons,List.filter_nil]
theorem ringsTo_succ (m:List (List Bool)) (i:Nat):ringsTo m (i+1)=ringsTo m i++(if ringIs m i then [ringTo m i m.length] else []):=by
 unfold ringsTo
 rw [List.range_succ,List.filter_append,List.map_append]
 congr 1
 simp only [List.filter_cons,List.filter_nil]
 split<;>rfl
theorem beq_cast (k i:Nat):((k:Int)==(i:Int))=(k==i):=by
 rw [Bool.eq_iff_iff];simp only [beq_iff_eq];omega
theorem ringTo_len (m:List (List Bool)) (i k:Nat):(ringTo m i k).length<=k:=by
 unfold ringTo
 have:=List.length_filter_le (inRing m i) (List.range k)
 simpa using this
theorem ringsTo_len (m:List (List Bool)) (i:Nat):(ringsTo m i).length<=i:=by
 unfold ringsTo
 have:=List.length_filter_le (ringIs m) (List.range i)
 simpa using this
theorem ringTo_ne (m:List (List Bool)) (i k:Nat) (h:i < k):ringTo m i k≠[]:=by
 intro he
 have:i∈ringTo m i k:=by unfold ringTo;rw [List.mem_filter];exact ⟨List.mem_range.2 h,by unfold inRing;simp⟩
 rw [he] at this;cases this
theorem ret55 (p:Pgm) (m:List (List Bool)) (hr53:Ret CC 128 [p.iv] (.lst (m.map boolsIV))) (hm:∀ row∈m,row.length=m.length) (h6:m.length<=6):Ret CC 66 [p.iv] (.lst ((ringsR m).map natsIV)):=by
 obtain ⟨srcs,defs⟩:=p
 have hml:(m.map boolsIV).length=m.length:=List.length_map ..
 have cell:∀ i j,i < m.length->j < m.length->∃ row,(m.map boolsIV)[(i:Int).toNat]? = some (boolsIV row)/\(row.map IV.bool)[(j:Int).toNat]? = some (.bool (at2 m i j)):=by
  intro i j hi hj
  obtain ⟨row,hr⟩:=at_lt hi
  refine ⟨row,at_map boolsIV hr,?_⟩
  have hl:=hm row (List.mem_of_getElem? hr)
  obtain ⟨b,hb⟩:∃ b,row[j]? = some b:=at_lt (by omega)
  have:at2 m i j=b:=by unfold at2;rw [List.getD_eq_getElem?_getD,List.getD_eq_getElem?_getD,hr];simp [hb]
  rw [this]
  exact at_map IV.bool hb
 refine Ret.of (fn:=Go.Proofs.Tryz.f66) (by kernel_rfl) rfl rfl ?_
 refine W.seq (W.region ?_)
 refine R.op1 (O.boxS (cs:=[.imm (.lst (srcs.map sv)), .imm (.lst (defs.map Dfn.iv))]) rfl rfl rfl) rfl ?_
 refine SS ?_
 refine W.loop (X:=Nat×AV) (fun x=>[(3, .imm (.lst (m.map boolsIV))),(5, .imm (.int .i64 x.1)),(4,x.2)])
  (fun x nx G=>x.1<=m.length/\1<=nx/\OwnV 1 44 1 1 nx ((ringsTo m x.1).map natsIV) G x.2) (fun x=>m.length-x.1) (0, .nils)
  .auto ⟨Nat.zero_le _,by simp, .inl ⟨rfl,rfl⟩⟩ ?_
 rintro ⟨i,v⟩ hi0 G ⟨hi,hnx,ho⟩
 dsimp only at hi ho ⊢
 refine SS ?_
 refine W.cond rfl (fun h1=>?_) (fun h1=>?_)
 ·have h1':i < m.length:=by have:=of_decide_eq_true h1;omega
  have hmu:m.length-(i+1) < m.length-i:=by omega
  obtain ⟨rowi,ci1,ci2⟩:=cell i i h1' h1'
  have hsucc:=ringsTo_succ m i
  cases hii:at2 m i i with
  |false=>
   rw [hii] at ci2
   rw [show ringIs m i=false by unfold ringIs;rw [hii];rfl,if_neg (by decide),List.append_nil] at hsucc
   refine SS ?_
   refine W.skipLop (i+1,v) hmu .auto ⟨h1',by omega,?_⟩
   show OwnV 1 44 1 1 _ ((ringsTo m (i+1)).map natsIV) _ v
   rw [hsucc]
   exact ho.frame (by omega) fun _ _ _=>rfl
  |true=>
   rw [hii] at ci2
   refine SS ?_
   refine W.loop (X:=Nat×AV) (fun x=>[(3, .imm (.lst (m.map boolsIV))),(5, .imm (.int .i64 i)),(4,v),(7, .imm (.int .i64 x.1)),(6,x.2)])
    (fun x nx G=>OwnV 1 44 1 1 hi0 ((ringsTo m i).map natsIV) G v/\x.1<=m.length/\hi0<=nx/\Own 3 1 hi0 nx ((ringTo m i x.1).map natIV) G x.2) (fun x=>m.length-x.1) (0, .nils)
    .auto ⟨ho,Nat.zero_le _,by omega, .inl ⟨rfl,rfl⟩⟩ ?_
   clear ho
   rintro ⟨k,t⟩ nx G ⟨ho,hk,hnx2,ht⟩
   dsimp only at hk ht ⊢
   refine SS ?_
   refine W.cond rfl (fun h2=>?_) (fun h2=>?_)
   ·have h2':k < m.length:=by have:=of_decide_eq_true h2;omega
    obtain ⟨rowik,a1,a2⟩:=cell i k h1' h2'
    obtain ⟨rowk,b1,b2⟩:=cell k i h2' h1'
    have hst:=ringTo_succ m i k
    have hmu2:m.length-(k+1) < m.length-k:=by omega
    have hlen:=ringTo_len m i k
    have hin:inRing m i k=((k:Int)==(i:Int)||(at2 m i k&&at2 m k i)):=by unfold inRing;rw [beq_cast]
    generalize at2 m i k=x at a2 hin
    generalize at2 m k i=y at b2 hin
    have hcase:(((k:Int)==(i:Int))=true\/(((k:Int)==(i:Int))=false/\x=true/\y=true))\/((((k:Int)==(i:Int))=false/\x=false)\/(((k:Int)==(i:Int))=false/\x=true/\y=false)):=by
     cases ((k:Int)==(i:Int))<;>cases x<;>cases y<;>simp
    rcases hcase with hyes|hno
    ·have hy:inRing m i k=true:=by rw [hin];rcases hyes with h|⟨h,rfl,rfl⟩<;>rw [h]<;>rfl
     rw [hy,if_pos rfl] at hst
     rcases hyes with hA|⟨hA,rfl,rfl⟩
     iterate 2
      ·refine SS ?_
       refine R.op1 (O.buildS (n:=1) (ke:=ty3) (xs:=[.imm (.int .i64 k)]) rfl rfl rfl (by decide) rfl rfl (by decide)) rfl ?_
       refine R.appOwn (lo:=hi0) (ys:=[natIV k]) rfl rfl rfl (ht.upd (by omega) (by omega)) rfl (by simp [elems,upd];rfl) (by decide) (by decide) rfl (by simp [natIV];rfl) (by simp only [List.length_map,List.length_cons,List.length_nil,most];omega) ⟨by omega,by simp only [List.length_cons,List.length_nil];omega⟩ rfl fun v' G' ho' hG'=>?_
       have hfr:∀ o,o < hi0->G' o=G o:=fun o h=>by rw [hG' o h,upd_ne _ _ _ _ (by omega)]
       refine SS ?_
       refine W.skipLop (k+1,v') hmu2 .auto ⟨ho.frame (Nat.le_refl _) fun o _ h=>hfr o h,h2',by omega,?_⟩
       show Own 3 1 hi0 _ ((ringTo m i (k+1)).map natIV) G' v'
       rw [hst,List.map_append]
       exact ho'.up (by omega)
    ·have hy:inRing m i k=false:=by rw [hin];rcases hno with ⟨h,rfl⟩|⟨h,rfl,rfl⟩<;>rw [h]<;>rfl
     rw [hy,if_neg (by decide),List.append_nil] at hst
     rcases hno with ⟨hA,rfl⟩|⟨hA,rfl,rfl⟩
     iterate 2
      ·refine SS ?_
       refine W.skipLop (k+1,t) hmu2 .auto ⟨ho,h2',by omega,?_⟩
       show Own 3 1 hi0 _ ((ringTo m i (k+1)).map natIV) _ t
       rw [hst]
       exact ht.up (by omega)
   ·have h2':k=m.length:=by have:=of_decide_eq_false h2;omega
    subst h2'
    have hne:=ringTo_ne m i m.length h1'
    have hlen:=ringTo_len m i m.length
    have hlen2:=ringsTo_len m i
    have hfit:=ht.fits1
    have hrdx:=ht.rdx
    generalize hring:ringTo m i m.length=ring at *
    obtain ⟨x,rest,rfl⟩:∃ x rest,ring=x::rest:=by cases ring with
     |nil=>exact (hne rfl).elim
     |cons x rest=>exact ⟨x,rest,rfl⟩
    rcases ht with ⟨hTn,_⟩|⟨ot,ho1,ho2,rfl,hGt⟩
    ·cases hTn
    have f3:(((x::rest).map natIV).map AV.imm)[(0:Int).toNat]? = some (.imm (natIV x)):=rfl
    have f4:(((x::rest).map natIV).map AV.imm).length=((x::rest).map natIV).length:=List.length_map ..
    have f5:((x::rest).map natIV).length=rest.length+1:=by simp
    have his:ringIs m i=((x:Int)==(i:Int)):=by
     unfold ringIs
     rw [hii,hring,beq_cast]
     simp
    rw [his] at hsucc
    rcases Bool.eq_false_or_eq_true ((x:Int)==(i:Int)) with hA|hA
    ·rw [hA,if_pos rfl] at hsucc
     refine SS ?_
     refine R.op1 (O.buildS (n:=1) (ke:=ty30) (xs:=[.row ot ((x::rest).map natIV).length]) rfl rfl rfl (by decide) rfl rfl (by decide)) rfl ?_
     refine R.appOwnV (d':=1) (lo:=1) (hi:=hi0) (ws:=[.row ot ((x::rest).map natIV).length]) (ys:=[natsIV (x::rest)]) rfl rfl rfl (ho.frame (Nat.le_refl _) fun o _ h=>upd_ne _ _ _ _ (by omega)) rfl (by simp [elems,upd]) (by decide) (by decide) rfl rfl (by simp only [List.length_map,List.length_cons,List.length_nil,most];omega) ⟨by omega,by omega⟩ (fun G' h1 h2=>⟨?_,trivial⟩) rfl fun v' G' ho' hG1 hG2=>?_
     ·exact hrdx.frame (fun o ho=>by rw [h2 o ho.1 (by omega),upd_ne _ _ _ _ (by omega)]) fun o ho=>⟨ho.1,by omega⟩
     ·refine SS ?_
      refine W.skipLop (i+1,v') hmu .auto ⟨h1',by omega,?_⟩
      show OwnV 1 44 1 1 _ ((ringsTo m (i+1)).map natsIV) G' v'
      rw [hsucc,List.map_append]
      exact ho'.frame (by simp only [List.length_cons,List.length_nil];omega) fun _ _ _=>rfl
    ·rw [hA,if_neg (by decide),List.append_nil] at hsucc
     refine SS ?_
     refine W.skipLop (i+1,v) hmu .auto ⟨h1',by omega,?_⟩
     show OwnV 1 44 1 1 _ ((ringsTo m (i+1)).map natsIV) _ v
     rw [hsucc]
     exact ho.frame (by omega) fun _ _ _=>rfl
 ·have h1':i=m.length:=by have:=of_decide_eq_false h1;omega
  subst h1'
  refine SS ?_
  refine W.retFin1 rfl ?_
  exact ho.rdx.peek (by decide)
end Go.Abs

/- What is known of programs that have a number of nodes. (No program in sight.) -/
open Go Go.Abs
namespace Go.Abs
set_option maxRecDepth 100000
mutual
theorem expR_ok (srcs defs:List Str) (ahead:Nat):∀ (e:Exp) (depth left:Int),0<=expR srcs defs ahead e depth left->((allE e).length:Int)<=expR srcs defs ahead e depth left/\∀ x∈allE e,namesDef x=true->x.name∈defs
 | .mk op name n fold calcs kids,depth,left,h=>by
  rw [expR] at h ⊢
  rw [allE]
  cases hs:shapeR op with
  |none=>rw [hs] at h;simp at h
  |some s=>
   rw [hs] at h
   dsimp only at h ⊢
   split at h
   ·omega
   ·rename_i hdl
    rw [if_neg hdl]
    split at h
    ·rename_i hh
     rw [if_pos hh]
     split at h
     ·omega
     ·rename_i hc
      rw [if_neg hc]
      have h1:=calcRs_le calcs (Go.Abs.other op) 0 left 1 (by omega) (by omega)
      obtain ⟨a,b⟩:=expRs_ok srcs defs ahead kids depth left _ (by omega) h
      refine ⟨by simp only [List.length_cons];omega,fun x hx hn=>?_⟩
      rcases List.mem_cons.1 hx with rfl|hx
      ·have hni:nameIs srcs defs ahead op name=true:=by
        unfold headIs at hh
        simp only [Bool.and_eq_true] at hh
        exact hh.2
       unfold nameIs at hni
       unfold namesDef at hn
       simp only [Exp.op,Bool.or_eq_true,beq_iff_eq] at hn
       rcases hn with rfl|rfl
       ·simp at hni
        exact List.mem_of_mem_take hni
       ·simp at hni
        exact hni
      ·exact b x hx hn
    ·omega
theorem expRs_ok (srcs defs:List Str) (ahead:Nat):∀ (l:List Exp) (depth left n:Int),0<=n->0<=expRs srcs defs ahead l depth left n->((allEs l).length:Int)+n<=expRs srcs defs ahead l depth left n/\∀ x∈allEs l,namesDef x=true->x.name∈defs
 |[],_,_,n,h0,h=>by rw [expRs,allEs];exact ⟨by simp,fun x hx=>by cases hx⟩
 |k::r,depth,left,n,h0,h=>by
  rw [expRs] at h ⊢
  rw [allEs]
  split at h
  ·omega
  ·rename_i hk
   rw [if_neg hk]
   obtain ⟨a,b⟩:=expR_ok srcs defs ahead k (depth+1) (left-n) (by omega)
   obtain ⟨c,d⟩:=expRs_ok srcs defs ahead r depth left _ (by omega) h
   refine ⟨by simp only [List.length_append];omega,fun x hx hn=>?_⟩
   rcases List.mem_append.1 hx with hx|hx
   ·exact b x hx hn
   ·exact d x hx hn
end
theorem countL_ok (srcs names:List Str):∀ (ds:List Dfn) (i:Nat) (n:Int),0<=n/\n<=60->0<=countL srcs names ds i n->(countL srcs names ds i n<=60)/\∀ d∈ds,(allE d.exp).length<=60/\∀ x∈allE d.exp,namesDef x=true->x.name∈names
 |[],_,n,hn,h=>by rw [countL];exact ⟨hn.2,fun d hd=>by cases hd⟩
 |d::r,i,n,hn,h=>by
  rw [countL] at h ⊢
  split at h
  ·omega
  ·rename_i hk
   rw [if_neg hk]
   have hle:=expR_le srcs names i d.exp 1 (60-n)
   obtain ⟨a,b⟩:=expR_ok srcs names i d.exp 1 (60-n) (by omega)
   obtain ⟨c,e⟩:=countL_ok srcs names r (i+1) _ (by omega) h
   refine ⟨c,fun x hx=>?_⟩
   rcases List.mem_cons.1 hx with rfl|hx
   ·exact ⟨by omega,b⟩
   ·exact e x hx
structure Pgm.Good (p:Pgm):Prop where
 defs:p.defs.length<=6
 srcs:p.srcs.length<=4
 size:∀ d∈p.defs,(allE d.exp).length<=60
 names:∀ d∈p.defs,∀ x∈allE d.exp,namesDef x=true->x.name∈defNames p
theorem countR_good {p:Pgm} (h:0<=countR p):p.Good:=by
 unfold countR at h
 split at h
 ·omega
 ·rename_i h0
  split at h
  ·obtain ⟨_,b⟩:=countL_ok p.srcs (defNames p) p.defs 0 0 (by omega) h
   exact ⟨by omega,by omega,fun d hd=>(b d hd).1,fun d hd=>(b d hd).2⟩
  ·omega
theorem idxFrom_mem {s:Str}:∀ {l:List Str} {k:Nat},s∈l->∃ n:Nat,idxFrom l s k=(n:Int)/\k<=n/\n < k+l.length
 |x::r,k,h=>by
  unfold idxFrom
  by_cases hx:(x==s)=true
  ·rw [if_pos hx];exact ⟨k,rfl,Nat.le_refl _,by simp⟩
  ·rw [if_neg hx]
   have hne:s≠x:=fun e=>hx (by rw [e];simp)
   obtain ⟨n,a,b,c⟩:=idxFrom_mem (l:=r) (k:=k+1) (by rcases List.mem_cons.1 h with h|h;exact absurd h hne;exact h)
   exact ⟨n,a,by omega,by simp only [List.length_cons];omega⟩
def tosR (p:Pgm):List (List Nat):=(stepsR p).map fun t=>t.map Int.toNat
theorem Pgm.Good.steps {p:Pgm} (h:p.Good):stepsR p=(tosR p).map (fun t=>t.map Int.ofNat)/\(tosR p).length=p.defs.length/\(∀ t∈tosR p,t.length<=60)/\∀ t∈tosR p,∀ x∈t,x < (tosR p).length:=by
 have hl:(tosR p).length=p.defs.length:=by simp [tosR,stepsR]
 have hnl:(defNames p).length=p.defs.length:=by have:=h.defs;simp [defNames];omega
 refine ⟨?_,hl,?_,?_⟩
 ·unfold tosR
  rw [List.map_map]
  conv=>lhs;rw [<-List.map_id (stepsR p)]
  apply List.map_congr_left
  intro t ht
  simp only [id,Function.comp,List.map_map]
  conv=>lhs;rw [<-List.map_id t]
  apply List.map_congr_left
  intro x hx
  simp only [stepsR,List.mem_map] at ht
  obtain ⟨d,hd,rfl⟩:=ht
  simp only [stepsL,List.mem_map,List.mem_filter] at hx
  obtain ⟨y,⟨hy,hn⟩,rfl⟩:=hx
  obtain ⟨n,hn',_⟩:=idxFrom_mem (k:=0) (h.names d hd y hy hn)
  have hn':idxFrom (defNames p) y.name 0=(n:Int):=hn'
  rw [hn'];rfl
 ·intro t ht
  simp only [tosR,stepsR,List.map_map,List.mem_map] at ht
  obtain ⟨d,hd,rfl⟩:=ht
  have:=stepsL_len (defNames p) (allE d.exp)
  have:=h.size d hd
  simp only [Function.comp,List.length_map]
  omega
 ·intro t ht x hx
  simp only [tosR,stepsR,List.map_map,List.mem_map] at ht
  obtain ⟨d,hd,rfl⟩:=ht
  simp only [Function.comp,stepsL,List.mem_map,List.mem_filter] at hx
  obtain ⟨z,⟨y,⟨hy,hn⟩,rfl⟩,rfl⟩:=hx
  obtain ⟨n,hn',_,hlt⟩:=idxFrom_mem (k:=0) (h.names d hd y hy hn)
  have hn':idxFrom (defNames p) y.name 0=(n:Int):=hn'
  rw [hn',hl]
  show n < _
  omega
end Go.Abs

/- The reference: which programs are formed, and how many nodes they have. -/
open Go Go.Abs
namespace Go.Abs
set_option maxRecDepth 100000
set_option maxHeartbeats 4000000
instance fnis36:FnIs CC 20:=⟨rfl,fun _=>rfl⟩
def foreAt (defs:List Dfn) (k:Nat):Bool:=match defs[k]? with
 |some d=>aheadE d.exp
 |none=>false
noncomputable def ringsOf (p:Pgm):List (List Nat):=ringsR (reachR (tosR p))
noncomputable def progR (p:Pgm):Bool:=if countR p < 0 then false else (ringsOf p).all fun ring=>ring.all fun k => !foreAt p.defs k
theorem reachR_len (tos:List (List Nat)):(reachR tos).length=tos.length:=by simp [reachR]
theorem reachR_row {tos:List (List Nat)}:∀ row∈reachR tos,row.length=(reachR tos).length:=by
 intro row hr
 simp only [reachR,List.mem_map] at hr
 obtain ⟨i,_,rfl⟩:=hr
 simp [reachRow,reachR]
theorem ringsTo_lt {m:List (List Bool)} {i:Nat}:∀ r∈ringsTo m i,∀ k∈r,k < m.length:=by
 intro r hr k hk
 simp only [ringsTo,List.mem_map] at hr
 obtain ⟨i,_,rfl⟩:=hr
 simp only [ringTo,List.mem_filter,List.mem_range] at hk
 exact hk.1
theorem Pgm.Good.ret53 {p:Pgm} (h:p.Good) (hp:p.Fits):Ret CC 128 [p.iv] (.lst ((reachR (tosR p)).map boolsIV)):=by
 obtain ⟨h1,h2,h3,h4⟩:=h.steps
 exact Go.Abs.ret53 p hp h.defs (fun d hd=>by have:=h.size d hd;omega) (tosR p) h1 (fun t ht=>by have:=h3 t ht;omega) h4
theorem Pgm.Good.ret55 {p:Pgm} (h:p.Good) (hp:p.Fits):Ret CC 66 [p.iv] (.lst ((ringsOf p).map natsIV)):=
 Go.Abs.ret55 p _ (h.ret53 hp) reachR_row (by rw [reachR_len,h.steps.2.1];exact h.defs)
theorem Pgm.Good.rings_lt {p:Pgm} (h:p.Good):∀ r∈ringsOf p,∀ k∈r,k < p.defs.length:=by
 intro r hr k hk
 have:=ringsTo_lt r hr k hk
 rwa [reachR_len,h.steps.2.1] at this
theorem ringsOf_len {p:Pgm} (h:p.Good):(ringsOf p).length<=6:=by
 have:=ringsTo_len (reachR (tosR p)) (reachR (tosR p)).length
 unfold ringsOf ringsR
 rw [reachR_len,h.steps.2.1] at this ⊢
 have:=h.defs
 omega
theorem ringsOf_le {p:Pgm} (h:p.Good):∀ r∈ringsOf p,r.length<=6:=by
 intro r hr
 simp only [ringsOf,ringsR,ringsTo,List.mem_map] at hr
 obtain ⟨i,_,rfl⟩:=hr
 have:=ringTo_len (reachR (tosR p)) i (reachR (tosR p)).length
 rw [reachR_len,h.steps.2.1] at this ⊢
 have:=h.defs
 omega
theorem all_take {α:Type} {p:α->Bool} {l:List α} {i:Nat} {x:α} (h:l[i]? = some x) (hi:(l.take i).all p=true) (hx:p x=true):(l.take (i+1)).all p=true:=by
 rw [List.take_add_one,h,List.all_append,hi];simp [hx]
theorem all_of_take {α:Type} {p:α->Bool} {l:List α} {i:Nat} (h:l.length<=i) (hi:(l.take i).all p=true):l.all p=true:=by
 rw [List.take_of_length_le h] at hi;exact hi
theorem all_not {α:Type} {p:α->Bool} {l:List α} {i:Nat} {x:α} (h:l[i]? = some x) (hx:p x=false):l.all p=false:=
 List.all_eq_false.2 ⟨x,List.mem_of_getElem? h,by rw [hx];decide⟩
theorem ret36 (p:Pgm) (hp:p.Fits):Ret CC 20 [p.iv] (.bool (progR p)):=by
 have hr65:=ret65 p hp
 by_cases hc:0<=countR p
 ·have hg:=countR_good hc
  have hr55:=hg.ret55 hp
  have hlt:=hg.rings_lt
  have hrl:=ringsOf_len hg
  have hre:=ringsOf_le hg
  have hsz:=hg.size
  have hpr:progR p=(ringsOf p).all fun ring=>ring.all fun k => !foreAt p.defs k:=by unfold progR;rw [if_neg (by omega)]
  rw [hpr]
  clear hpr
  generalize ringsOf p=rings at *
  have hd6:=hg.defs
  obtain ⟨srcs,defs⟩:=p
  simp only at hlt hsz hd6 ⊢
  have hdm:(defs.map Dfn.iv).length=defs.length:=List.length_map ..
  have hrm:(rings.map natsIV).length=rings.length:=List.length_map ..
  have hneg:decide (countR ⟨srcs,defs⟩ < 0)=false:=by simp;omega
  refine Ret.of (fn:=Go.Proofs.Tryz.f20) (by kernel_rfl) rfl rfl ?_
  refine W.seq (W.region ?_)
  refine R.op1 (O.boxS (cs:=[.imm (.lst (srcs.map sv)), .imm (.lst (defs.map Dfn.iv))]) rfl rfl rfl) rfl ?_
  refine SS ?_
  refine W.loop (X:=Nat) (fun i=>[(1, .ptr 0 0),(3, .imm (.lst (rings.map natsIV))),(4, .imm (.int .i64 i))])
   (fun i nx G=>G 0 = .box [.imm (.lst (srcs.map sv)), .imm (.lst (defs.map Dfn.iv))] false/\i<=rings.length/\(rings.take i).all (fun ring=>ring.all fun k => !foreAt defs k)=true) (fun i=>rings.length-i) 0
   .auto ⟨rfl,Nat.zero_le _,rfl⟩ ?_
  rintro i nx G ⟨hG,hi,ha⟩
  refine SS ?_
  refine W.cond rfl (fun h1=>?_) (fun h1=>?_)
  ·have h1':i < rings.length:=by have:=of_decide_eq_true h1;omega
   have hmu:rings.length-(i+1) < rings.length-i:=by omega
   obtain ⟨ring,hx⟩:=at_lt h1'
   have hxi:=at_map natsIV hx
   have hmem:=List.mem_of_getElem? hx
   have hrg:(ring.map natIV).length=ring.length:=List.length_map ..
   have hr6:=hre ring hmem
   refine SS ?_
   refine W.loop (X:=Nat) (fun j=>[(1, .ptr 0 0),(3, .imm (.lst (rings.map natsIV))),(4, .imm (.int .i64 i)),(5, .imm (.int .i64 j))])
    (fun j nx G=>G 0 = .box [.imm (.lst (srcs.map sv)), .imm (.lst (defs.map Dfn.iv))] false/\j<=ring.length/\(ring.take j).all (fun k => !foreAt defs k)=true) (fun j=>ring.length-j) 0
    .auto ⟨hG,Nat.zero_le _,rfl⟩ ?_
   clear hG
   rintro j nx G ⟨hG,hj,hb⟩
   refine SS ?_
   refine W.cond rfl (fun h2=>?_) (fun h2=>?_)
   ·have h2':j < ring.length:=by have:=of_decide_eq_true h2;omega
    have hmu2:ring.length-(j+1) < ring.length-j:=by omega
    obtain ⟨k,hk⟩:=at_lt h2'
    have hki:=at_map natIV hk
    have hkn:=hlt ring hmem k (List.mem_of_getElem? hk)
    obtain ⟨d,hd⟩:=at_lt hkn
    have hdi:=at_map Dfn.iv hd
    have hdc:=d.cells_len
    have hdm:=List.mem_of_getElem? hd
    have hr68:=ret68 (hp.exp d hdm) (by have:=hsz d hdm;omega)
    have hfa:foreAt defs k=aheadE d.exp:=by unfold foreAt;rw [hd]
    have yes:=fun h=>all_not (p:=fun k => !foreAt defs k) hk h
    have no:=fun h=>all_take (p:=fun k => !foreAt defs k) hk hb h
    have yes2:=fun h=>all_not (p:=fun ring=>ring.all fun k => !foreAt defs k) hx h
    rw [hfa] at yes no
    obtain ⟨nm,⟨o',s',n',f',c',k'⟩⟩:=d
    simp only at hr68 yes no
    generalize aheadE (.mk o' s' n' f' c' k')=b at hr68 yes no
    cases b with
    |true=>
     refine SS ?_
     exact W.retFin1 rfl ⟨[],by rw [yes2 (yes rfl)];rfl⟩
    |false=>
     refine SS ?_
     exact W.skipLop (j+1) hmu2 .auto ⟨hG,h2',no rfl⟩
   ·have h2':ring.length<=j:=by have:=of_decide_eq_false h2;omega
    have hall:=all_of_take h2' hb
    refine SS ?_
    exact W.skipLop (i+1) hmu .auto ⟨hG,h1',all_take hx ha hall⟩
  ·have h1':rings.length<=i:=by have:=of_decide_eq_false h1;omega
   have hall:=all_of_take h1' ha
   refine SS ?_
   exact W.retFin1 rfl ⟨[],by rw [hall];rfl⟩
 ·have hpr:progR p=false:=by unfold progR;rw [if_pos (by omega)]
  rw [hpr]
  have hneg:decide (countR p < 0)=true:=by simp;omega
  obtain ⟨srcs,defs⟩:=p
  refine Ret.of (fn:=Go.Proofs.Tryz.f20) (by kernel_rfl) rfl rfl ?_
  refine W.seq (W.region ?_)
  refine R.op1 (O.boxS (cs:=[.imm (.lst (srcs.map sv)), .imm (.lst (defs.map Dfn.iv))]) rfl rfl rfl) rfl ?_
  refine SS ?_
  exact W.retFin1 rfl ⟨[],rfl⟩
end Go.Abs

/- The abstract interpreter: a logic of what code comes to: panics, deferred calls. -/
namespace Go.Abs
variable {C:Cfg} {fid nt:Nat} {l:Env} {G G':Nat->Obj} {nx:Nat} {df:List (AV×List AV)} {pk:Pk} {Φ Φ':Out->Prop} {a b:Code} {ol r:List Oper} {base i d:Nat} {ty:TypeId} {pos:String} {af:Array Edge} {v:AV} {id:Nat}
def CalP (C:Cfg) (f:FuncId) (vs:List AV) (G:Nat->Obj) (nx:Nat) (Ψ:CR->Prop):Prop:=∃ n r,(low C n).call f vs .no G nx=some (r, .no)/\Ψ r
def RndP (C:Cfg) (q:Nat) (vs:List AV) (G:Nat->Obj) (nx:Nat) (Ψ:CR->Prop):Prop:=∃ n r,(low C n).round q vs G nx=some (r, .no)/\Ψ r
theorem CalP.mono {f:FuncId} {vs:List AV} {Ψ Ψ':CR->Prop} (h:CalP C f vs G nx Ψ) (hi:∀ r,Ψ r->Ψ' r):CalP C f vs G nx Ψ':=by
 obtain ⟨n,r,h1,h2⟩:=h
 exact ⟨n,r,h1,hi _ h2⟩
theorem RndP.mono {q:Nat} {vs:List AV} {Ψ Ψ':CR->Prop} (h:RndP C q vs G nx Ψ) (hi:∀ r,Ψ r->Ψ' r):RndP C q vs G nx Ψ':=by
 obtain ⟨n,r,h1,h2⟩:=h
 exact ⟨n,r,h1,hi _ h2⟩
def noPan (Ψ:AV->(Nat->Obj)->Nat->Prop):CR->Prop
 | .ret v G nx=>Ψ v G nx
 | .pan _ _ _=>False
def finP (C:Cfg) (rs:List ResultVar) (Ψ:CR->Prop):Out->Prop
 | .norm s | .ret s=>s.defers=[]/\s.pk = .no/\∃ v,resultsA C s rs=some v/\Ψ (.ret v s.G s.nx)
 | .pan v s=>s.defers=[]/\s.pk = .no/\Ψ (.pan v s.G s.nx)
 | .exit _ _=>False
theorem CalP.of {f:FuncId} {fn:Func} {b:Code} {vs:List AV} {Ψ:CR->Prop} (hf:C.fn f=some fn) (hb:fn.body=some b) (hn:Nat.ble vs.length fn.ntmps=true)
  (h:W C f fn.ntmps b (envOf 0 vs) G nx [] .no (finP C fn.results.toList Ψ)) (ha:C.at f=C:=by exact rfl):CalP C f vs G nx Ψ:=by
 obtain ⟨n,o,h1,h2⟩:=h.st _ (agree_init vs)
 have hn:=Nat.le_of_ble_eq_true hn
 have go:∀ s:St,(s.defers=[]/\s.pk = .no/\∃ v,resultsA C s fn.results.toList=some v/\Ψ (.ret v s.G s.nx))->∃ v,leaveA C (low C n) fn.results.toList s.defers none s=some (.ret v s.G s.nx, .no)/\Ψ (.ret v s.G s.nx):=by
  intro s ⟨hd,hp,v,hv,hΨ⟩
  exact ⟨v,by rw [hd];simp only [leaveA,hv,hp],hΨ⟩
 cases o with
 |norm s=>
  obtain ⟨v,h3,h4⟩:=go s h2
  exact ⟨n+1,_,by simp only [low,ha,callF,hf,hb,if_pos hn,h1,h3],h4⟩
 |ret s=>
  obtain ⟨v,h3,h4⟩:=go s h2
  exact ⟨n+1,_,by simp only [low,ha,callF,hf,hb,if_pos hn,h1,h3],h4⟩
 |exit _ _=>exact h2.elim
 |pan v s=>
  obtain ⟨hd,hp,h4⟩:=h2
  exact ⟨n+1,_,by simp only [low,ha,callF,hf,hb,if_pos hn,h1,hd,leaveA,hp],h4⟩
def RetPan (C:Cfg) (f:FuncId) (ivs:List IV) (v:IV):Prop:=∃ n G' nx' pk',(low C n).call f (ivs.map .imm) .no (fun _ => .gone) 0=some (.pan v G' nx',pk')/\v.scalar=true
theorem R.pan {o:Oper} {v:IV} {G':Nat->Obj} {nx':Nat} (hg:o.guard=none) (h:∀ t,Agree t l->∃ n,opA C (low C n) (base+i) ⟨t,G,nx,df,pk⟩ o.op=some (.pan v ⟨t,G',nx',df,pk⟩))
  (next:∀ t,Agree t l->Φ (.pan v ⟨t,G',nx',df,pk⟩)):R C nt ol base i (o::r) l G nx df pk Φ:=by
 refine .mk fun t ht=>?_
 obtain ⟨n,hn⟩:=h t ht
 refine ⟨n,_,?_,next t ht⟩
 unfold runL stepA
 simp only [wantA,hg,hn]
theorem R.callPan {o:Option Nat} {f:FuncId} {ars:List Operand} {ats:Array TypeId} {vs:List AV} {ivs:List IV} {v:IV} [hf:FnIs C f] (ha:looks l ars=some vs) (hi:imms vs=some ivs) (hr:RetPan C f ivs v)
  (next:∀ t,Agree t l->Φ (.pan v ⟨t,G,nx,df,pk⟩)):R C nt ol base i (⟨o, .call { callee := .value (.func f),args:=⟨ars⟩,argTypes:=ats },ty,pos,af,none⟩::r) l G nx df pk Φ:=by
 obtain ⟨n,G',nx',pk',h1,hs⟩:=hr
 refine R.pan rfl (fun t ht=>⟨n,?_⟩) next
 obtain rfl:=imms_eq hi
 simp only [opA,ev,aCall,fnOf,List.map_nil,List.append_nil,callA,hf.byref,Bool.false_eq_true,if_false,ht.evs ha,peeks_imm,hf.orc,h1,hs,if_true]
theorem R.callBP {f:Operand} {ars:List Operand} {ats:Array TypeId} {vs cap:List AV} {fv:AV} {k:FuncId} (hf:lookO l f=some fv) (hfn:fnOf fv=some (.func k,cap)) (hb:C.byref k=true) (ha:looks l ars=some vs) (hd:Nat.ble (d+1) nt=true)
  (hr:CalP C k (vs++cap) G nx fun
   | .ret v G' nx'=>R C nt ol base (i+1) r ((d,v)::l) G' nx' df pk Φ
   | .pan v G' nx'=>∀ t,Agree t l->Φ (.pan v ⟨t,G',nx',df,pk⟩)) :
  R C nt ol base i (⟨some d, .call { callee := .value f,args:=⟨ars⟩,argTypes:=ats },ty,pos,af,none⟩::r) l G nx df pk Φ:=by
 obtain ⟨n,cr,h1,h2⟩:=hr
 have this:∀ t,aCall C (low C n) (base+i) ⟨t,G,nx,df,pk⟩ fv vs=callA C (low C n) (base+i) ⟨t,G,nx,df,pk⟩ k (vs++cap):=by
  intro t
  unfold aCall
  split
  ·cases hfn
  ·rw [hfn]
 cases cr with
 |ret v G' nx'=>
  refine R.wr (G':=G') (nx':=nx') (fun t ht=>⟨n,?_⟩) hd h2
  simp only [opA,ht.ev hf,ht.evs ha,this,callA,hb,if_true,h1]
 |pan v G' nx'=>
  refine R.pan rfl (fun t ht=>⟨n,?_⟩) h2
  simp only [opA,ht.ev hf,ht.evs ha,this,callA,hb,if_true,h1]
theorem R.roundP {f:Operand} {ars:List Operand} {ats:Array TypeId} {vs:List AV} {q:Nat} (hf:lookO l f=some (.yld q)) (ha:looks l ars=some vs) (hd:Nat.ble (d+1) nt=true)
  (hr:RndP C q vs G nx fun
   | .ret v G' nx'=>R C nt ol base (i+1) r ((d,v)::l) G' nx' df pk Φ
   | .pan v G' nx'=>∀ t,Agree t l->Φ (.pan v ⟨t,G',nx',df,pk⟩)) :
  R C nt ol base i (⟨some d, .call { callee := .value f,args:=⟨ars⟩,argTypes:=ats },ty,pos,af,none⟩::r) l G nx df pk Φ:=by
 obtain ⟨n,cr,h1,h2⟩:=hr
 cases cr with
 |ret v G' nx'=>
  refine R.wr (G':=G') (nx':=nx') (fun t ht=>⟨n,?_⟩) hd h2
  simp only [opA,ht.ev hf,aCall,ht.evs ha,h1]
 |pan v G' nx'=>
  refine R.pan rfl (fun t ht=>⟨n,?_⟩) h2
  simp only [opA,ht.ev hf,aCall,ht.evs ha,h1]
/-! ### rounds -/
def frdP (q:Nat) (Ψ:CR->Prop):Out->Prop
 | .norm s=>∃ t n p a b f e,s.G q = .lp t n p a b f 1 e/\Ψ (.ret (.imm (.bool true)) (upd s.G q (.lp t n p a b f 0 none)) s.nx)
 | .exit id s=>∃ t n p a b f e,s.G q = .lp t n p a b f 1 e/\Ψ (.ret (.imm (.bool false)) (upd s.G q (.lp t n p a b f 2 (some (.exit id)))) s.nx)
 | .ret s=>∃ t n p a b f e,s.G q = .lp t n p a b f 1 e/\Ψ (.ret (.imm (.bool false)) (upd s.G q (.lp t n p a b f 2 (some .ret))) s.nx)
 | .pan v s=>s.defers=[]/\Ψ (.pan v s.G s.nx)
def astP (C:Cfg) (q fid nt:Nat) (body:Code) (Ψ:CR->Prop):Out->Prop
 | .norm s=>∃ t n p a b f e,s.G q = .lp t n p a b f 0 e/\Wst C fid nt body { s with G:=upd s.G q (.lp t n p a b f 1 e) } (frdP q Ψ)
 |_=>False
theorem RndP.of {q:Nat} {vs:List AV} {Ψ:CR->Prop} {t:Nat->AV} {ps:List Nat} {assign body:Code} {e:Option Code} (hfn:(C.fn fid).isSome=true) (hq:G q = .lp t nt ps assign body fid 0 e) (ht:Agree t l) (hl:ps.length=vs.length) (hps:(ps.all fun t=>decide (t < nt))=true)
  (h:W C fid nt assign (bindE l (ps.zip vs)) G nx [] .rnd (astP C q fid nt body Ψ)) (hg:C.ground=C:=by exact rfl):RndP C q vs G nx Ψ:=by
 obtain ⟨n,o,h1,h2⟩:=h.st _ (agree_bind (ps.zip vs) ht)
 cases o with
 |norm s=>
  obtain ⟨t2,n2,p2,a2,b2,f2,e2,h3,m,o,h4,h5⟩:=h2
  have e1:=code_mono (low_mono (Nat.le_max_left n m)) (Nat.le_max_left n m) _ _ _ h1
  have e4:=code_mono (low_mono (Nat.le_max_right n m)) (Nat.le_max_right n m) _ _ _ h4
  cases o with
  |norm s1=>
   obtain ⟨t3,n3,p3,a3,b3,f3,e3,h6,h7⟩:=h5
   exact ⟨max n m+1,_,by simp only [low,hg,roundF,hq,hl,hps,true_and,if_true,e1,h3,e4,h6],h7⟩
  |exit id s1=>
   obtain ⟨t3,n3,p3,a3,b3,f3,e3,h6,h7⟩:=h5
   exact ⟨max n m+1,_,by simp only [low,hg,roundF,hq,hl,hps,true_and,if_true,e1,h3,e4,h6],h7⟩
  |ret s1=>
   obtain ⟨t3,n3,p3,a3,b3,f3,e3,h6,h7⟩:=h5
   exact ⟨max n m+1,_,by simp only [low,hg,roundF,hq,hl,hps,true_and,if_true,e1,h3,e4,h6],h7⟩
  |pan v s1=>
   obtain ⟨h6,h7⟩:=h5
   exact ⟨max n m+1,_,by simp only [low,hg,roundF,hq,hl,hps,true_and,if_true,e1,h3,e4,h6,hfn,List.isEmpty_nil,Bool.and_self],h7⟩
 |_=>exact h2.elim
theorem W.skipFrdP {q:Nat} {Ψ:CR->Prop} {t:Nat->AV} {n:Nat} {p:List Nat} {a b:Code} {f:FuncId} {e:Option Code} (hG:G q = .lp t n p a b f 1 e) (h:Ψ (.ret (.imm (.bool true)) (upd G q (.lp t n p a b f 0 none)) nx)) :
  W C fid nt .skip l G nx df pk (frdP q Ψ) := .skip fun _ _=>⟨t,n,p,a,b,f,e,hG,h⟩
theorem W.retFrdP {q:Nat} {Ψ:CR->Prop} {t:Nat->AV} {n:Nat} {p:List Nat} {a b:Code} {f:FuncId} {e:Option Code} (hG:G q = .lp t n p a b f 1 e) (h:Ψ (.ret (.imm (.bool false)) (upd G q (.lp t n p a b f 2 (some .ret))) nx)) :
  W C fid nt .ret l G nx df pk (frdP q Ψ) := .ret fun _ _=>⟨t,n,p,a,b,f,e,hG,h⟩
def rngP (q:Nat) (t:Nat->AV) (df:List (AV×List AV)) (pk:Pk) (Φ:Out->Prop):CR->Prop
 | .ret v G1 nx1=>rng q t df pk Φ v G1 nx1
 | .pan v G1 nx1=>Φ (.pan v ⟨t,G1,nx1,df,pk⟩)
theorem W.rangeP {f:Operand} {ps:Array Nat} {assign body:Code} {fv:AV} {k:FuncId} {cap:List AV} (hf:lookO l f=some fv) (hfn:fnOf fv=some (.func k,cap)) (hb:C.byref k=true) (hpk:pk.isRnd=false)
  (h:∀ t,Agree t l->CalP C k (.yld nx::cap) (upd G nx (.lp t nt ps.toList assign body fid 0 none)) (nx+2) (rngP nx t df pk Φ)):W C fid nt (.rangeFunc f ps assign body) l G nx df pk Φ:=by
 refine .mk fun t ht=>?_
 obtain ⟨n,cr,h1,h2⟩:=h t ht
 have hk:∀ lf,code C (low C n) lf fid nt (.rangeFunc f ps assign body) ⟨t,G,nx,df,pk⟩=rangeA C (low C n) fid nt (Go.Abs.ev t f) ps.toList assign body ⟨t,G,nx,df,pk⟩:=by
  intro lf
  unfold code
  cases pk<;>first|rfl|(simp [Pk.isRnd] at hpk)
 cases cr with
 |ret v G1 nx1=>
  obtain ⟨t2,n2,p2,a2,b2,f2,st,pend,h2,h3,h4⟩:=h2
  have e:rangeA C (low C n) fid nt (Go.Abs.ev t f) ps.toList assign body ⟨t,G,nx,df,pk⟩=pendOut ⟨t,upd G1 nx .gone,nx1,df,pk⟩ pend:=by
   unfold rangeA
   simp only [ht.ev hf,hfn,callA,hb,if_true,h1,h2,if_neg h3]
   clear h2 h4
   rcases pend with _|c
   ·rfl
   ·cases c<;>rfl
  clear h2
  rcases pend with _|c
  ·exact ⟨n,_,by rw [hk,e];rfl,h4⟩
  ·cases c with
   |exit id=>exact ⟨n,_,by rw [hk,e];rfl,h4⟩
   |ret=>exact ⟨n,_,by rw [hk,e];rfl,h4⟩
   |_=>exact h4.elim
 |pan v G1 nx1=>
  refine ⟨n, .pan v ⟨t,G1,nx1,df,pk⟩,?_,h2⟩
  rw [hk]
  unfold rangeA
  simp only [ht.ev hf,hfn,callA,hb,if_true,h1]
end Go.Abs

/- The abstract interpreter: a logic of what code comes to: panics where the order is drawn, deferred calls, maps. -/
namespace Go.Abs
variable {C:Cfg} {fid nt:Nat} {l:Env} {G G':Nat->Obj} {nx:Nat} {df:List (AV×List AV)} {pk:Pk} {Φ Φ':Out->Prop} {a b:Code} {ol r:List Oper} {base i d:Nat} {ty:TypeId} {pos:String} {af:Array Edge} {v:AV} {id:Nat}
/-! ### regions that draw their order, and panic -/
def Fp.quiet (f:Fp):Bool:=f.wr.isEmpty&&f.fz.isEmpty
def restOK (ops:Array Oper) (i:Nat):List Nat->Bool
 |[]=>true
 |j::r=>ordered ops i j&&restOK ops i r
theorem runX_rest {L:Low} {ops:Array Oper} {i:Nat}:∀ (js:List Nat) (s:St),restOK ops i js=true->runX C L nt ops base js [i] s=some []
 |[],_,_=>rfl
 |j::r,s,h=>by
  unfold restOK at h
  rw [Bool.and_eq_true] at h
  unfold runX
  rw [if_pos (by simp [h.1])]
  exact runX_rest r s h.2
structure DX (C:Cfg) (nt:Nat) (ol:List Oper) (l0:Env) (base i:Nat) (r:List Oper) (l:Env) (G:Nat->Obj) (nx:Nat) (df:List (AV×List AV)) (pk:Pk) (fs:List Fp) (Φ:Out->Prop):Prop where
 st:ol.drop i=r->∀ t,Agree t l->∃ N pre fp v,(∀ n,N<=n->(∀ fs0,runE C (low C n) nt ⟨ol⟩ base i r fs0 ⟨t,G,nx,df,pk⟩=none)/\runX C (low C n) nt ⟨ol⟩ base (List.range' i r.length) [] ⟨t,G,nx,df,pk⟩=some (pre.map (fun f=>(f,none))++[(fp,some v)])) /\
  (pre.all Fp.quiet=true/\fp.quiet=true)/\(drawOK ⟨ol⟩ (fs.reverse++(pre++[fp]))&&edgesOK ⟨ol⟩)=true/\∀ t',Agree t' l0->Φ (.pan v ⟨t',G,nx,df,pk⟩)
theorem contains_nil (q:Nat):([]:List Nat).contains q=false:=rfl
def keepE (ol:List Oper):Env->Env
 |[]=>[]
 |(i,v)::r=>bif ol.any (fun o=>match o.dst with|some d=>Nat.beq d i|none=>false) then keepE ol r else (i,v)::keepE ol r
theorem keepE_ok {ol:List Oper} {i:Nat} {v:AV}:∀ {l:Env},look (keepE ol l) i=some v->look l i=some v/\ol.any (fun o=>o.dst==some i)=false
 |[],h=>by cases h
 |(j,w)::r,h=>by
  unfold keepE at h
  cases hc:ol.any (fun o=>match o.dst with|some d=>Nat.beq d j|none=>false) with
  |true=>
   rw [hc] at h
   obtain ⟨h1,h2⟩:=keepE_ok (l:=r) h
   refine ⟨?_,h2⟩
   unfold look
   split
   ·rename_i hb
    have e:i=j:=Nat.eq_of_beq_eq_true hb
    subst e
    exfalso
    rw [List.any_eq_true] at hc
    obtain ⟨o,ho,hd⟩:=hc
    rw [List.any_eq_false] at h2
    have:=h2 o ho
    split at hd
    ·rename_i d he
     have e:d=i:=Nat.eq_of_beq_eq_true hd
     subst e
     rw [he] at this;simp at this
    ·cases hd
   ·exact h1
  |false=>
   rw [hc] at h
   simp only [cond_false] at h
   unfold look at h ⊢
   split at h
   ·rename_i hb
    refine ⟨h,?_⟩
    have e:i=j:=Nat.eq_of_beq_eq_true hb
    subst e
    rw [List.any_eq_false] at hc ⊢
    intro o ho hd
    have hd:o.dst=some i:=by simpa using hd
    apply hc o ho
    rw [hd]
    exact Nat.beq_refl i
   ·exact keepE_ok (l:=r) h
theorem W.drawX {k:Nat} {ol:List Oper} (h:DX C nt ol (keepE ol l) nx 0 ol l G (nx+ol.length) df pk [] Φ):W C fid nt (.region k ⟨ol⟩ true) l G nx df pk Φ:=by
 refine .mk fun t ht=>?_
 obtain ⟨N,pre,fp,v,h1,⟨hq,hq2⟩,hk,hΦ⟩:=h.st rfl t ht
 obtain ⟨h1,h2⟩:=h1 N (Nat.le_refl _)
 have h1:=h1 []
 rw [<-runP_eq C (low C N) nt ⟨ol⟩ nx ol 0 _ _ rfl,<-List.range_eq_range'] at h1
 rw [<-List.range_eq_range'] at h2
 have e1:runP C (low C N) nt ⟨ol⟩ nx (List.range (Array.mk ol).size) [] { tmps:=t,G:=G,nx:=nx+(Array.mk ol).size,defers:=df,pk:=pk }=none:=h1
 have e2:runX C (low C N) nt ⟨ol⟩ nx (List.range (Array.mk ol).size) [] { tmps:=t,G:=G,nx:=nx+(Array.mk ol).size,defers:=df,pk:=pk }=_:=h2
 have hall:(pre++[fp]).all Fp.quiet=true:=by simp [hq,hq2]
 have hwr:∀ f∈pre++[fp],f.wr=[]/\f.fz=[]:=fun f hf=>by
  have:=List.all_eq_true.1 hall f hf
  unfold Fp.quiet at this
  simpa using this
 have hm1:(pre.map (fun f=>(f,(none:Option IV)))++[(fp,some v)]).filterMap (·.2)=[v]:=by
  rw [List.filterMap_append]
  have:(pre.map (fun f=>(f,(none:Option IV)))).filterMap (·.2)=[]:=by
   rw [List.filterMap_eq_nil_iff];intro x hx;obtain ⟨f,_,rfl⟩:=List.mem_map.1 hx;rfl
  rw [this];rfl
 have hm2:(pre.map (fun f=>(f,(none:Option IV)))++[(fp,some v)]).map (·.1)=pre++[fp]:=by
  rw [List.map_append,List.map_map]
  simp [Function.comp_def]
 have hfz:fzAll (pre.map (fun f=>(f,(none:Option IV)))++[(fp,some v)])=[]:=by
  unfold fzAll
  rw [List.flatMap_eq_nil_iff]
  intro x hx
  have:x.1∈pre++[fp]:=by rw [<-hm2];exact List.mem_map.2 ⟨x,hx,rfl⟩
  exact (hwr _ this).2
 have hw2:((pre.map (fun f=>(f,(none:Option IV)))++[(fp,some v)]).all fun e=>e.1.wr.all fun q=>decide (nx<=q))=true:=by
  rw [List.all_eq_true]
  intro x hx
  have:x.1∈pre++[fp]:=by rw [<-hm2];exact List.mem_map.2 ⟨x,hx,rfl⟩
  rw [(hwr _ this).1];rfl
 have hk':(drawOK ⟨ol⟩ (pre++[fp])&&edgesOK ⟨ol⟩)=true:=hk
 rw [Bool.and_eq_true] at hk'
 refine ⟨N, .pan v ⟨(poison ⟨ol⟩ (pre.map (fun f=>(f,none))++[(fp,some v)]) ⟨t,G,nx,df,pk⟩).tmps,G,nx+ol.length,df,pk⟩,?_,hΦ _ ?_⟩
 rotate_left
 ·intro i v hv
  obtain ⟨h1,h2⟩:=keepE_ok hv
  show (if _ then _ else _)=_
  rw [if_neg]
  ·exact ht i v h1
  ·show ¬ (ol.any fun o=>o.dst==some i)=true
   rw [h2];decide
 unfold code regionA
 rw [if_pos rfl]
 simp only [e1]
 unfold failA
 simp only [e2,hm1]
 rw [if_pos (by rw [hm2,hk'.1,hk'.2,hw2];rfl)]
 unfold poison
 simp only [hfz,contains_nil,Bool.false_eq_true,if_false]
 rfl
theorem DX.op0 {l0:Env} {op:Op} {fs:List Fp} {rd:List Nat} (h:OpV C (base+i) l G nx df pk op v []) (hr:rdE l G op=some rd) (hd:Nat.ble (d+1) nt=true)
  (next:DX C nt ol l0 base (i+1) r ((d,v)::l) G nx df pk (⟨i,rd,[],[]⟩::fs) Φ):DX C nt ol l0 base i (⟨some d,op,ty,pos,af,none⟩::r) l G nx df pk fs Φ:=by
 refine .mk fun ho t ht=>?_
 obtain ⟨n,hn⟩:=h.st t ht
 have h0:(Array.mk ol)[i]? = some ⟨some d,op,ty,pos,af,none⟩:=by
  have:=congrArg (fun l=>l[0]?) ho
  simpa using this
 have h1:ol.drop (i+1)=r:=by
  have:=congrArg List.tail ho
  simpa using this
 obtain ⟨N,pre,fp,v',a1,⟨a2,a3⟩,a4,a5⟩:=next.st h1 (upd t d v) (ht.put d v)
 have hlt:d < nt:=Nat.le_of_ble_eq_true hd
 refine ⟨max n N,⟨i,rd,[],[]⟩::pre,fp,v',fun m hm=>?_,⟨by simp only [List.all_cons,a2];rfl,a3⟩,by simpa using a4,a5⟩
 obtain ⟨b1,b2⟩:=a1 m (by omega)
 have hop:=opA_mono (low_mono (C:=C) (show n<=m by omega)) hn
 constructor
 ·intro fs0
  unfold runE stepP stepD
  simp only [wantA,hop,Go.Abs.put,if_pos hlt,rdE_ok ht hr]
  exact b1 _
 ·simp only [List.length_cons,List.range'_succ,runX,List.any_nil,Bool.false_eq_true,if_false,h0,stepX,wantA,hop,Go.Abs.put,if_pos hlt,rdE_ok ht hr]
  have e:updL G []=G:=rfl
  rw [e,b2];rfl
theorem DX.callPan {l0:Env} {o:Option Nat} {f:FuncId} {ars:List Operand} {ats:Array TypeId} {vs:List AV} {ivs:List IV} {u:IV} {fs:List Fp} {rd:List Nat} [hf:FnIs C f] (ha:looks l ars=some vs) (hi:imms vs=some ivs) (hr:RetPan C f ivs u)
  (hrd:rdE l G (.call { callee := .value (.func f),args:=⟨ars⟩,argTypes:=ats })=some rd) (hk:(drawOK ⟨ol⟩ (fs.reverse++[⟨i,rd,[],[]⟩])&&edgesOK ⟨ol⟩&&restOK ⟨ol⟩ i (List.range' (i+1) r.length))=true)
  (next:∀ t',Agree t' l0->Φ (.pan u ⟨t',G,nx,df,pk⟩)):DX C nt ol l0 base i (⟨o, .call { callee := .value (.func f),args:=⟨ars⟩,argTypes:=ats },ty,pos,af,none⟩::r) l G nx df pk fs Φ:=by
 refine .mk fun ho t ht=>?_
 have h0:(Array.mk ol)[i]? = some ⟨o, .call { callee := .value (.func f),args:=⟨ars⟩,argTypes:=ats },ty,pos,af,none⟩:=by
  have:=congrArg (fun l=>l[0]?) ho
  simpa using this
 obtain ⟨n,G',nx',pk',h1,hs⟩:=hr
 rw [Bool.and_eq_true] at hk
 have hop:∀ m,n<=m->opA C (low C m) (base+i) ⟨t,G,nx,df,pk⟩ (.call { callee := .value (.func f),args:=⟨ars⟩,argTypes:=ats })=some (.pan u ⟨t,G,nx,df,pk⟩):=fun m hm=>by
  obtain rfl:=imms_eq hi
  refine opA_mono (low_mono hm) ?_
  simp only [opA,ev,aCall,fnOf,List.map_nil,List.append_nil,callA,hf.byref,Bool.false_eq_true,if_false,ht.evs ha,peeks_imm,hf.orc,h1,hs,if_true]
 refine ⟨n,[],⟨i,rd,[],[]⟩,u,fun m hm=>⟨?_,?_⟩,⟨rfl,rfl⟩,by rw [List.nil_append];exact hk.1,next⟩
 ·intro fs0
  unfold runE stepP stepD stepA
  simp only [wantA,hop m hm]
  split
  ·rename_i hc;split at hc<;>cases hc
  ·rfl
 ·have hp:panOK C ⟨t,G,nx,df,pk⟩ (.call { callee := .value (.func f),args:=⟨ars⟩,argTypes:=ats })=true:=by
   simp only [panOK,ev,fnOf,hf.byref,Bool.not_false]
  simp only [List.length_cons,List.range'_succ,runX,List.any_nil,Bool.false_eq_true,if_false,h0,stepX,wantA,hop m hm,hp,if_true,rdE_ok ht hrd,runX_rest _ _ hk.2]
  rfl
/-! ### deferred calls -/
theorem R.defer {f:Operand} {ars:List Operand} {ats:Array TypeId} {fv:AV} {vs:List AV} {g:Fn×List AV} (hf:lookO l f=some fv) (hfn:fnOf fv=some g) (ha:looks l ars=some vs) (hpk:pk.isRnd=false)
  (next:R C nt ol base (i+1) r l G nx ((fv,vs)::df) pk Φ):R C nt ol base i (⟨none, .defer { callee := .value f,args:=⟨ars⟩,argTypes:=ats },ty,pos,af,none⟩::r) l G nx df pk Φ:=by
 refine .mk fun t ht=>?_
 obtain ⟨m,o,h1,h2⟩:=next.st t ht
 refine ⟨m,o,?_,h2⟩
 unfold runL stepA
 have:opA C (low C m) (base+i) ⟨t,G,nx,df,pk⟩ (.defer { callee := .value f,args:=⟨ars⟩,argTypes:=ats })=some (.wr .undef ⟨t,G,nx,(fv,vs)::df,pk⟩):=by
  cases pk with
  |rnd=>simp [Pk.isRnd] at hpk
  |no=>simp only [opA,ht.ev hf,hfn,ht.evs ha]
  |dfr _ _=>simp only [opA,ht.ev hf,hfn,ht.evs ha]
 simp only [wantA,this,put]
 exact h1
theorem R.recover {bt:Array TypeId} {u:IV} (hd:Nat.ble (d+1) nt=true) (next:R C nt ol base (i+1) r ((d, .imm u)::l) G nx df (.dfr (some u) true) Φ) :
  R C nt ol base i (⟨some d, .call { callee := .builtin .recover,args := #[],argTypes:=bt },ty,pos,af,none⟩::r) l G nx df (.dfr (some u) false) Φ:=by
 refine .mk fun t ht=>?_
 obtain ⟨m,o,h1,h2⟩:=next.st (upd t d (.imm u)) (ht.put d _)
 refine ⟨m,o,?_,h2⟩
 have hlt:d < nt:=Nat.le_of_ble_eq_true hd
 unfold runL stepA
 simp only [wantA,opA,aBuiltin,put,if_pos hlt]
 exact h1
theorem O.recoverN {bt:Array TypeId} {x:Bool}:OpV C id l G nx df (.dfr none x) (.call { callee := .builtin .recover,args := #[],argTypes:=bt }) (.imm .niliface) []:=
 O.of fun t L ht=>by simp only [opA,aBuiltin]
def CalD (C:Cfg) (f:FuncId) (vs:List AV) (m:Option IV) (G:Nat->Obj) (nx:Nat) (Ψ:Bool->(Nat->Obj)->Nat->Prop):Prop:=∃ n v m' x G' nx',(low C n).call f vs (.dfr m false) G nx=some (.ret v G' nx', .dfr m' x)/\Ψ x G' nx'
def finDf (Ψ:Bool->(Nat->Obj)->Nat->Prop):Out->Prop
 | .norm s | .ret s=>s.defers=[]/\∃ m x,s.pk = .dfr m x/\Ψ x s.G s.nx
 |_=>False
theorem CalD.of {f:FuncId} {fn:Func} {b:Code} {vs:List AV} {m:Option IV} {Ψ:Bool->(Nat->Obj)->Nat->Prop} (hf:C.fn f=some fn) (hb:fn.body=some b) (hn:Nat.ble vs.length fn.ntmps=true) (hrs:fn.results.toList=[])
  (h:W C f fn.ntmps b (envOf 0 vs) G nx [] (.dfr m false) (finDf Ψ)) (ha:C.at f=C:=by exact rfl):CalD C f vs m G nx Ψ:=by
 obtain ⟨n,o,h1,h2⟩:=h.st _ (agree_init vs)
 have hn:=Nat.le_of_ble_eq_true hn
 have go:∀ s:St,(s.defers=[]/\∃ m x,s.pk = .dfr m x/\Ψ x s.G s.nx)->∃ v m' x,leaveA C (low C n) fn.results.toList s.defers none s=some (.ret v s.G s.nx, .dfr m' x)/\Ψ x s.G s.nx:=by
  intro s ⟨hd,m,x,hp,hΨ⟩
  exact ⟨_,m,x,by rw [hd,hrs];simp only [leaveA,resultsA,resultsL,hp];rfl,hΨ⟩
 cases o with
 |norm s=>
  obtain ⟨v,m',x,h3,h4⟩:=go s h2
  exact ⟨n+1,v,m',x,_,_,by simp only [low,ha,callF,hf,hb,if_pos hn,h1,h3],h4⟩
 |ret s=>
  obtain ⟨v,m',x,h3,h4⟩:=go s h2
  exact ⟨n+1,v,m',x,_,_,by simp only [low,ha,callF,hf,hb,if_pos hn,h1,h3],h4⟩
 |exit _ _=>exact h2.elim
 |pan _ _=>exact h2.elim
def finD (C:Cfg) (rs:List ResultVar) (Ψ:AV->(Nat->Obj)->Nat->Prop):Out->Prop
 | .norm s | .ret s=>s.pk = .no/\∃ g ars k cap,s.defers=[(g,ars)]/\fnOf g=some (.func k,cap)/\CalD C k (ars++cap) none s.G s.nx fun _ G nx=>∃ v,resultsA C ⟨s.tmps,G,nx,[(g,ars)], .no⟩ rs=some v/\Ψ v G nx
 | .pan u s=>s.pk = .no/\∃ g ars k cap,s.defers=[(g,ars)]/\fnOf g=some (.func k,cap)/\CalD C k (ars++cap) (some u) s.G s.nx fun x G nx=>x=true/\∃ v,resultsA C ⟨s.tmps,G,nx,[(g,ars)], .no⟩ rs=some v/\Ψ v G nx
 | .exit _ _=>False
theorem Cal.ofD {f:FuncId} {fn:Func} {b:Code} {vs:List AV} {Ψ:AV->(Nat->Obj)->Nat->Prop} (hf:C.fn f=some fn) (hb:fn.body=some b) (hn:Nat.ble vs.length fn.ntmps=true)
  (h:W C f fn.ntmps b (envOf 0 vs) G nx [] .no (finD C fn.results.toList Ψ)) (ha:C.at f=C:=by exact rfl):Cal C f vs G nx Ψ:=by
 obtain ⟨n,o,h1,h2⟩:=h.st _ (agree_init vs)
 have hn:=Nat.le_of_ble_eq_true hn
 have up:∀ (m:Option IV) (s:St) (g:AV) (ars:List AV) (k:FuncId) (cap:List AV) (n2:Nat) (v':AV) (m':Option IV) (x:Bool) (G':Nat->Obj) (nx':Nat) (v:AV),s.pk = .no->s.defers=[(g,ars)]->fnOf g=some (.func k,cap)->(low C n2).call k (ars++cap) (.dfr m false) s.G s.nx=some (.ret v' G' nx', .dfr m' x)->(m=none\/x=true) ->
   resultsA C ⟨s.tmps,G',nx',[(g,ars)], .no⟩ fn.results.toList=some v->leaveA C (low C (max n n2)) fn.results.toList s.defers m s=some (.ret v G' nx', .no):=by
  intro m s g ars k cap n2 v' m' x G' nx' v hp hd hfn hc hm hv
  obtain ⟨t,G0,nx0,df0,pk0⟩:=s
  simp only at hp hd hc hv
  subst hp hd
  have hc':=(low_mono (C:=C) (Nat.le_max_right n n2)).1 _ _ _ _ _ _ hc
  have hmm:(if x=true then none else m)=none:=by rcases hm with rfl|rfl<;>simp
  simp only [leaveA,hfn,hc',hmm,hv]
 cases o with
 |norm s=>
  obtain ⟨hp,g,ars,k,cap,hd,hfn,n2,v',m',x,G',nx',hc,v,hv,hΨ⟩:=h2
  refine ⟨max n n2+1,v,G',nx',?_,hΨ⟩
  simp only [low,ha,callF,hf,hb,if_pos hn,code_mono (low_mono (Nat.le_max_left n n2)) (Nat.le_max_left n n2) _ _ _ h1]
  exact up none s g ars k cap n2 v' m' x G' nx' v hp hd hfn hc (.inl rfl) hv
 |ret s=>
  obtain ⟨hp,g,ars,k,cap,hd,hfn,n2,v',m',x,G',nx',hc,v,hv,hΨ⟩:=h2
  refine ⟨max n n2+1,v,G',nx',?_,hΨ⟩
  simp only [low,ha,callF,hf,hb,if_pos hn,code_mono (low_mono (Nat.le_max_left n n2)) (Nat.le_max_left n n2) _ _ _ h1]
  exact up none s g ars k cap n2 v' m' x G' nx' v hp hd hfn hc (.inl rfl) hv
 |exit _ _=>exact h2.elim
 |pan u s=>
  obtain ⟨hp,g,ars,k,cap,hd,hfn,n2,v',m',x,G',nx',hc,hx,v,hv,hΨ⟩:=h2
  refine ⟨max n n2+1,v,G',nx',?_,hΨ⟩
  simp only [low,ha,callF,hf,hb,if_pos hn,code_mono (low_mono (Nat.le_max_left n n2)) (Nat.le_max_left n n2) _ _ _ h1]
  exact up (some u) s g ars k cap n2 v' m' x G' nx' v hp hd hfn hc (.inr hx) hv
theorem Cal.ret {f:FuncId} {ivs:List IV} {x:IV} (h:Cal C f (ivs.map .imm) (fun _ => .gone) 0 fun v G _=>∃ ids,Go.Abs.peek G pkDepth v=some (x,ids)):Ret C f ivs x:=by
 obtain ⟨n,v,G',nx',h1,ids,h2⟩:=h
 exact ⟨n,v,G',nx', .no,ids,h1,h2⟩
/-! ### closures, maps -/
theorem O.nilP {x:Operand} {o off:Nat} (hx:lookO l x=some (.ptr o off)):OpV C id l G nx df pk (.nilCheck x) (.ptr o off) []:=O.of fun t L ht=>by simp only [opA,ht.ev hx,aNilCheck]
theorem O.nilF {x:Operand} {cs:List IV} {off:Nat} (hx:lookO l x=some (.imm (.fptr cs off))):OpV C id l G nx df pk (.nilCheck x) (.imm (.fptr cs off)) []:=O.of fun t L ht=>by simp only [opA,ht.ev hx,aNilCheck]
theorem O.makeFunc {f:Fn} {cap:List Operand} {first:Array Operand} {vs:List AV} (h0:first.size=0) (ha:looks l cap=some vs) (hv:mkFn f vs=v):OpV C id l G nx df pk (.makeFunc f first ⟨cap⟩) v []:=O.of fun t L ht=>by simp only [opA,ht.evs ha,if_pos h0,hv]
theorem O.makeMap {t:TypeId}:OpV C id l G nx df pk (.makeMap t none) (.map id) [(id, .set (.mp [] [] false))]:=O.of fun t L ht=>by simp only [opA]
theorem O.extrT {x:Operand} {ix:Nat} {vs:List AV} {u:AV} (hx:lookO l x=some (.tup vs)) (hu:vs[ix]? = some u):OpV C id l G nx df pk (.extract x ix) u []:=O.of fun t L ht=>by simp only [opA,ht.ev hx,aExtract,hu]
theorem O.lookT {t kt e:TypeId} {m x:Operand} {k kk:TyI} {key:IV} {ks:List IV} {vs:List AV} {ok:Bool} {mv u w:AV} {j:Nat} [hk:TyIs C t k] (ht:k.d = .mp kt e) (hkk:TyIs C kt kk) (hm:lookO l m=some mv) (hx:lookO l x=some (.imm key)) (hkv:mapKV G mv=some (ks,vs)) (ho:keyOk kk.d key=true)
  (hj:keyFind key ks=some (some j)) (hu:vs[j]? = some u) (hw:(if ok then mkTup [u, .imm (.bool true)] else u)=w):OpV C id l G nx df pk (.lookup t m x ok) w []:=by
 refine O.of fun t' L hA=>?_
 simp only [opA,hA.ev hm,hA.ev hx,lookA,hk.is,ht,hkv,hkk.is,if_pos ho,hj,hu,hw]
theorem O.lookN {t kt e:TypeId} {m x:Operand} {k kk ke:TyI} {key:IV} {ks:List IV} {vs:List AV} {ok:Bool} {mv w:AV} [hk:TyIs C t k] (ht:k.d = .mp kt e) (hkk:TyIs C kt kk) (hke:TyIs C e ke) (hm:lookO l m=some mv) (hx:lookO l x=some (.imm key)) (hkv:mapKV G mv=some (ks,vs)) (ho:keyOk kk.d key=true)
  (hj:keyFind key ks=some none) (hw:(if ok then mkTup [ke.zero, .imm (.bool false)] else ke.zero)=w):OpV C id l G nx df pk (.lookup t m x ok) w []:=by
 refine O.of fun t' L hA=>?_
 simp only [opA,hA.ev hm,hA.ev hx,lookA,hk.is,ht,hkv,hkk.is,if_pos ho,hj,hke.is,hw]
theorem O.mapNew {t kt e:TypeId} {m x y:Operand} {k kk:TyI} {key:IV} {ks:List IV} {vs:List AV} {q:Nat} [hk:TyIs C t k] (ht:k.d = .mp kt e) (hkk:TyIs C kt kk) (hm:lookO l m=some (.map q)) (hx:lookO l x=some (.imm key)) (hy:lookO l y=some v) (hG:G q = .mp ks vs false) (ho:keyOk kk.d key=true)
  (hj:keyFind key ks=some none):OpV C id l G nx df pk (.mapUpdate t m x y) .undef [(q, .set (.mp (ks++[key]) (vs++[v]) false))]:=by
 refine O.of fun t' L hA=>?_
 simp only [opA,hA.ev hm,hA.ev hx,hA.ev hy,aMapUpdate,hk.is,ht,hG,hkk.is,if_pos ho,hj]
theorem O.typeIs {t st:TypeId} {x:Operand} {k:TyI} {u:IV} [hk:TyIs C t k] (hx:lookO l x=some (.imm (.iface t u))) (hd:k.d ≠ .ifc/\k.d ≠ .oth):OpV C id l G nx df pk (.typeAssert x st t true) (.imm (.tup [u, .bool true])) []:=by
 refine O.of fun t' L hA=>?_
 simp only [opA,hA.ev hx,aTypeAssert,hk.is]
 split
 ·rename_i h;exact (hd.1 h).elim
 ·rename_i h;exact (hd.2 h).elim
 ·simp
end Go.Abs

/- The abstract interpreter: a logic of what code comes to: ends of functions that may panic; what memory holds. -/
namespace Go.Abs
variable {C:Cfg} {fid nt:Nat} {l:Env} {G G':Nat->Obj} {nx:Nat} {df:List (AV×List AV)} {pk:Pk} {Φ Φ':Out->Prop} {a b:Code} {ol r:List Oper} {base i d:Nat} {ty:TypeId} {pos:String} {af:Array Edge} {v:AV} {id:Nat}
theorem at_upd {q:Nat} {x:Obj} (h:G q=x:=by (repeat (first|exact upd_same _ _ _|assumption|(refine (upd_ne _ _ _ _ (by omega)).trans ?_)|exact rfl))):G q=x:=h
def resV:List AV->AV
 |[v]=>v
 |l=>mkTup l
theorem res_ok {s:St} (h:Agree s.tmps l) {rs:List ResultVar} {vs:List AV} (hr:resE l rs=some vs):resultsA C s rs=some (resV vs):=by
 simp only [resultsA,resE_ok h hr]
 match vs with
 |[]=>rfl
 |[v]=>rfl
 |_::_::_=>rfl
theorem W.skipFinP {rs:List ResultVar} {vs:List AV} {Ψ:CR->Prop} (hv:resE l rs=some vs) (h:Ψ (.ret (resV vs) G nx)):W C fid nt .skip l G nx [] .no (finP C rs Ψ):=
 .skip fun t ht=>⟨rfl,rfl,_,res_ok (s:=⟨t,G,nx,[], .no⟩) ht hv,h⟩
theorem W.retFinP {rs:List ResultVar} {vs:List AV} {Ψ:CR->Prop} (hv:resE l rs=some vs) (h:Ψ (.ret (resV vs) G nx)):W C fid nt .ret l G nx [] .no (finP C rs Ψ):=
 .ret fun t ht=>⟨rfl,rfl,_,res_ok (s:=⟨t,G,nx,[], .no⟩) ht hv,h⟩
class Len (l:List Oper) (n:outParam Nat):Prop where
 eq:l.length=n
instance len0:Len [] 0:=⟨rfl⟩
instance len1 {x:Oper} {l:List Oper} {n:Nat} [h:Len l n]:Len (x::l) (n+1):=⟨by rw [List.length_cons,h.eq]⟩
theorem W.regionN {k:Nat} {n:Nat} [hn:Len ol n] (h:R C nt ol nx 0 ol l G (nx+n) df pk Φ):W C fid nt (.region k ⟨ol⟩ false) l G nx df pk Φ:=W.region (by rw [hn.eq];exact h)
theorem W.drawN {k:Nat} {n:Nat} [hn:Len ol n] (h:D C nt ol nx 0 ol l G (nx+n) df pk [] Φ):W C fid nt (.region k ⟨ol⟩ true) l G nx df pk Φ:=W.draw (by rw [hn.eq];exact h)
theorem W.drawXN {k:Nat} {n:Nat} [hn:Len ol n] (h:DX C nt ol (keepE ol l) nx 0 ol l G (nx+n) df pk [] Φ):W C fid nt (.region k ⟨ol⟩ true) l G nx df pk Φ:=W.drawX (by rw [hn.eq];exact h)
class PanTo (Φ:Out->Prop) (pk:outParam Pk) (Ψ:outParam (CR->Prop)):Prop where
 ok:∀ u t G nx,Ψ (.pan u G nx)->Φ (.pan u ⟨t,G,nx,[],pk⟩)
instance panToFin {rs:List ResultVar} {Ψ:CR->Prop}:PanTo (finP C rs Ψ) .no Ψ:=⟨fun _ _ _ _ h=>⟨rfl,rfl,h⟩⟩
instance panToAft {Ψ:CR->Prop} [h:PanTo Φ pk Ψ]:PanTo (aft C fid nt b Φ) pk Ψ:=⟨h.ok⟩
instance panToBlk {Ψ:CR->Prop} [h:PanTo Φ pk Ψ]:PanTo (blk' id Φ) pk Ψ:=⟨h.ok⟩
instance panToLop {X:Type} {le:X->Env} {Ge:X->Nat->(Nat->Obj)->Prop} {mu:X->Nat} {pk':Pk} {x:X} {Ψ:CR->Prop} [h:PanTo Φ pk Ψ]:PanTo (lop le Ge mu df pk' x Φ) pk Ψ:=⟨h.ok⟩
theorem panTo {u:IV} {Ψ:CR->Prop} [hp:PanTo Φ pk Ψ] (h:Ψ (.pan u G nx)):∀ t,Agree t l->Φ (.pan u ⟨t,G,nx,[],pk⟩):=fun t _=>hp.ok u t G nx h
noncomputable def panOf (C:Cfg) (n:Nat) (f:FuncId) (ivs:List IV):Option IV:=match (low C n).call f (ivs.map .imm) .no (fun _ => .gone) 0 with
 |some (.pan v _ _,_)=>some v
 |_=>none
theorem RetPan.reckon {n:Nat} {f:FuncId} {ivs:List IV} {v:IV} {C:Cfg} (h:panOf C n f ivs=some v) (hs:v.scalar=true):RetPan C f ivs v:=by
 unfold panOf at h
 split at h
 ·rename_i u G' nx' pk' hc
  cases h
  exact ⟨n,G',nx',pk',hc,hs⟩
 ·cases h
/-! ### boxes that are data -/
theorem O.fieldF {x:Operand} {t:TypeId} {f:Nat} {k:TyI} {fs:List (Nat×Nat)} {cs:List IV} {off0 off sz:Nat} [hk:TyIs C t k] (hd:k.d = .st fs) (hf:fs[f]? = some (off,sz)) (hs:Nat.beq sz 0=false) (hx:lookO l x=some (.imm (.fptr cs off0))) :
  OpV C id l G nx df pk (.fieldAddr t x f) (.imm (.fptr cs (off0+off))) []:=
 O.of fun t L hA=>by
  have:¬ sz=0:=fun e=>by subst e;cases hs
  simp only [opA,hA.ev hx,aFieldAddr,hk.is,hd,hf,if_neg this,moveAt]
theorem O.loadF {x:Operand} {t:TypeId} {k:TyI} {cs:List IV} {off:Nat} {u:IV} [hk:TyIs C t k] (hg:k.d.isAgg=false) (hs:k.sz=1) (hx:lookO l x=some (.imm (.fptr cs off))) (hu:cs[off]? = some u) :
  OpV C id l G nx df pk (.load t x) (.imm u) []:=
 O.of fun t L hA=>by simp only [opA,hA.ev hx,aLoad,hk.is,hs,readAt,sub_one hu,Option.map_some,List.map_cons,List.map_nil,hg,Bool.false_eq_true,if_false]
theorem O.loadFA {x:Operand} {t:TypeId} {k:TyI} {cs us:List IV} {off:Nat} [hk:TyIs C t k] (hg:k.d.isAgg=true) (hx:lookO l x=some (.imm (.fptr cs off))) (hu:Go.Abs.sub cs off k.sz=some us) :
  OpV C id l G nx df pk (.load t x) (.imm (.agg us)) []:=
 O.of fun t L hA=>by simp only [opA,hA.ev hx,aLoad,hk.is,readAt,hu,Option.map_some,hg,if_true,mkAgg_imm]
def lookIs (kt e:Option TyI) (kv:Option (List IV×List AV)) (key:IV) (ok:Bool) (w:AV):Prop:=
 match kt,e,kv with
 |some kk,some ke,some (ks,vs)=>keyOk kk.d key=true/\((∃ j u,keyFind key ks=some (some j)/\vs[j]? = some u/\(if ok then mkTup [u, .imm (.bool true)] else u)=w)\/(keyFind key ks=some none/\(if ok then mkTup [ke.zero, .imm (.bool false)] else ke.zero)=w))
 |_,_,_=>False
theorem O.lookA {t kt e:TypeId} {m x:Operand} {k kk ke:TyI} {key:IV} {ok:Bool} {mv w:AV} [hk:TyIs C t k] (ht:k.d = .mp kt e) (hkk:TyIs C kt kk) (hke:TyIs C e ke) (hm:lookO l m=some mv) (hx:lookO l x=some (.imm key)) {kv:Option (List IV×List AV)} (hkv:mapKV G mv=kv) (h:lookIs (some kk) (some ke) kv key ok w) :
  OpV C id l G nx df pk (.lookup t m x ok) w []:=by
 match kv,h with
 |some (ks,vs),⟨h1, .inl ⟨j,u,h2,h3,h4⟩⟩=>exact O.lookT ht hkk hm hx hkv h1 h2 h3 h4
 |some (ks,vs),⟨h1, .inr ⟨h2,h4⟩⟩=>exact O.lookN ht hkk hke hm hx hkv h1 h2 h4
/-! ### regions that draw their order: where addresses are not known -/
def nrm (base q:Nat):Nat:=if q < base then 0 else q-base+1
theorem nrm_lt {base q:Nat} (h:q < base):nrm base q=0:=if_pos h
theorem nrm_ge (base k:Nat):nrm base (base+k)=k+1:=by
 unfold nrm;rw [if_neg (by omega)];omega
def Fp.nrm (base:Nat) (f:Fp):Fp:=⟨f.i,f.rd.map (Go.Abs.nrm base),f.wr.map (Go.Abs.nrm base),f.fz.map (Go.Abs.nrm base)⟩
def Fp.hi (base:Nat) (f:Fp):Bool:=f.wr.all fun w=>decide (base<=w)
theorem nrm_mem {base w:Nat} (hw:base<=w) (l:List Nat):(l.map (Go.Abs.nrm base)).contains (Go.Abs.nrm base w)=l.contains w:=by
 induction l with
 |nil=>rfl
 |cons x r ih=>
  simp only [List.map_cons,List.contains_cons,ih]
  congr 1
  unfold Go.Abs.nrm
  rw [if_neg (show ¬ w < base by omega)]
  split
  ·have:¬ w=x:=by omega
   simp [this]
  ·by_cases h:w=x
   ·simp [h]
   ·have h2:¬ w-base+1=x-base+1:=by omega
    rw [beq_eq_false_iff_ne.2 h,beq_eq_false_iff_ne.2 h2]
theorem any_nrm {base:Nat} (f:Nat->Bool) (g:Nat->Bool) (h:∀ w,base<=w->g (Go.Abs.nrm base w)=f w):∀ l:List Nat,(l.all fun w=>decide (base<=w))=true->(l.map (Go.Abs.nrm base)).any g=l.any f
 |[],_=>rfl
 |w::r,hl=>by
  simp only [List.all_cons,Bool.and_eq_true,decide_eq_true_eq] at hl
  simp only [List.map_cons,List.any_cons,h w hl.1,any_nrm f g h r hl.2]
theorem clash_nrm {base:Nat} {a b:Fp} (ha:a.hi base=true) (hb:b.hi base=true):clash (a.nrm base) (b.nrm base)=clash a b:=by
 unfold clash
 congr 1
 ·exact any_nrm _ _ (fun w hw=>by simp only [Fp.nrm,nrm_mem hw]) _ ha
 ·exact any_nrm _ _ (fun w hw=>by simp only [Fp.nrm,nrm_mem hw]) _ hb
theorem clearOf_nrm {ops:Array Oper} {base:Nat} {a:Fp} (ha:a.hi base=true):∀ fs:List Fp,fs.all (Fp.hi base)=true->clearOf ops (a.nrm base) (fs.map (Fp.nrm base))=clearOf ops a fs
 |[],_=>rfl
 |b::r,h=>by
  simp only [List.all_cons,Bool.and_eq_true] at h
  simp only [List.map_cons,clearOf,clash_nrm ha h.1,clearOf_nrm ha r h.2]
  rfl
theorem drawOK_nrm {ops:Array Oper} {base:Nat}:∀ fs:List Fp,fs.all (Fp.hi base)=true->drawOK ops (fs.map (Fp.nrm base))=drawOK ops fs
 |[],_=>rfl
 |a::r,h=>by
  simp only [List.all_cons,Bool.and_eq_true] at h
  simp only [List.map_cons,drawOK,clearOf_nrm h.1 r h.2,drawOK_nrm r h.2]
theorem D.doneN {fs:List Fp} (hh:fs.reverse.all (Fp.hi base)=true) (hk:(drawOK ⟨ol⟩ (fs.reverse.map (Fp.nrm base))&&edgesOK ⟨ol⟩)=true) (h:W C fid nt b l G nx df pk Φ):D C nt ol base i [] l G nx df pk fs (aft C fid nt b Φ):=
 D.done (by rw [<-drawOK_nrm _ hh];exact hk) h
theorem peek_mp {q:Nat} {ks vs:List IV} {fr:Bool} (h:G q = .mp ks (vs.map .imm) fr):∃ ids,Go.Abs.peek G pkDepth (.map q)=some (.fmp ks vs,ids):=by
 refine ⟨[q],?_⟩
 have hp:∀ x,Go.Abs.peek G 99 (.imm x)=some (x,[]):=fun x=>rfl
 show Go.Abs.peek G (99+1) _=_
 unfold Go.Abs.peek
 rw [h]
 dsimp only
 rw [peekL_imm hp]
theorem O.callV {f:Operand} {k:FuncId} {ars:List Operand} {ats:Array TypeId} {vs:List AV} {ivs cap:List IV} {x:IV} (hf:lookO l f=some (.imm (.fn (.func k) cap))) (hk:FnIs C k) (ha:looks l ars=some vs) (hi:imms vs=some ivs) (hr:Ret C k (ivs++cap) x) :
  OpV C id l G nx df pk (.call { callee := .value f,args:=⟨ars⟩,argTypes:=ats }) (.imm x) []:=by
 obtain ⟨n,v,G',nx',pk',ids,h1,h2⟩:=hr
 refine ⟨fun t ht=>⟨n,?_⟩⟩
 have e:ivs.map AV.imm++cap.map AV.imm=(ivs++cap).map AV.imm:=by simp
 simp only [opA,ht.ev hf,aCall,fnOf,callA,hk.byref,Bool.false_eq_true,if_false,ht.evs ha,imms_eq hi,e,peeks_imm,hk.orc,h1,h2,give_nil]
theorem D.auto {fs:List Fp} (h:W C fid nt b l G nx df pk Φ) (hh:fs.reverse.all (Fp.hi base)=true:=by simp [Fp.hi])
  (hk:(drawOK ⟨ol⟩ (fs.reverse.map (Fp.nrm base))&&edgesOK ⟨ol⟩)=true:=by
   simp (disch:=omega) only [List.reverse_cons,List.reverse_nil,List.nil_append,List.cons_append,List.map_cons,List.map_nil,Fp.nrm,direct,nrm_lt,nrm_ge]
   kernel_rfl):D C nt ol base i [] l G nx df pk fs (aft C fid nt b Φ):=D.doneN hh hk h
theorem O.buildX {t e:TypeId} {n:Nat} {parts:List (Nat×Operand)} {k ke:TyI} {xs:List AV} [hk:TyIs C t k] (ht:k.d = .sl e) (he:TyIs C e ke) (hp:looks l (parts.map (·.2))=some xs) (hi:parts.map (·.1)=List.range n)
  (hn:n*ke.sz<=4096) (hz:ke.zero.fits ke.sz=true) (hx:xs.all (AV.fits ke.sz)=true) (hs:0 < ke.sz) :
  OpV C id l G nx df pk (.buildSlice t n ⟨parts⟩) (.row id n) [(id, .set (.row e ke.sz xs false))]:=O.buildS ht hp hi hn hz hx hs
theorem elems_row {o n et sz:Nat} {xs:List AV} {fr:Bool} (h:G o = .row et sz xs fr) (hn:xs.length=n):Go.Abs.elems G (.row o n)=some xs:=by
 simp [Go.Abs.elems,h,hn]
theorem Own.fr {e sz lo hi hi':Nat} {xs:List IV} {G G':Nat->Obj} {v:AV} (h:Own e sz lo hi xs G v) (hh:hi<=hi':=by omega) (hG:∀ o,lo<=o->o < hi->G' o=G o:=by intro o _ _;exact at_upd):Own e sz lo hi' xs G' v:=h.frame hh hG
theorem R.app1 {x y:Operand} {t u e e' lo hi q sz sz':Nat} {k ke:TyI} {xs:List IV} {z:IV} {fr:Bool} {G0:Nat->Obj} (ho:Own e sz lo hi xs G0 v) (hq:G q = .row e' sz' [.imm z] fr) [hk:TyIs C t k] (hm:xs.length+1<=most)
  (next:∀ v' G',Own e sz lo nx (xs++[z]) G' v'->(∀ o,o < lo->G' o=G o)->R C nt ol base (i+1) r ((d,v')::l) G' nx df pk Φ)
  (ht:k.d = .sl e:=by exact rfl) (he:TyIs C e ke:=by infer_instance) (hsz:sz=ke.sz:=by exact rfl) (hu:Nat.beq t u=true:=by exact rfl) (hx:lookO l x=some v:=by exact rfl) (hy:lookO l y=some (.row q 1):=by exact rfl)
  (hG:∀ o,lo<=o->o < hi->G o=G0 o:=by intro o _ _;exact at_upd) (hf:(AV.imm z).fits sz=true:=by first|exact rfl|assumption) (hs:0 < ke.sz:=by decide) (hb:ke.bytes<=4096:=by decide) (hz:ke.zero.fits ke.sz=true:=by exact rfl) (hid:lo<=base+i/\base+i < nx:=by omega)
  (hhi:hi<=nx:=by omega) (hd:Nat.ble (d+1) nt=true:=by exact rfl) :
  R C nt ol base i (⟨some d, .call { callee := .builtin .append,args := #[x,y],argTypes := #[t,u] },ty,pos,af,none⟩::r) l G nx df pk Φ:=by
 subst hsz
 exact R.appOwn (ys:=[z]) ht hu hx (ho.frame hhi hG) hy (elems_row hq rfl) hs hb hz (fun y hy=>by rw [List.mem_singleton.1 hy];exact hf) hm hid hd next
def astQ (C:Cfg) (q:Nat) (lp0 lp1:Obj) (fid nt:Nat) (body:Code) (Φ:Out->Prop):Out->Prop
 | .norm s=>s.G q=lp0/\Wst C fid nt body { s with G:=upd s.G q lp1 } Φ
 |_=>False
theorem R.doneAstQ {q:Nat} {lp0 lp1:Obj} {body:Code} (hG:G q=lp0) (h:W C fid nt body l (upd G q lp1) nx df pk Φ):R C nt ol base i [] l G nx df pk (astQ C q lp0 lp1 fid nt body Φ):=
 .mk fun t ht=>⟨0,_,rfl,hG,h.st t ht⟩
/-! ### interfaces, and functions with one deferred call -/
theorem O.ifcNil {t:TypeId} {x y:Operand} {t2:TypeId} {k:TyI} [hk:TyIs C t k] (hb:k.d = .ifc) (hx:lookO l x=some (.imm .niliface)) (hy:lookO l y=some (.imm .niliface)) (hc:(isNilC x||isNilC y)=true):OpV C id l G nx df pk (.binOp .eql t x y t2) (.imm (.bool true)) []:=
 O.of fun t L ht=>by simp only [opA,ht.ev hx,ht.ev hy,binA,eqAV,hk.is,hb,eqOp,hc,if_true,Option.map_some]
theorem O.ifcSome {t:TypeId} {x y:Operand} {t2 tt:TypeId} {u:IV} {k:TyI} [hk:TyIs C t k] (hb:k.d = .ifc) (hx:lookO l x=some (.imm (.iface tt u))) (hy:lookO l y=some (.imm .niliface)):OpV C id l G nx df pk (.binOp .eql t x y t2) (.imm (.bool false)) []:=
 O.of fun t L ht=>by simp only [opA,ht.ev hx,ht.ev hy,binA,eqAV,hk.is,hb,eqOp,Option.map_some]
theorem W.skipFinDf {m:Option IV} {x:Bool} {Ψ:Bool->(Nat->Obj)->Nat->Prop} (h:Ψ x G nx):W C fid nt .skip l G nx [] (.dfr m x) (finDf Ψ) := .skip fun _ _=>⟨rfl,m,x,rfl,h⟩
theorem res_cell {a:Nat} {t:TypeId} {o:Nat} {k:TyI} {u:AV} {fr:Bool} {s:St} [hk:TyIs C t k] (hg:k.d.isAgg=false) (hs:k.sz=1) (ha:s.tmps a = .ptr o 0) (hG:s.G o = .box [u] fr):resultsA C s [.cell a t]=some u:=by
 simp [resultsA,resultsL,resultA,ha,aLoad,hk.is,hg,hs,readAt,hG,Go.Abs.sub]
theorem W.retFinD {g:AV} {ars cap:List AV} {kf:FuncId} {a:Nat} {t:TypeId} {o:Nat} {k:TyI} {Ψ:AV->(Nat->Obj)->Nat->Prop} [hk:TyIs C t k] (hg:k.d.isAgg=false) (hs:k.sz=1) (ha:look l a=some (.ptr o 0)) (hf:fnOf g=some (.func kf,cap))
  (hc:CalD C kf (ars++cap) none G nx fun _ G' nx'=>∃ u fr,G' o = .box [u] fr/\Ψ u G' nx'):W C fid nt .ret l G nx [(g,ars)] .no (finD C [.cell a t] Ψ) := .ret fun t' ht=>by
 refine ⟨rfl,g,ars,kf,cap,rfl,hf,?_⟩
 obtain ⟨n,v,m',x,G',nx',h1,u,fr,h2,h3⟩:=hc
 exact ⟨n,v,m',x,G',nx',h1,u,res_cell hg hs (ht a _ ha) h2,h3⟩
theorem panD {g:AV} {ars cap:List AV} {kf:FuncId} {a:Nat} {t:TypeId} {o:Nat} {k:TyI} {w:IV} {Ψ:AV->(Nat->Obj)->Nat->Prop} [hk:TyIs C t k] (hg:k.d.isAgg=false) (hs:k.sz=1) (ha:look l a=some (.ptr o 0)) (hf:fnOf g=some (.func kf,cap))
  (hc:CalD C kf (ars++cap) (some w) G nx fun x G' nx'=>x=true/\∃ u fr,G' o = .box [u] fr/\Ψ u G' nx'):∀ t',Agree t' l->finD C [.cell a t] Ψ (.pan w ⟨t',G,nx,[(g,ars)], .no⟩):=fun t' ht=>by
 refine ⟨rfl,g,ars,kf,cap,rfl,hf,?_⟩
 obtain ⟨n,v,m',x,G',nx',h1,h0,u,fr,h2,h3⟩:=hc
 exact ⟨n,v,m',x,G',nx',h1,h0,u,res_cell hg hs (ht a _ ha) h2,h3⟩
theorem peek_box {q off:Nat} {cs:List IV} {fr:Bool} (h:G q = .box (cs.map .imm) fr):Go.Abs.peek G pkDepth (.ptr q off)=some (.fptr cs off,[q]):=by
 have hp:∀ x,Go.Abs.peek G 99 (.imm x)=some (x,[]):=fun x=>rfl
 show Go.Abs.peek G (99+1) _=_
 unfold Go.Abs.peek
 rw [h]
 dsimp only
 rw [peekL_imm hp]
theorem peeks_cons {v:AV} {x:IV} {ids:List Nat} {vs:List IV} (h:Go.Abs.peek G pkDepth v=some (x,ids)):peeks G (v::vs.map .imm)=some (x::vs,ids):=by
 have:=peeks_imm G vs
 unfold peeks at this ⊢
 rw [peekL,h,this]
 simp
theorem O.callFz {f:FuncId} {ar:List Operand} {ats:Array TypeId} {vs:List AV} {ivs:List IV} {ids:List Nat} {x:IV} [hf:FnIs C f] (ha:looks l ar=some vs) (hi:peeks G vs=some (ivs,ids)) (hr:Ret C f ivs x) (hx:x.scalar=false) :
  OpV C id l G nx df pk (.call { callee := .value (.func f),args:=⟨ar⟩,argTypes:=ats }) (.imm x) (frz ids):=by
 obtain ⟨n,v,G',nx',pk',ids,h1,h2⟩:=hr
 refine ⟨fun t ht=>⟨n,?_⟩⟩
 simp only [opA,ev,aCall,fnOf,List.map_nil,List.append_nil,callA,hf.byref,Bool.false_eq_true,if_false,ht.evs ha,hi,hf.orc,h1,h2,hx,give]
theorem frz1 {q:Nat} {cs:List AV} {fr:Bool} (h:G q = .box cs fr):updL G (frz [q]) q = .box cs true:=by
 show upd G q (Obj.freeze (G q)) q=_
 rw [upd_same,h];rfl
theorem frz1_ne {q o:Nat} (h:o≠q):updL G (frz [q]) o=G o:=upd_ne _ _ _ _ h
/-! ### pointers, and nil -/
def isNilp (x y:AV):Option Bool:=match x,y with
 | .imm .nilp, .imm .nilp=>some true
 | .imm .nilp, .ptr _ _ | .ptr _ _, .imm .nilp | .imm .nilp, .imm (.fptr _ _) | .imm (.fptr _ _), .imm .nilp=>some false
 |_,_=>none
theorem isNilp_ok {x y:AV} {b:Bool} (h:isNilp x y=some b) (c:Bool):eqOp c .ptr x y=some b:=by
 unfold isNilp at h
 unfold eqOp
 split at h<;>cases h<;>rfl
theorem isNilp_notStr {x y:AV} {b:Bool} (h:isNilp x y=some b) (op:BinOp) (c:Bool) (t:TypeId):binA C op c t x y=match op with
   | .eql=>(eqAV C c t x y).map fun b => .imm (.bool b)
   | .neq=>(eqAV C c t x y).map fun b => .imm (.bool !b)
   |_=>none:=by
 unfold isNilp at h
 unfold binA
 split at h<;>cases h<;>rfl
theorem O.ptrEq {t:TypeId} {x y:Operand} {t2:TypeId} {k:TyI} {u w:AV} {b:Bool} [hk:TyIs C t k] (hb:k.d = .ptr) (hx:lookO l x=some u) (hy:lookO l y=some w) (h:isNilp u w=some b):OpV C id l G nx df pk (.binOp .eql t x y t2) (.imm (.bool b)) []:=
 O.of fun t' L ht=>by simp only [opA,ht.ev hx,ht.ev hy,isNilp_notStr h,eqAV,hk.is,hb,isNilp_ok h,Option.map_some]
theorem O.ptrNe {t:TypeId} {x y:Operand} {t2:TypeId} {k:TyI} {u w:AV} {b:Bool} [hk:TyIs C t k] (hb:k.d = .ptr) (hx:lookO l x=some u) (hy:lookO l y=some w) (h:isNilp u w=some b):OpV C id l G nx df pk (.binOp .neq t x y t2) (.imm (.bool !b)) []:=
 O.of fun t' L ht=>by simp only [opA,ht.ev hx,ht.ev hy,isNilp_notStr h,eqAV,hk.is,hb,isNilp_ok h,Option.map_some]
end Go.Abs

/- The abstract interpreter: a logic of what code comes to: slices that grow where the order is drawn; structs that hold slices. -/
namespace Go.Abs
variable {C:Cfg} {fid nt:Nat} {l:Env} {G G':Nat->Obj} {nx:Nat} {df:List (AV×List AV)} {pk:Pk} {Φ Φ':Out->Prop} {a b:Code} {ol r:List Oper} {base i d:Nat} {ty:TypeId} {pos:String} {af:Array Edge} {v:AV} {id:Nat}
theorem O.max {x y:Operand} {t u:TypeId} {m n:Int} {k:IntKind} (hx:lookO l x=some (.imm (.int k m))) (hy:lookO l y=some (.imm (.int k n))):OpV C id l G nx df pk (.call { callee := .builtin .max,args := #[x,y],argTypes := #[t,u] }) (.imm (.int k (if n > m then n else m))) []:=
 O.of fun t' L hA=>by simp only [opA,List.map_cons,List.map_nil,hA.ev hx,hA.ev hy,aBuiltin]
theorem D.app1 {x y:Operand} {t u e e' lo hi q sz sz':Nat} {k ke:TyI} {xs:List IV} {z:IV} {fr:Bool} {fs:List Fp} {G0:Nat->Obj} (ho:Own e sz lo hi xs G0 v) (hq:G q = .row e' sz' [.imm z] fr) [hk:TyIs C t k] (hm:xs.length+1<=most)
  (next:∀ v' G' rd o',Own e sz lo nx (xs++[z]) G' v'->(∀ o,o < lo->G' o=G o)->lo<=o'->D C nt ol base (i+1) r ((d,v')::l) G' nx df pk (⟨i,rd,[o'],[]⟩::fs) Φ)
  (ht:k.d = .sl e:=by exact rfl) (he:TyIs C e ke:=by infer_instance) (hsz:sz=ke.sz:=by exact rfl) (hu:Nat.beq t u=true:=by exact rfl) (hx:lookO l x=some v:=by exact rfl) (hy:lookO l y=some (.row q 1):=by exact rfl)
  (hG:∀ o,lo<=o->o < hi->G o=G0 o:=by intro o _ _;exact at_upd) (hf:(AV.imm z).fits sz=true:=by first|exact rfl|assumption) (hs:0 < ke.sz:=by decide) (hb:ke.bytes<=4096:=by decide) (hz:ke.zero.fits ke.sz=true:=by exact rfl) (hid:lo<=base+i/\base+i < nx:=by omega)
  (hhi:hi<=nx:=by omega) (hd:Nat.ble (d+1) nt=true:=by exact rfl) :
  D C nt ol base i (⟨some d, .call { callee := .builtin .append,args := #[x,y],argTypes := #[t,u] },ty,pos,af,none⟩::r) l G nx df pk fs Φ:=by
 subst hsz
 have hrd:rdE l G (.call { callee := .builtin .append,args := #[x,y],argTypes := #[t,u] })=some ([v, .row q 1].flatMap direct):=by
  simp only [rdE,pureOp,looks,hx,hy]
 have hys:([z].map AV.imm).all (AV.fits ke.sz)=true:=by simp [hf]
 have hw:elems G (.row q 1)=some ([z].map AV.imm):=elems_row hq rfl
 rcases ho with ⟨rfl,rfl⟩|⟨o,h1,h2,rfl,hG2⟩
 ·refine D.op1 (O.appNil (hk:=hk) (he:=he) ht hu hx hy hw hs hb hz hys (by simp [most])) hrd hd (next _ _ _ _ (.inr ⟨base+i,hid.1,hid.2,by simp,by rw [upd_same];simp⟩) (fun o ho=>upd_ne _ _ _ _ (by omega)) hid.1)
 ·refine D.op1 (O.appRow (hk:=hk) (he:=he) ht hu hx ((hG o h1 h2).trans hG2) (by simp) hy hw hs hb hz hys (by simpa using hm)) hrd hd (next _ _ _ _ (.inr ⟨o,h1,by omega,by simp,by rw [upd_same];simp⟩) (fun o' ho'=>upd_ne _ _ _ _ (by omega)) h1)
theorem All2.nil {α β:Type} {R:α->β->Prop}:All2 R [] []:=trivial
theorem All2.cons {α β:Type} {R:α->β->Prop} {x:α} {y:β} {l:List α} {m:List β} (h:R x y) (hr:All2 R l m):All2 R (x::l) (y::m):=⟨h,hr⟩
theorem Rdx.tup {d:Nat} {P:Nat->Prop} {vs:List AV} {xs:List IV} (h:All2 (Rdx d G P) vs xs):Rdx (d+1) G P (.tup vs) (.tup xs):=by
 obtain ⟨ids,h1,h2⟩:=h.peekL
 refine ⟨ids,fun k=>?_,h2⟩
 show Go.Abs.peek G (k+d+1) _=_
 unfold Go.Abs.peek
 rw [h1 k]
theorem Own.cells1 {e sz lo hi:Nat} {xs:List IV} {v:AV} (h:Own e sz lo hi xs G v):v.cells=[v]:=by
 rcases h with ⟨_,rfl⟩|⟨o,_,_,rfl,_⟩<;>rfl
theorem Own.one1 {e sz lo hi:Nat} {xs:List IV} {v:AV} (h:Own e sz lo hi xs G v):v.one=true:=by
 rcases h with ⟨_,rfl⟩|⟨o,_,_,rfl,_⟩<;>rfl
theorem O.storeP1 {a x:Operand} {t:TypeId} {k:TyI} {o off:Nat} {cs cs':List AV} [hk:TyIs C t k] (hs:k.sz=1) (ha:lookO l a=some (.ptr o off)) (hx:lookO l x=some v) (hc:v.cells=[v]) (h1:v.one=true) (hG:G o = .box cs false) (hn:Nat.ble (off+1) cs.length=true) (hcs:splice cs off [v]=cs') :
  OpV C id l G nx df pk (.store t a x) .undef [(o, .set (.box cs' false))]:=
 O.storeP ha hx (by unfold AV.fits;rw [hc,hs];simp [h1]) hG (by rw [hs];exact hn) (by rw [hc];exact hcs)
/-! ### regions that draw their order: addresses told apart -/
def Fp.ren (g:Nat->Nat) (f:Fp):Fp:=⟨f.i,f.rd.map g,f.wr.map g,f.fz.map g⟩
def fpAddrs (fs:List Fp):List Nat:=fs.flatMap fun f=>f.rd++f.wr++f.fz
def fpWrs (fs:List Fp):List Nat:=fs.flatMap (·.wr)
theorem ren_mem {g:Nat->Nat} {w:Nat} {l:List Nat} (h:∀ x∈l,g w=g x->w=x):(l.map g).contains (g w)=l.contains w:=by
 rw [Bool.eq_iff_iff]
 simp only [List.contains_iff_mem,List.mem_map]
 constructor
 ·rintro ⟨x,hx,he⟩
  rw [h x hx he.symm];exact hx
 ·intro hw;exact ⟨w,hw,rfl⟩
theorem any_ren {g:Nat->Nat} {f f':Nat->Bool}:∀ {l:List Nat},(∀ w∈l,f' (g w)=f w)->(l.map g).any f'=l.any f
 |[],_=>rfl
 |w::r,h=>by
  rw [List.map_cons,List.any_cons,List.any_cons,h w (by simp),any_ren (l:=r) fun x hx=>h x (by simp [hx])]
theorem clash_ren {g:Nat->Nat} {a b:Fp} (hg:∀ w∈a.wr++b.wr,∀ x∈a.rd++a.wr++a.fz++(b.rd++b.wr++b.fz),g w=g x->w=x):clash (a.ren g) (b.ren g)=clash a b:=by
 unfold clash
 congr 1
 ·refine any_ren fun w hw=>?_
  have:=fun x hx=>hg w (by simp [hw]) x hx
  simp only [Fp.ren]
  rw [ren_mem fun x hx=>this x (by simp [hx]),ren_mem fun x hx=>this x (by simp [hx]),ren_mem fun x hx=>this x (by simp [hx])]
 ·refine any_ren fun w hw=>?_
  have:=fun x hx=>hg w (by simp [hw]) x hx
  simp only [Fp.ren]
  rw [ren_mem fun x hx=>this x (by simp [hx]),ren_mem fun x hx=>this x (by simp [hx])]
theorem clearOf_ren {ops:Array Oper} {g:Nat->Nat} {a:Fp}:∀ {fs:List Fp},(∀ w∈fpWrs (a::fs),∀ x∈fpAddrs (a::fs),g w=g x->w=x)->clearOf ops (a.ren g) (fs.map (Fp.ren g))=clearOf ops a fs
 |[],_=>rfl
 |b::r,h=>by
  simp only [List.map_cons,clearOf]
  rw [clash_ren fun w hw x hx=>h w (by simp [fpWrs] at hw ⊢;rcases hw with h|h<;>simp [h]) x (by simp [fpAddrs] at hx ⊢;rcases hx with h|h|h|h|h|h<;>simp [h]),
   clearOf_ren fun w hw x hx=>h w (by simp [fpWrs] at hw ⊢;rcases hw with h|h;simp [h];exact .inr (.inr h)) x (by simp [fpAddrs] at hx ⊢;rcases hx with h|h|h|h;simp [h];simp [h];simp [h];exact .inr (.inr (.inr (.inr (.inr (.inr h))))))]
  rfl
theorem drawOK_ren {ops:Array Oper} {g:Nat->Nat}:∀ {fs:List Fp},(∀ w∈fpWrs fs,∀ x∈fpAddrs fs,g w=g x->w=x)->drawOK ops (fs.map (Fp.ren g))=drawOK ops fs
 |[],_=>rfl
 |a::r,h=>by
  simp only [List.map_cons,drawOK]
  rw [clearOf_ren h,drawOK_ren fun w hw x hx=>h w (by simp [fpWrs] at hw ⊢;exact .inr hw) x (by simp [fpAddrs] at hx ⊢;exact .inr (.inr (.inr hx)))]
def g4 (a b c d:Nat) (k:Nat):Nat:=if k=1 then a else if k=2 then b else if k=3 then c else d
theorem O.storeRS {a x:Operand} {t et sz:TypeId} {k:TyI} {o m n:Nat} {vs:List AV} {u w:AV} [hk:TyIs C t k] (h0:0 < k.sz) (ha:lookO l a=some (.rptr o m n 0)) (hx:lookO l x=some v) (hf:v.fits k.sz=true) (hG:G o = .row et sz vs false) (hm:vs.length=m) (hu:vs[n]? = some u) (huc:Nat.ble k.sz u.cells.length=true) (hv:avOf u (splice u.cells 0 v.cells)=w) :
  OpV C id l G nx df pk (.store t a x) .undef [(o, .set (.row et sz (vs.set n w) false))]:=
 O.of fun t' L hA=>by
  simp only [opA,hA.ev ha,hA.ev hx,aStore,hk.is,hf,if_true,hG,hu]
  rw [if_pos ⟨hm,h0,by have:=Nat.le_of_ble_eq_true huc;omega⟩,hv]
theorem O.callOwn {f:FuncId} {ar:List Operand} {ats:Array TypeId} {vs:List AV} {ivs:List IV} {ids:List Nat} {et sz:Nat} {xs:List IV} (hb:C.byref f=false) (ho:C.orc f ivs=some (.own et sz xs)) (ha:looks l ar=some vs) (hi:peeks G vs=some (ivs,ids)) :
  OpV C id l G nx df pk (.call { callee := .value (.func f),args:=⟨ar⟩,argTypes:=ats }) (.row id xs.length) (frz ids++[(id, .set (.row et sz (xs.map .imm) false))]):=by
 refine O.of fun t L ht=>?_
 simp only [opA,ev,aCall,fnOf,List.map_nil,List.append_nil,callA,hb,Bool.false_eq_true,if_false,ht.evs ha,hi,ho]
theorem O.callOwnI {f:FuncId} {ar:List Operand} {ats:Array TypeId} {vs:List AV} {ivs:List IV} {et sz:Nat} {xs:List IV} (hb:C.byref f=false) (ho:C.orc f ivs=some (.own et sz xs)) (ha:looks l ar=some vs) (hi:imms vs=some ivs) :
  OpV C id l G nx df pk (.call { callee := .value (.func f),args:=⟨ar⟩,argTypes:=ats }) (.row id xs.length) [(id, .set (.row et sz (xs.map .imm) false))]:=
 O.callOwn (ids:=[]) hb ho ha (by rw [imms_eq hi];exact peeks_imm G ivs)
theorem peek_mpx {q:Nat} {ks vs:List IV} {fr:Bool} (h:G q = .mp ks (vs.map .imm) fr):Go.Abs.peek G pkDepth (.map q)=some (.fmp ks vs,[q]):=by
 have hp:∀ x,Go.Abs.peek G 99 (.imm x)=some (x,[]):=fun x=>rfl
 show Go.Abs.peek G (99+1) _=_
 unfold Go.Abs.peek
 rw [h]
 dsimp only
 rw [peekL_imm hp]
theorem updL_frz1 {q id o:Nat} {x:Obj}:updL G (frz [q]++[(id, .set x)]) o=if o=id then x else if o=q then (G q).freeze else G o:=by
 show upd (upd G q (Obj.freeze (G q))) id x o=_
 unfold upd
 rfl
end Go.Abs
