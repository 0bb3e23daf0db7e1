/- The logic: ends of drawn regions at any addresses; slices of rows; rows as data. -/
import Derived.Test.YtbdoijpclmhbaaaGreatLw9
namespace Go.Abs
variable {C:Cfg} {fid nt:Nat} {l:Env} {G:Nat->Obj} {nx:Nat} {df:List (AV×List AV)} {pk:Pk} {Φ:Out->Prop} {a b:Code} {id:Nat}
variable {ol r:List Oper} {base i d:Nat} {ty:TypeId} {pos:String} {af:Array Edge} {v:AV} {ups:List (Nat×U)}
def gN (ads:List Nat) (k:Nat):Nat:=ads.getD (k-1) 0
theorem gN_inj {ads:List Nat} (hn:ads.Nodup) {w x:Nat} (hw:1<=w/\w<=ads.length) (hx:1<=x/\x<=ads.length) (he:gN ads w=gN ads x):w=x:=by
 unfold gN at he
 rw [List.getD_eq_getElem?_getD,List.getD_eq_getElem?_getD,List.getElem?_eq_getElem (by omega),List.getElem?_eq_getElem (by omega)] at he
 simp only [Option.getD_some] at he
 rcases Nat.lt_trichotomy w x with h|h|h
 ·exact absurd he (List.pairwise_iff_getElem.1 hn _ _ (by omega) (by omega) (by omega))
 ·exact h
 ·exact absurd he.symm (List.pairwise_iff_getElem.1 hn _ _ (by omega) (by omega) (by omega))
theorem D.skipN' {fs:List Fp} (ads:List Nat) (hn:ads.Nodup) (fs0:List Fp) (hfs:fs.reverse=fs0.map (Fp.ren (gN ads))) (hb:((fpWrs fs0++fpAddrs fs0).all fun w=>decide (1<=w)&&decide (w<=ads.length))=true)
  (hk:(drawOK ⟨ol⟩ fs0&&edgesOK ⟨ol⟩)=true) (h:W C 0 nt .skip l G nx df pk Φ):D C nt ol base i [] l G nx df pk fs Φ:=
 D.skip (by
  rw [hfs,drawOK_ren fun w hw x hx he=>?_]
  ·exact hk
  ·have h1:=List.all_eq_true.1 hb w (List.mem_append_left _ hw)
   have h2:=List.all_eq_true.1 hb x (List.mem_append_right _ hx)
   simp only [Bool.and_eq_true,decide_eq_true_eq] at h1 h2
   exact gN_inj hn h1 h2 he) h
theorem touch_imms (k:Nat) (xs:List IV):(xs.map AV.imm).flatMap (touch G k)=[]:=by
 induction xs with
 |nil=>rfl
 |cons x r ih=>rw [List.map_cons,List.flatMap_cons,ih];cases k<;>rfl
theorem peek_row1 {o n et sz:Nat} {xs:List IV} {fr:Bool} (h:G o = .row et sz (xs.map .imm) fr) (hn:xs.length=n):Go.Abs.peek G pkDepth (.row o n)=some (.lst xs,[o]):=by
 have hp:∀ x,Go.Abs.peek G 99 (.imm x)=some (x,[]):=fun x=>rfl
 show Go.Abs.peek G (99+1) _=_
 unfold Go.Abs.peek
 rw [h]
 dsimp only
 rw [if_pos (by simpa using hn),peekL_imm hp]
theorem peeks_nil:peeks G []=some ([],[]):=rfl
theorem peeks_one {v:AV} {x:IV} {ids ids2:List Nat} {vs:List AV} {xs:List IV} (h:Go.Abs.peek G pkDepth v=some (x,ids)) (hr:peeks G vs=some (xs,ids2)):peeks G (v::vs)=some (x::xs,ids++ids2):=by
 unfold peeks at hr ⊢
 rw [peekL,h,hr]
theorem peeks_im {x:IV} {ids2:List Nat} {vs:List AV} {xs:List IV} (hr:peeks G vs=some (xs,ids2)):peeks G (.imm x::vs)=some (x::xs,ids2):=peeks_one (ids:=[]) rfl hr
theorem boundE_at {l:Env} {n d t i:Nat} {k:IntKind} {j:Int} (h:look l t=some (.imm (.int k j))) (hj:j=(i:Int)) (hi:i<=n):boundE l n d (some (.tmp t))=some i:=by
 subst hj
 simp only [boundE,lookO,h]
 rw [if_pos ⟨Int.natCast_nonneg _,by omega⟩,Int.toNat_natCast]
theorem frz_at {q o:Nat} {G:Nat->Obj}:updL G (frz [q]) o=if o=q then (G q).freeze else G o:=by
 show upd G q ((G q).freeze) o=_
 unfold upd;rfl
theorem touch_im {G:Nat->Obj} (x:IV):touch G pkDepth (.imm x)=[]:=rfl
theorem D.gen' {fs:List Fp} (P:(Nat->Obj)->Prop) (h0:P G) (h:∀ G,P G->D C nt ol base i r l G nx df pk fs Φ):D C nt ol base i r l G nx df pk fs Φ:=h _ h0
/-! what is read may be said to be more -/
theorem any_or_le {xs ys:List Nat} (h:∀ x∈xs,x∈ys) (x:Nat) (hx:xs.contains x=true):ys.contains x=true:=by
 simp at hx ⊢;exact h x hx
theorem clash_le1 {a:Fp} {rd':List Nat} {b:Fp} (h:∀ x∈a.rd,x∈rd') (hc:clash { a with rd:=rd' } b=false):clash a b=false:=by
 unfold clash at hc ⊢
 rw [Bool.or_eq_false_iff] at hc ⊢
 refine ⟨hc.1,?_⟩
 have h2:=hc.2
 rw [List.any_eq_false] at h2 ⊢
 intro x hx he
 refine h2 x hx ?_
 rw [Bool.or_eq_true] at he ⊢
 rcases he with he|he
 ·exact .inl (any_or_le h x he)
 ·exact .inr he
theorem clash_le2 {a b:Fp} {rd':List Nat} (h:∀ x∈b.rd,x∈rd') (hc:clash a { b with rd:=rd' }=false):clash a b=false:=by
 unfold clash at hc ⊢
 rw [Bool.or_eq_false_iff] at hc ⊢
 refine ⟨?_,hc.2⟩
 have h1:=hc.1
 rw [List.any_eq_false] at h1 ⊢
 intro x hx he
 refine h1 x hx ?_
 rw [Bool.or_eq_true,Bool.or_eq_true] at he ⊢
 rcases he with (he|he)|he
 ·exact .inl (.inl (any_or_le h x he))
 ·exact .inl (.inr he)
 ·exact .inr he
theorem clearOf_le1 {ops:Array Oper} {a:Fp} {rd':List Nat} (h:∀ x∈a.rd,x∈rd'):∀ fs:List Fp,clearOf ops { a with rd:=rd' } fs=true->clearOf ops a fs=true
 |[],_=>rfl
 |b::r,hc=>by
  unfold clearOf at hc ⊢
  rw [Bool.and_eq_true] at hc ⊢
  refine ⟨?_,clearOf_le1 h r hc.2⟩
  have h1:=hc.1
  rw [Bool.or_eq_true,Bool.and_eq_true] at h1 ⊢
  rcases h1 with h1|⟨h1,h2⟩
  ·exact .inl h1
  ·exact .inr ⟨by rw [clash_le1 h (by simpa using h1)];rfl,h2⟩
theorem clearOf_le2 {ops:Array Oper} {a c:Fp} {rd':List Nat} (h:∀ x∈c.rd,x∈rd') {B:List Fp}:∀ A:List Fp,clearOf ops a (A++{ c with rd:=rd' }::B)=true->clearOf ops a (A++c::B)=true
 |[],hc=>by
  simp only [List.nil_append] at hc ⊢
  unfold clearOf at hc ⊢
  rw [Bool.and_eq_true] at hc ⊢
  refine ⟨?_,hc.2⟩
  have h1:=hc.1
  rw [Bool.or_eq_true,Bool.and_eq_true] at h1 ⊢
  rcases h1 with h1|⟨h1,h2⟩
  ·exact .inl h1
  ·exact .inr ⟨by rw [clash_le2 h (by simpa using h1)];rfl,h2⟩
 |b::A,hc=>by
  rw [List.cons_append] at hc ⊢
  unfold clearOf at hc ⊢
  rw [Bool.and_eq_true] at hc ⊢
  exact ⟨hc.1,clearOf_le2 h A hc.2⟩
theorem drawOK_le {ops:Array Oper} {c:Fp} {rd':List Nat} (h:∀ x∈c.rd,x∈rd') {B:List Fp}:∀ A:List Fp,drawOK ops (A++{ c with rd:=rd' }::B)=true->drawOK ops (A++c::B)=true
 |[],hc=>by
  simp only [List.nil_append] at hc ⊢
  unfold drawOK at hc ⊢
  rw [Bool.and_eq_true] at hc ⊢
  exact ⟨clearOf_le1 h B hc.1,hc.2⟩
 |b::A,hc=>by
  rw [List.cons_append] at hc ⊢
  unfold drawOK at hc ⊢
  rw [Bool.and_eq_true] at hc ⊢
  exact ⟨clearOf_le2 h A hc.1,drawOK_le h A hc.2⟩
theorem drawOK_more {ops:Array Oper} {A fs:List Fp} {j:Nat} {rd rd' wr fz:List Nat} (h:∀ x∈rd,x∈rd') (hd:drawOK ops (A++⟨j,rd',wr,fz⟩::fs).reverse=true):drawOK ops (A++⟨j,rd,wr,fz⟩::fs).reverse=true:=by
 rw [List.reverse_append,List.reverse_cons,List.append_assoc] at hd ⊢
 exact drawOK_le (c:=⟨j,rd,wr,fz⟩) h fs.reverse hd
theorem runE_more {L:Low} {ops:Array Oper} {j:Nat} {rd rd' wr fz:List Nat} (h:∀ x∈rd,x∈rd'):∀ (r:List Oper) (i:Nat) (A fs:List Fp) (s:St) {s':St} {fs':List Fp},runE C L nt ops base i r (A++⟨j,rd',wr,fz⟩::fs) s=some (s',fs')->drawOK ops fs'.reverse=true ->
  ∃ fs2,runE C L nt ops base i r (A++⟨j,rd,wr,fz⟩::fs) s=some (s',fs2)/\drawOK ops fs2.reverse=true
 |[],_,A,fs,s,s',fs',he,hd=>by
  cases he
  exact ⟨_,rfl,drawOK_more h hd⟩
 |o::r,i,A,fs,s,s',fs',he,hd=>by
  unfold runE stepP at he ⊢
  cases hs:stepD C L nt ops base i o s with
  |some y=>rw [hs] at he;exact runE_more h r (i+1) (y.2::A) fs y.1 he hd
  |none=>
   rw [hs] at he
   simp only at he ⊢
   by_cases hk:(pivot ops i&&drawOK ops (A++⟨j,rd',wr,fz⟩::fs).reverse)=true
   ·have hk2:(pivot ops i&&drawOK ops (A++⟨j,rd,wr,fz⟩::fs).reverse)=true:=by
     rw [Bool.and_eq_true] at hk ⊢
     exact ⟨hk.1,drawOK_more h hk.2⟩
    rw [if_pos hk] at he
    rw [if_pos hk2]
    exact ⟨_,he,hd⟩
   ·rw [if_neg hk] at he;cases he
theorem D.more {fs:List Fp} {j:Nat} {rd rd' wr fz:List Nat} (h:∀ x∈rd,x∈rd') (hd:D C nt ol base i r l G nx df pk (⟨j,rd',wr,fz⟩::fs) Φ):D C nt ol base i r l G nx df pk (⟨j,rd,wr,fz⟩::fs) Φ := .mk fun t ht=>by
 obtain ⟨n,s',fs',h1,h2,h3⟩:=hd.st t ht
 rw [Bool.and_eq_true] at h2
 obtain ⟨fs2,h4,h5⟩:=runE_more h r i [] fs _ h1 h2.1
 exact ⟨n,s',fs2,h4,by rw [Bool.and_eq_true];exact ⟨h5,h2.2⟩,h3⟩
theorem D.callB {f:Operand} {ars:List Operand} {ats:Array TypeId} {vs cap:List AV} {fv:AV} {k:FuncId} {fs:List Fp} (hf:lookO l f=some fv) (hfn:fnOf fv=some (.func k,cap)) (hb:C.byref k=true) (ha:looks l ars=some vs) (hd:Nat.ble (d+1) nt=true)
  (hk:(pivot ⟨ol⟩ i&&drawOK ⟨ol⟩ fs.reverse)=true) (hr:Cal C k (vs++cap) G nx fun v G' nx'=>D C nt ol base (i+1) r ((d,v)::l) G' nx' df pk [] Φ) :
  D C nt ol base i (⟨some d, .call { callee := .value f,args:=⟨ars⟩,argTypes:=ats },ty,pos,af,none⟩::r) l G nx df pk fs Φ:=by
 obtain ⟨n,v,G',nx',h1,h2⟩:=hr
 refine .mk fun t ht=>?_
 obtain ⟨m,s',fs',h3,h4,h5⟩:=h2.st (upd t d v) (ht.put d v)
 have hop:opA C (low C n) (base+i) ⟨t,G,nx,df,pk⟩ (.call { callee := .value f,args:=⟨ars⟩,argTypes:=ats })=some (.wr v ⟨t,G',nx',df,pk⟩):=by
  simp only [opA,ht.ev hf,ht.evs ha]
  have:aCall C (low C n) (base+i) ⟨t,G,nx,df,pk⟩ fv vs=callA C (low C n) (base+i) ⟨t,G,nx,df,pk⟩ k (vs++cap):=by
   unfold aCall
   split
   ·cases hfn
   ·rw [hfn]
  rw [this]
  simp only [callA,hb,if_true,h1]
 refine ⟨max n m,s',fs',?_,h4,h5⟩
 have hlt:d < nt:=Nat.le_of_ble_eq_true hd
 unfold runE stepP stepD stepA
 simp only [wantA,opA_mono (low_mono (Nat.le_max_left n m)) hop,Go.Abs.put,if_pos hlt,if_pos hk]
 exact runE_mono (low_mono (Nat.le_max_right n m)) _ _ _ _ h3
theorem D.app2 {x y:Operand} {t u e e' lo hi q sz sz':Nat} {k ke:TyI} {xs:List IV} {z:IV} {fr:Bool} {fs:List Fp} {G0:Nat->Obj} (ho:Own e sz lo hi xs G0 v) (hq:G q = .row e' sz' [.imm z] fr) [hk:TyIs C t k] (hm:xs.length+1<=most)
  (next:∀ v' G' o',Own e sz lo nx (xs++[z]) G' v'->(∀ o,o < lo->G' o=G o)->(∀ o,o≠o'->G' o=G o)->lo<=o'->(o' < hi\/o'=base+i)->D C nt ol base (i+1) r ((d,v')::l) G' nx df pk (⟨i,[o',q],[o'],[]⟩::fs) Φ)
  (ht:k.d = .sl e:=by exact rfl) (he:TyIs C e ke:=by infer_instance) (hsz:sz=ke.sz:=by exact rfl) (hu:Nat.beq t u=true:=by exact rfl) (hx:lookO l x=some v:=by exact rfl) (hy:lookO l y=some (.row q 1):=by exact rfl)
  (hG:∀ o,lo<=o->o < hi->G o=G0 o:=by intro o _ _;exact at_upd) (hf:(AV.imm z).fits sz=true:=by first|exact rfl|assumption) (hs:0 < ke.sz:=by decide) (hb:ke.bytes<=4096:=by decide) (hz:ke.zero.fits ke.sz=true:=by exact rfl) (hid:lo<=base+i/\base+i < nx/\base+i≠q:=by omega)
  (hhi:hi<=nx/\hi<=q:=by omega) (hd:Nat.ble (d+1) nt=true:=by exact rfl) :
  D C nt ol base i (⟨some d, .call { callee := .builtin .append,args := #[x,y],argTypes := #[t,u] },ty,pos,af,none⟩::r) l G nx df pk fs Φ:=by
 subst hsz
 have hrd:rdE l G (.call { callee := .builtin .append,args := #[x,y],argTypes := #[t,u] })=some ([v, .row q 1].flatMap direct):=by
  simp only [rdE,pureOp,looks,hx,hy]
 have hys:([z].map AV.imm).all (AV.fits ke.sz)=true:=by simp [hf]
 have hw:elems G (.row q 1)=some ([z].map AV.imm):=elems_row hq rfl
 rcases ho with ⟨rfl,rfl⟩|⟨o,h1,h2,rfl,hG2⟩
 ·refine D.op1 (O.appNil (hk:=hk) (he:=he) ht hu hx hy hw hs hb hz hys (by simp [most])) hrd hd (D.more (rd':=[base+i,q]) (by simp [direct]) (next _ _ _ (.inr ⟨base+i,hid.1,hid.2.1,by simp,by rw [upd_same];simp⟩) (fun o ho=>upd_ne _ _ _ _ (by omega)) (fun o ho=>upd_ne _ _ _ _ ho) hid.1 (.inr rfl)))
 ·refine D.op1 (O.appRow (hk:=hk) (he:=he) ht hu hx ((hG o h1 h2).trans hG2) (by simp) hy hw hs hb hz hys (by simpa using hm)) hrd hd (D.more (rd':=[o,q]) (by simp [direct]) (next _ _ _ (.inr ⟨o,h1,by omega,by simp,by rw [upd_same];simp⟩) (fun o' ho'=>upd_ne _ _ _ _ (by omega)) (fun o' ho'=>upd_ne _ _ _ _ ho') h1 (.inl h2)))
theorem O.sliceG {x:Operand} {t e:TypeId} {lo hi:Option Operand} {k ke:TyI} {w:AV} {xs:List IV} {ids:List Nat} {m n:Nat} [hk:TyIs C t k] (ht:k.d = .sl e) [he:TyIs C e ke] (hx:lookO l x=some w) (hp:Go.Abs.peek G pkDepth w=some (.lst xs,ids))
  (hh:boundE l xs.length xs.length hi=some n) (hl:boundE l n 0 lo=some m) (hc:(xs.all fun y=>y.cells.length==ke.sz)=true) :
  OpV C id l G nx df pk (.slice t x lo hi none) (.imm (.lst ((xs.take n).drop m))) (frz ids):=
 O.of fun t' L hA=>by
  simp only [opA,hA.ev hx,aSlice,hk.is,ht,hp,he.is]
  simp only [boundE_ok hA hh,boundE_ok hA hl,hc,if_true]
  rfl
theorem O.min {x y:Operand} {t u:TypeId} {m n:Int} {k:IntKind} (hx:lookO l x=some (.imm (.int k m))) (hy:lookO l y=some (.imm (.int k n))):OpV C id l G nx df pk (.call { callee := .builtin .min,args := #[x,y],argTypes := #[t,u] }) (.imm (.int k (if n < m then n else m))) []:=
 O.of fun t' L hA=>by simp only [opA,List.map_cons,List.map_nil,hA.ev hx,hA.ev hy,aBuiltin]
theorem O.loadRA {x:Operand} {t et:TypeId} {k:TyI} {o m n sz:Nat} {xs us:List AV} {fr:Bool} {u:AV} [hk:TyIs C t k] (hx:lookO l x=some (.rptr o m n 0)) (hG:G o = .row et sz xs fr) (hm:xs.length=m) (hu:xs[n]? = some u)
  (hc:Go.Abs.sub u.cells 0 k.sz=some us) (hg:k.d.isAgg=true):OpV C id l G nx df pk (.load t x) (mkAgg us) []:=
 O.of fun t L hA=>by simp [opA,hA.ev hx,aLoad,hk.is,hg,readAt,hG,hm,hu,hc]
theorem mul64 {m n:Int} (h : -9223372036854775808<=m*n/\m*n<=9223372036854775807):intOp .mul .i64 m n=some (.int .i64 (m*n)):=by simp only [intOp,wrap64 h]
theorem O.neg {t:TypeId} {x:Operand} {n:Int} {id:Nat} {l:Env} {G:Nat->Obj} {nx:Nat} {df:List (AV×List AV)} {pk:Pk} {C:Cfg} (hx:lookO l x=some (.imm (.int .i64 n))) (h : -9223372036854775807<=n/\n<=9223372036854775807):OpV C id l G nx df pk (.unOp .neg t x) (.imm (.int .i64 (-n))) []:=
 O.of fun t L ht=>by
  have:IntKind.i64.wrap (0-n) = -n:=by rw [wrap64 (by omega)];omega
  simp only [opA,ht.ev hx,unA,this]
end Go.Abs

/- One step of the logic after the other, as far as it goes, with memory. -/
open Go Go.Abs
namespace Go.Abs
set_option maxRecDepth 100000
theorem OA {C:Cfg} {id:Nat} {l:Env} {G:Nat->Obj} {nx:Nat} {df:List (AV×List AV)} {pk:Pk} {o:Op} {v:AV}
  (h:OpV C id l G nx df pk o v []:=by first|exact O.move rfl|exact O.assign rfl|exact O.fieldP rfl rfl rfl rfl|exact O.loadP rfl rfl rfl (by first|exact rfl|with_reducible assumption|assumption|exact at_upd) rfl|exact O.cmp rfl rfl rfl|exact O.int rfl rfl (add64 (by omega))|exact O.int rfl rfl (sub64 (by omega))|exact O.int rfl rfl (add8 (by omega))|exact O.pickT rfl (by first|with_reducible rfl|with_reducible assumption|decide) rfl|exact O.pickF rfl (by first|with_reducible rfl|with_reducible assumption|decide) rfl|exact O.lenL rfl rfl|exact O.lenSv rfl rfl|exact O.lenS rfl rfl|exact O.not rfl|exact O.neg rfl (by omega)|exact O.int rfl rfl (mul64 (by omega))|exact O.svEq rfl rfl|exact O.svNe rfl rfl|exact O.str rfl rfl rfl|exact O.boolEq rfl rfl rfl|exact O.boolNe rfl rfl rfl|exact O.fieldE rfl rfl rfl rfl|exact O.fieldR rfl rfl rfl rfl|exact O.loadPA rfl rfl (by first|exact rfl|with_reducible assumption|assumption|exact at_upd) rfl rfl|exact O.extr rfl rfl|exact O.nilP rfl|exact O.nilF rfl|exact O.extrT rfl rfl|exact O.makeFunc rfl rfl rfl|exact O.fieldF rfl rfl rfl rfl|exact O.loadF rfl rfl rfl rfl|exact O.loadFA rfl rfl rfl|exact O.ptrEq rfl rfl rfl rfl|exact O.ptrNe rfl rfl rfl rfl|exact O.max rfl rfl|exact O.min rfl rfl|(apply O.addrX;exact rfl;infer_instance;exact rfl;exact rfl;omega;(first|with_reducible assumption|assumption);(first|exact rfl|assumption))|(apply O.load1;exact rfl;(first|with_reducible assumption|assumption);exact rfl;exact rfl;exact rfl)|(apply O.loadE;exact rfl;exact rfl;exact rfl;(first|with_reducible assumption|assumption);exact rfl)|(apply O.loadEA;exact rfl;exact rfl;(first|with_reducible assumption|assumption);exact rfl)|(apply O.call;exact rfl;exact rfl;(first|with_reducible assumption|assumption))|(apply O.addrRX;exact rfl;infer_instance;exact rfl;exact rfl;(first|with_reducible assumption|assumption);(first|exact rfl|with_reducible assumption|assumption|exact List.length_map ..);omega;exact rfl)|(apply O.loadRX;exact rfl;(first|with_reducible assumption|assumption);(first|exact rfl|with_reducible assumption|assumption|exact List.length_map ..);(first|with_reducible assumption|assumption);exact rfl;exact rfl;exact rfl)|(apply O.loadRA;  exact rfl;(first|with_reducible assumption|assumption);(first|exact rfl|with_reducible assumption|assumption|exact List.length_map ..);(first|with_reducible assumption|assumption);exact rfl;exact rfl)|(apply O.lenO;exact rfl;exact rfl;(first|with_reducible assumption|assumption))|(apply O.lenR;exact rfl;exact rfl;(first|exact rfl|with_reducible assumption|assumption|exact at_upd);(first|exact rfl|with_reducible assumption|assumption|exact List.length_map ..))|(apply O.build;exact rfl;exact rfl;exact rfl;exact rfl)|(apply O.callV;exact rfl;infer_instance;exact rfl;exact rfl;(first|with_reducible assumption|assumption))|(apply O.lookA;exact rfl;infer_instance;infer_instance;exact rfl;exact rfl;exact rfl;(first|with_reducible assumption|assumption))):OpV C id l G nx df pk o v []:=h
theorem OB {C:Cfg} {id:Nat} {l:Env} {G:Nat->Obj} {nx:Nat} {df:List (AV×List AV)} {pk:Pk} {o:Op} {v:AV} {q:Nat} {x:Obj}
  (h:OpV C id l G nx df pk o v [(q, .set x)]:=by first|exact O.boxS rfl rfl rfl|exact O.alloc rfl rfl|exact O.makeMap|(apply O.buildX;exact rfl;infer_instance;exact rfl;exact rfl;decide;exact rfl;exact rfl;decide)):OpV C id l G nx df pk o v [(q, .set x)]:=h
theorem ON {C:Cfg} {id:Nat} {l:Env} {G:Nat->Obj} {nx:Nat} {df:List (AV×List AV)} {pk:Pk} {o:Op} {v:AV} {q:Nat} {x:Obj}
  (h:OpV C id l G nx df pk o v [(q, .set x)]:=by first|(apply O.storeP;exact rfl;exact rfl;exact rfl;(first|exact rfl|with_reducible assumption|assumption|exact at_upd);exact rfl;exact rfl)|(apply O.storeP1;exact rfl;exact rfl;exact rfl;assumption;assumption;(first|exact rfl|with_reducible assumption|assumption|exact at_upd);exact rfl;exact rfl)):OpV C id l G nx df pk o v [(q, .set x)]:=h
theorem BB {P Q:Prop} (k:Q) (h:Hold Q->P:=by
 intro k
 (repeat (first|(apply R.op0;exact OA;exact rfl)|(apply R.op1;exact OB;exact rfl)|(apply R.opN1;exact ON)|(apply R.guardT1;exact rfl;exact rfl;(first|with_reducible rfl|with_reducible assumption|decide))|(apply R.guardT0;exact rfl;exact rfl;(first|with_reducible rfl|with_reducible assumption|decide))|(apply R.guardF1;exact rfl;exact rfl;(first|with_reducible rfl|with_reducible assumption|decide);exact rfl)|(apply R.guardF0;exact rfl;exact rfl;(first|with_reducible rfl|with_reducible assumption|decide);exact rfl)|(apply R.guardN;exact rfl;exact rfl;exact rfl)|apply R.done|apply W.seq|apply W.regionN|apply W.drawN|apply W.block|apply W.scope|apply W.label|(apply W.condT;exact rfl;(first|with_reducible rfl|with_reducible assumption|decide))|(apply W.condF;exact rfl;(first|with_reducible rfl|with_reducible assumption|decide))|apply W.retAft|apply W.retBlk|apply W.retLop|apply W.exitAft|apply W.exitLop|apply W.exitBlk|(apply W.exitBlkNe;exact rfl)|apply W.skipAft|apply W.skipBlk|apply W.retCut|apply W.exitCut|apply R.skip|(apply D.op0;exact OA;exact rfl;exact rfl)|(apply D.op1;exact OB;exact rfl;exact rfl)|(apply D.opN1;exact ON;exact rfl)|(apply D.guardT1;exact rfl;exact rfl;(first|with_reducible rfl|with_reducible assumption|decide))|(apply D.guardT0;exact rfl;exact rfl;(first|with_reducible rfl|with_reducible assumption|decide))|(apply D.guardF1;exact rfl;exact rfl;(first|with_reducible rfl|with_reducible assumption|decide);exact rfl)|(apply D.guardF0;exact rfl;exact rfl;(first|with_reducible rfl|with_reducible assumption|decide);exact rfl)|(apply D.guardN;exact rfl;exact rfl;exact rfl)|(apply D.done;kernel_rfl)|(apply D.skip;kernel_rfl)))
 exact Hold.out k):P:=h ⟨k⟩
theorem BN {P Q:Prop} (k:Q) (h:Hold Q->P:=by
 intro k
 (repeat (first|(apply R.op0;exact OA;exact rfl)|(apply R.op1;exact OB;exact rfl)|(apply R.opN1;exact ON)|(apply R.guardT1;exact rfl;exact rfl;(first|with_reducible rfl|with_reducible assumption|decide))|(apply R.guardT0;exact rfl;exact rfl;(first|with_reducible rfl|with_reducible assumption|decide))|(apply R.guardF1;exact rfl;exact rfl;(first|with_reducible rfl|with_reducible assumption|decide);exact rfl)|(apply R.guardF0;exact rfl;exact rfl;(first|with_reducible rfl|with_reducible assumption|decide);exact rfl)|(apply R.guardN;exact rfl;exact rfl;exact rfl)|apply R.done|apply W.seq|apply W.regionN|apply W.drawN|apply W.block|apply W.scope|apply W.label|(apply W.condT;exact rfl;(first|with_reducible rfl|with_reducible assumption|decide))|(apply W.condF;exact rfl;(first|with_reducible rfl|with_reducible assumption|decide))|apply W.retAft|apply W.retBlk|apply W.retLop|apply W.exitAft|apply W.exitLop|apply W.exitBlk|(apply W.exitBlkNe;exact rfl)|apply W.skipAft|apply W.skipBlk|apply W.retCut|apply W.exitCut|apply R.skip|(apply D.op0;exact OA;exact rfl;exact rfl)|(apply D.op1;exact OB;exact rfl;exact rfl)|(apply D.opN1;exact ON;exact rfl)|(apply D.guardT1;exact rfl;exact rfl;(first|with_reducible rfl|with_reducible assumption|decide))|(apply D.guardT0;exact rfl;exact rfl;(first|with_reducible rfl|with_reducible assumption|decide))|(apply D.guardF1;exact rfl;exact rfl;(first|with_reducible rfl|with_reducible assumption|decide);exact rfl)|(apply D.guardF0;exact rfl;exact rfl;(first|with_reducible rfl|with_reducible assumption|decide);exact rfl)|(apply D.guardN;exact rfl;exact rfl;exact rfl)|refine D.auto ?_))
 exact Hold.out k):P:=h ⟨k⟩
theorem BD {P Q:Prop} (k:Q) (h:Hold Q->P:=by
 intro k
 (repeat (first|(apply D.op0;exact OA;exact rfl;exact rfl)|(apply D.op1;exact OB;exact rfl;exact rfl)|(apply D.opN1;exact ON;exact rfl)|(apply D.guardT1;exact rfl;exact rfl;(first|with_reducible rfl|with_reducible assumption|decide))|(apply D.guardT0;exact rfl;exact rfl;(first|with_reducible rfl|with_reducible assumption|decide))|(apply D.guardF1;exact rfl;exact rfl;(first|with_reducible rfl|with_reducible assumption|decide);exact rfl)|(apply D.guardF0;exact rfl;exact rfl;(first|with_reducible rfl|with_reducible assumption|decide);exact rfl)|(apply D.guardN;exact rfl;exact rfl;exact rfl)))
 exact Hold.out k):P:=h ⟨k⟩
end Go.Abs

/- Lags, one by one: what both sides compute of them. -/
open Go Go.Abs
namespace Go.Abs
set_option maxRecDepth 100000
set_option maxHeartbeats 4000000
def ty447:TyI:={ d:=TyD.st [(0,1),(1,1),(2,1),(3,1)],sz:=4,bytes:=24,zero:=AV.imm (IV.agg [IV.bool false,IV.bool false,IV.int IntKind.i64 (0),IV.int IntKind.i64 (0)]) }
instance tyis447:TyIs CC 147 ty447:=⟨by kernel_rfl⟩
def ty453:TyI:={ d:=TyD.st [(0,1),(1,1),(2,1),(3,1)],sz:=4,bytes:=24,zero:=AV.imm (IV.agg [IV.bool false,IV.bool false,IV.int IntKind.i64 (0),IV.int IntKind.i64 (0)]) }
instance tyis453:TyIs CC 153 ty453:=⟨by kernel_rfl⟩
instance fnis451:FnIs CC 151:=⟨rfl,fun _=>rfl⟩
instance fnis453:FnIs CC 153:=⟨rfl,fun _=>rfl⟩
instance fnis441:FnIs CC 141:=⟨rfl,fun _=>rfl⟩
structure Lg.In (K:Int) (a:Lg):Prop where
 back : -K<=a.back/\a.back<=K
 ahead : -K<=a.ahead/\a.ahead<=K
theorem Lg.iv_mk (on e:Bool) (b f:Int):Lg.iv ⟨on,e,b,f⟩ = .agg [.bool on, .bool e, .int .i64 b, .int .i64 f]:=rfl
theorem ret453 {a b:Lg}:Ret CC 153 [a.iv,b.iv] (a.both b).iv:=by
 obtain ⟨on,e,b1,f⟩:=a
 obtain ⟨on',e',b2,f'⟩:=b
 rw [Lg.iv_mk,Lg.iv_mk]
 refine Ret.of (fn:=Go.Proofs.Tryz.f153) (by kernel_rfl) rfl rfl ?_
 cases on
 ·refine BB ?_
  exact W.retFinCA rfl rfl rfl rfl ⟨[],rfl⟩
 cases on'
 ·refine BB ?_
  exact W.retFinCA rfl rfl rfl rfl ⟨[],rfl⟩
 cases e<;>cases e'
 all_goals
  refine BB ?_
  exact W.retFinCA rfl rfl rfl rfl ⟨[],rfl⟩
theorem ret451 {a:Lg} {bk ah:Int} (hk:a.Ok) (h:a.In 4294967296) (hb : -4294967296<=bk/\bk<=4294967296) (ha : -4294967296<=ah/\ah<=4294967296):Ret CC 151 [a.iv, .int .i64 bk, .int .i64 ah] (a.thru false bk ah).iv:=by
 obtain ⟨h1,h2⟩:=h
 have h3:=hk.back
 obtain ⟨on,e,b,f⟩:=a
 simp only at h1 h2 h3
 rw [Lg.iv_mk]
 refine Ret.of (fn:=Go.Proofs.Tryz.f151) (by kernel_rfl) rfl rfl ?_
 cases on
 ·refine BB ?_
  exact W.retFinCA rfl rfl rfl rfl ⟨[],rfl⟩
 ·cases e
  ·refine BB ?_
   exact W.retFinCA rfl rfl rfl rfl ⟨[],rfl⟩
  ·obtain rfl:=h3 rfl
   refine BB ?_
   exact W.retFinCA rfl rfl rfl rfl ⟨[],rfl⟩
theorem ret441 {a:Lg}:Ret CC 141 [a.iv] (a.thru true 0 0).iv:=by
 obtain ⟨on,e,b,f⟩:=a
 have hf:f+0=f:=Int.add_zero f
 rw [Lg.iv_mk]
 refine Ret.of (fn:=Go.Proofs.Tryz.f141) (by kernel_rfl) rfl rfl ?_
 cases on
 ·refine BB ?_
  exact W.retFinCA rfl rfl rfl rfl ⟨[],rfl⟩
 ·cases e
  all_goals
   simp only [Lg.thru,if_true,Bool.or_true,hf]
   refine BB ?_
   exact W.retFinCA rfl rfl rfl rfl ⟨[],rfl⟩
end Go.Abs

/- The groups of definitions, in their order. -/
open Go Go.Abs
namespace Go.Abs
set_option maxRecDepth 100000
noncomputable def grpR (tos:List (List Nat)) (d:Nat):List Nat:=ringTo (reachR tos) d tos.length
noncomputable def readyR (tos:List (List Nat)) (done:List Nat) (d:Nat):Bool := !done.contains d&&(List.range tos.length).all fun k => !reachB tos d k||done.contains k||(grpR tos d).contains k
noncomputable def nextR (tos:List (List Nat)) (done:List Nat):Option Nat:=(List.range tos.length).find? (readyR tos done)
noncomputable def orderTo (tos:List (List Nat)):Nat->List Nat->List (List Nat)
 |0,_=>[]
 |f+1,done=>match nextR tos done with
  |none=>[]
  |some d=>grpR tos d::orderTo tos f (done++grpR tos d)
noncomputable def orderR (tos:List (List Nat)):List (List Nat):=orderTo tos tos.length []
section
variable {tos:List (List Nat)}
theorem mem_grp {i j:Nat} (hi:i < tos.length):j∈grpR tos i↔j < tos.length/\(j=i\/(Reach tos i j/\Reach tos j i)):=mem_ringTo hi
theorem grp_self {d:Nat} (hd:d < tos.length):d∈grpR tos d:=(mem_grp hd).2 ⟨hd, .inl rfl⟩
theorem grp_same {i j:Nat} (hi:i < tos.length) (hj:j∈grpR tos i):grpR tos j=grpR tos i:=by
 obtain ⟨hl,h⟩:=(mem_grp hi).1 hj
 rcases h with rfl|⟨h1,h2⟩
 ·rfl
 ·exact (ringTo_same hi hl h1 h2).symm
theorem grp_nodup (d:Nat):(grpR tos d).Nodup:=List.Pairwise.filter _ List.nodup_range
theorem grp_lt {d k:Nat} (h:k∈grpR tos d):k < tos.length:=by
 unfold grpR ringTo at h
 exact List.mem_range.1 (List.mem_filter.1 h).1
theorem ready_iff {done:List Nat} {d:Nat}:readyR tos done d=true↔d∉done/\∀ k,k < tos.length->Reach tos d k->k∈done\/k∈grpR tos d:=by
 unfold readyR
 rw [Bool.and_eq_true,List.all_eq_true,Bool.not_eq_true',List.contains_eq_mem,decide_eq_false_iff_not]
 refine and_congr Iff.rfl ⟨fun h k hk hr=>?_,fun h k hk=>?_⟩
 ·have:=h k (List.mem_range.2 hk)
  rw [reachB_iff.2 hr] at this
  simpa [List.contains_iff_mem] using this
 ·by_cases hr:reachB tos d k=true
  ·have:=h k (List.mem_range.1 hk) (reachB_iff.1 hr)
   simpa [hr,List.contains_iff_mem] using this
  ·simp [hr]
structure DoneIs (tos:List (List Nat)) (done:List Nat):Prop where
 nodup:done.Nodup
 lt:∀ d∈done,d < tos.length
 whole:∀ d∈done,∀ k∈grpR tos d,k∈done
theorem DoneIs.nil:DoneIs tos []:=⟨List.nodup_nil,fun _ h=>absurd h List.not_mem_nil,fun _ h=>absurd h List.not_mem_nil⟩
theorem DoneIs.apart {done:List Nat} (h:DoneIs tos done) {d:Nat} (hd:d < tos.length) (hn:d∉done) {k:Nat} (hk:k∈grpR tos d):k∉done:=fun hkd=>
 hn (h.whole k hkd d (by rw [grp_same hd hk];exact grp_self hd))
theorem DoneIs.step {done:List Nat} (h:DoneIs tos done) {d:Nat} (hd:d < tos.length) (hn:d∉done):DoneIs tos (done++grpR tos d) where
 nodup:=List.nodup_append.2 ⟨h.nodup,grp_nodup d,fun a ha b hb hab=>h.apart hd hn hb (hab▸ha)⟩
 lt:=fun k hk=>by
  rcases List.mem_append.1 hk with hk|hk
  ·exact h.lt k hk
  ·exact grp_lt hk
 whole:=fun e he k hk=>by
  rcases List.mem_append.1 he with he|he
  ·exact List.mem_append_left _ (h.whole e he k hk)
  ·rw [grp_same hd he] at hk
   exact List.mem_append_right _ hk
theorem DoneIs.len {done:List Nat} (h:DoneIs tos done):done.length<=tos.length:=nodup_lt h.nodup h.lt
theorem DoneIs.all {done:List Nat} (h:DoneIs tos done) (hl:tos.length<=done.length) {d:Nat} (hd:d < tos.length):d∈done:=Classical.byContradiction fun hn=>by
 have:=nodup_lt (a:=d::done) (n:=tos.length) (List.nodup_cons.2 ⟨hn,h.nodup⟩) (fun x hx=>by
  rcases List.mem_cons.1 hx with rfl|hx
  ·exact hd
  ·exact h.lt x hx)
 simp only [List.length_cons] at this;omega
theorem DoneIs.some {done:List Nat} (hl:done.length < tos.length):∃ d,d < tos.length/\d∉done:=Classical.byContradiction fun hn=>by
 have:=nodup_le (List.range tos.length) done List.nodup_range (fun x hx=>Classical.byContradiction fun hc=>hn ⟨x,List.mem_range.1 hx,hc⟩)
 rw [List.length_range] at this;omega
noncomputable def downN (tos:List (List Nat)) (d:Nat):List Nat:=(List.range tos.length).filter fun k=>k==d||reachB tos d k
theorem down_lt {d k:Nat} (hd:d < tos.length) (hk:Reach tos d k) (hg:k∉grpR tos d) (hkl:k < tos.length):(downN tos k).length < (downN tos d).length:=by
 have hnr:¬ (d=k)/\¬ Reach tos k d:=by
  refine ⟨fun e=>hg (e▸grp_self hd),fun h=>hg ((mem_grp hd).2 ⟨hkl, .inr ⟨hk,h⟩⟩)⟩
 have:=nodup_le (d::downN tos k) (downN tos d) (List.nodup_cons.2 ⟨by
  unfold downN
  rw [List.mem_filter,Bool.or_eq_true,reachB_iff,beq_iff_eq]
  exact fun h=>h.2.elim hnr.1 hnr.2,List.Pairwise.filter _ List.nodup_range⟩) (fun x hx=>by
  unfold downN at hx ⊢
  rw [List.mem_filter,Bool.or_eq_true,reachB_iff,beq_iff_eq,List.mem_range]
  rcases List.mem_cons.1 hx with rfl|hx
  ·exact ⟨hd, .inl rfl⟩
  ·rw [List.mem_filter,Bool.or_eq_true,reachB_iff,beq_iff_eq,List.mem_range] at hx
   refine ⟨hx.1, .inr ?_⟩
   rcases hx.2 with rfl|h
   ·exact hk
   ·exact hk.trans h)
 simp only [List.length_cons] at this;omega
theorem ready_some (done:List Nat):∀ (m d:Nat),(downN tos d).length<=m->d < tos.length->d∉done->∃ e,e < tos.length/\readyR tos done e=true:=by
 intro m
 induction m with
 |zero=>
  intro d hm hd _
  have:d∈downN tos d:=by unfold downN;rw [List.mem_filter];exact ⟨List.mem_range.2 hd,by simp⟩
  have h0:(downN tos d).length=0:=by omega
  rw [List.eq_nil_of_length_eq_zero h0] at this
  exact absurd this List.not_mem_nil
 |succ m ih=>
  intro d hm hd hn
  by_cases hr:readyR tos done d=true
  ·exact ⟨d,hd,hr⟩
  ·rw [ready_iff] at hr
   have:∃ k,k < tos.length/\Reach tos d k/\k∉done/\k∉grpR tos d:=Classical.byContradiction fun hc=>hr ⟨hn,fun k hk hdk=>Classical.byContradiction fun hc2=>hc ⟨k,hk,hdk,fun h=>hc2 (.inl h),fun h=>hc2 (.inr h)⟩⟩
   obtain ⟨k,hk,hdk,h1,h2⟩:=this
   have:=down_lt hd hdk h2 hk
   exact ih k (by omega) hk h1
theorem next_some {done:List Nat} (hl:done.length < tos.length):∃ d,nextR tos done=some d/\d < tos.length/\d∉done:=by
 obtain ⟨d,hd,hn⟩:=DoneIs.some hl
 obtain ⟨e,he,hr⟩:=ready_some done _ d (Nat.le_refl _) hd hn
 have:(nextR tos done).isSome:=by
  unfold nextR
  rw [List.find?_isSome]
  exact ⟨e,List.mem_range.2 he,hr⟩
 obtain ⟨x,hx⟩:=Option.isSome_iff_exists.1 this
 refine ⟨x,hx,List.mem_range.1 (List.mem_of_find?_eq_some hx),?_⟩
 have:=List.find?_some hx
 exact (ready_iff.1 this).1
theorem next_none {done:List Nat} (h:DoneIs tos done) (hl:tos.length<=done.length):nextR tos done=none:=by
 unfold nextR
 rw [List.find?_eq_none]
 intro d hd hr
 exact (ready_iff.1 hr).1 (h.all hl (List.mem_range.1 hd))
theorem orderTo_end {done:List Nat} (h:DoneIs tos done) (hl:tos.length<=done.length) (f:Nat):orderTo tos f done=[]:=by
 cases f with
 |zero=>rfl
 |succ f=>rw [orderTo,next_none h hl]
theorem next_is {done:List Nat} {d:Nat} (hd:d < tos.length) (hr:readyR tos done d=true) (hf:∀ e,e < d->readyR tos done e=false):nextR tos done=some d:=by
 have:(nextR tos done).isSome:=by
  unfold nextR
  rw [List.find?_isSome]
  exact ⟨d,List.mem_range.2 hd,hr⟩
 obtain ⟨x,hx⟩:=Option.isSome_iff_exists.1 this
 rw [hx]
 have hxr:=List.find?_some hx
 unfold nextR at hx
 obtain ⟨_,l1,l2,hab,hno⟩:=List.find?_eq_some_iff_append.1 hx
 have hx1:¬ x < d:=fun h=>by rw [hf x h] at hxr;cases hxr
 refine congrArg Option.some (Nat.le_antisymm (Nat.le_of_not_lt fun h=>?_) (Nat.le_of_not_lt hx1))
 have hlen:l1.length=x:=by
  have h1:(List.range tos.length)[l1.length]? = some x:=by rw [hab];simp
  rw [List.getElem?_eq_some_iff] at h1
  obtain ⟨h2,h3⟩:=h1
  simpa using h3
 have:d∈l1:=by
  have h1:(List.range tos.length)[d]? = some d:=by rw [List.getElem?_range hd]
  rw [hab,List.getElem?_append_left (by omega)] at h1
  exact List.mem_of_getElem? h1
 have:=hno d this
 rw [hr] at this;cases this
theorem next_inv {done:List Nat} {d:Nat} (h:nextR tos done=some d):d < tos.length/\readyR tos done d=true/\∀ e,e < d->readyR tos done e=false:=by
 have hr:=List.find?_some h
 unfold nextR at h
 have hd:=List.mem_range.1 (List.mem_of_find?_eq_some h)
 refine ⟨hd,hr,fun e he=>?_⟩
 obtain ⟨_,l1,l2,hab,hno⟩:=List.find?_eq_some_iff_append.1 h
 have hlen:l1.length=d:=by
  have h1:(List.range tos.length)[l1.length]? = some d:=by rw [hab];simp
  rw [List.getElem?_eq_some_iff] at h1
  obtain ⟨h2,h3⟩:=h1
  simpa using h3
 have:e∈l1:=by
  have h1:(List.range tos.length)[e]? = some e:=by rw [List.getElem?_range (by omega)]
  rw [hab,List.getElem?_append_left (by omega)] at h1
  exact List.mem_of_getElem? h1
 simpa using hno e this
end
end Go.Abs

/- The lags of definitions: round after round. -/
open Go Go.Abs
namespace Go.Abs
set_option maxRecDepth 100000
def colD (D:List (List Lg)) (s:Nat):Nat->Lg:=fun d=>(D.getD d []).getD s Lg.z
def expAt (p:Pgm) (d:Nat):Exp:=match p.defs[d]? with
 |some x=>x.exp
 |none => .mk 0 [] 0 0 [] []
def allL (p:Pgm) (D:List (List Lg)) (e:Exp):List Lg:=(List.range p.srcs.length).map fun s=>expG p.srcs (p.defs.map Dfn.name) (colD D s) s e
def ringL (ring:Bool) (a:Lg):Lg:=if ring then a.thru true 0 0 else a
def rowL (p:Pgm) (ring:Bool) (D:List (List Lg)) (d:Nat):List Lg:=(allL p D (expAt p d)).map (ringL ring)
def setL (p:Pgm) (ring:Bool) (D:List (List Lg)) (d:Nat):List (List Lg):=D.set d (rowL p ring D d)
def rndL (p:Pgm) (ring:Bool) (g:List Nat) (D:List (List Lg)):List (List Lg):=g.foldl (setL p ring) D
def rndsL (p:Pgm) (ring:Bool) (g:List Nat):Nat->List (List Lg)->List (List Lg)
 |0,D=>D
 |n+1,D=>rndL p ring g (rndsL p ring g n D)
structure Wide (p:Pgm) (D:List (List Lg)):Prop where
 len:D.length=p.defs.length
 row:∀ r∈D,r.length=p.srcs.length
 ok:∀ r∈D,∀ a∈r,a.Ok
theorem Wide.col {p:Pgm} {D:List (List Lg)} (h:Wide p D) (s d:Nat):(colD D s d).Ok:=by
 unfold colD
 rw [List.getD_eq_getElem?_getD,List.getD_eq_getElem?_getD]
 cases hd:D[d]? with
 |none=>exact Lg.okz
 |some r=>
  simp only [Option.getD_some]
  cases hs:r[s]? with
  |none=>exact Lg.okz
  |some a=>exact h.ok r (List.mem_of_getElem? hd) a (List.mem_of_getElem? hs)
theorem rowL_len (p:Pgm) (ring:Bool) (D:List (List Lg)) (d:Nat):(rowL p ring D d).length=p.srcs.length:=by simp [rowL,allL]
theorem Wide.allL {p:Pgm} {D:List (List Lg)} (h:Wide p D) (e:Exp):∀ a∈allL p D e,a.Ok:=fun a ha=>by
 unfold Go.Abs.allL at ha
 obtain ⟨s,_,rfl⟩:=List.mem_map.1 ha
 exact expG_ok _ _ (h.col s) s _
theorem Wide.rowL {p:Pgm} {D:List (List Lg)} (h:Wide p D) (ring:Bool) (d:Nat):∀ a∈rowL p ring D d,a.Ok:=fun a ha=>by
 unfold Go.Abs.rowL at ha
 obtain ⟨b,hb,rfl⟩:=List.mem_map.1 ha
 unfold ringL
 split
 ·exact (h.allL _ b hb).thru _ _ _
 ·exact h.allL _ b hb
theorem Wide.set {p:Pgm} {D:List (List Lg)} (h:Wide p D) (ring:Bool) (d:Nat):Wide p (setL p ring D d) where
 len:=by unfold setL;rw [List.length_set];exact h.len
 row:=fun r hr=>by
  rcases List.mem_or_eq_of_mem_set hr with hr|rfl
  ·exact h.row r hr
  ·exact rowL_len ..
 ok:=fun r hr=>by
  rcases List.mem_or_eq_of_mem_set hr with hr|rfl
  ·exact h.ok r hr
  ·exact h.rowL ring d
theorem Wide.rnd {p:Pgm} {ring:Bool}:∀ (g:List Nat) {D:List (List Lg)},Wide p D->Wide p (rndL p ring g D)
 |[],_,h=>h
 |d::g,_,h=>Wide.rnd g (h.set ring d)
theorem Wide.rnds {p:Pgm} {D:List (List Lg)} (h:Wide p D) (ring:Bool) (g:List Nat):∀ n,Wide p (rndsL p ring g n D)
 |0=>h
 |n+1=>(h.rnds ring g n).rnd g
theorem Wide.ext {p:Pgm} {D E:List (List Lg)} (h:Wide p D) (k:Wide p E) (he:∀ s,s < p.srcs.length->∀ d,colD D s d=colD E s d):D=E:=by
 refine List.ext_getElem (by rw [h.len,k.len]) fun d h1 h2=>?_
 refine List.ext_getElem (by rw [h.row _ (List.getElem_mem h1),k.row _ (List.getElem_mem h2)]) fun s h3 h4=>?_
 have hs:s < p.srcs.length:=by rw [<-h.row _ (List.getElem_mem h1)];exact h3
 have:=he s hs d
 unfold colD at this
 simpa [List.getD_eq_getElem?_getD,h1,h2,h3,h4] using this
theorem col_set {p:Pgm} {D:List (List Lg)} (h:Wide p D) (ring:Bool) {d:Nat} (hd:d < p.defs.length) {s:Nat} (hs:s < p.srcs.length) (e:Nat) :
  colD (setL p ring D d) s e=if e=d then ringL ring (expG p.srcs (p.defs.map Dfn.name) (colD D s) s (expAt p d)) else colD D s e:=by
 have hd':d < D.length:=by rw [h.len];exact hd
 unfold colD setL
 by_cases he:e=d
 ·subst he
  rw [if_pos rfl,List.getD_eq_getElem?_getD (l:=D.set e _),List.getElem?_set_self hd',Option.getD_some]
  unfold rowL allL
  simp [List.getD_eq_getElem?_getD,hs]
  rfl
 ·rw [if_neg he,List.getD_eq_getElem?_getD (l:=D.set d _),List.getElem?_set_ne (fun h=>he h.symm),<-List.getD_eq_getElem?_getD]
/-! A ring. -/
def ofK:Option Int->Lg
 |none=>Lg.z
 |some a=>⟨true,true,0,a⟩
theorem ring_ofK {a:Lg} (h:a.Ok):ringL true a=ofK (ringL true a).key:=by
 unfold ringL
 rw [if_pos rfl]
 unfold Lg.thru
 cases ha:a.on
 ·rw [h.none ha];rfl
 ·simp [Lg.key,ofK]
def valK (g:List Nat) (w:Nat->Lg) (u:Nat->Option Int) (e:Nat):Lg:=if e∈g then ofK (u e) else w e
def FK (p:Pgm) (g:List Nat) (w:Nat->Lg) (s:Nat) (u:Nat->Option Int) (d:Nat):Option Int:=(ringL true (expG p.srcs (p.defs.map Dfn.name) (valK g w u) s (expAt p d))).key
theorem key_ofK (x:Option Int):(ofK x).key=x:=by cases x<;>rfl
theorem key_ring (a:Lg):(ringL true a).key=a.key:=by
 unfold ringL
 rw [if_pos rfl,key_thru]
 cases a.key<;>simp [oup]
theorem FK_ok {p:Pgm} {g:List Nat} {w:Nat->Lg} {s:Nat} (hg:∀ d∈g,∀ x∈allE (expAt p d),x.fore=false/\(x.op=2\/x.op=3->0<=x.n)) {v0:Nat->Option Int} (h0:∀ d∈g,v0 d=none):Iter.Ok (FK p g w s) g v0 where
 start:=h0
 mono:=fun u v h d=>by
  unfold FK
  rw [key_ring,key_ring]
  refine expG_mono _ _ _ (fun e=>?_) _
  unfold valK
  split
  ·rw [key_ofK,key_ofK];exact h e
  ·exact Iter.le_refl _
 wit:=fun u v h ho d hd hlt=>by
  unfold FK at hlt ⊢
  rw [key_ring] at hlt ⊢
  rw [key_ring] at hlt
  obtain ⟨e,he,h1,h2⟩:=expG_wit p.srcs (p.defs.map Dfn.name) s (g:=g) (u:=valK g w u) (v:=valK g w v) (fun e he=>by unfold valK;rw [if_neg he,if_neg he]) _ (hg d hd) hlt
  unfold valK at h1 h2
  rw [if_pos he,key_ofK] at h1 h2
  rw [if_pos he,key_ofK] at h2
  exact ⟨e,he,h1,h2⟩
theorem ring_step {p:Pgm} {g:List Nat} {w:Nat->Lg} {s:Nat} (hs:s < p.srcs.length) {D:List (List Lg)} (h:Wide p D) {u:Nat->Option Int} (hu:∀ e,colD D s e=valK g w u e) {d:Nat} (hd:d < p.defs.length) (hg:d∈g) (e:Nat) :
  colD (setL p true D d) s e=valK g w (Iter.one (FK p g w s) u d) e:=by
 rw [col_set h true hd hs,show colD D s=valK g w u from funext hu]
 unfold valK Iter.one
 by_cases he:e=d
 ·subst he
  rw [if_pos rfl,if_pos hg,if_pos rfl]
  have hok:(expG p.srcs (p.defs.map Dfn.name) (valK g w u) s (expAt p e)).Ok:=expG_ok _ _ (fun e=>by rw [<-hu];exact h.col s e) s _
  exact ring_ofK hok
 ·rw [if_neg he,if_neg he]
theorem ring_rnd {p:Pgm} {g:List Nat} {w:Nat->Lg} {s:Nat} (hs:s < p.srcs.length):∀ (r:List Nat),(∀ d∈r,d < p.defs.length/\d∈g)->∀ {D:List (List Lg)},Wide p D->∀ {u:Nat->Option Int},(∀ e,colD D s e=valK g w u e) ->
  ∀ e,colD (rndL p true r D) s e=valK g w (r.foldl (Iter.one (FK p g w s)) u) e
 |[],_,_,_,_,hu=>hu
 |d::r,hr,D,h,u,hu=>by
  have hd:=hr d (List.mem_cons_self ..)
  exact ring_rnd hs r (fun x hx=>hr x (List.mem_cons_of_mem _ hx)) (h.set true d) (ring_step hs h hu hd.1 hd.2)
theorem ring_rnds {p:Pgm} {g:List Nat} {w:Nat->Lg} {s:Nat} (hs:s < p.srcs.length) (hg:∀ d∈g,d < p.defs.length) {D:List (List Lg)} (h:Wide p D) {u:Nat->Option Int} (hu:∀ e,colD D s e=valK g w u e) :
  ∀ n e,colD (rndsL p true g n D) s e=valK g w (Iter.it (Iter.gs (FK p g w s) g) n u) e
 |0=>hu
 |n+1=>ring_rnd hs g (fun d hd=>⟨hg d hd,hd⟩) (h.rnds true g n) (ring_rnds hs hg h hu n)
theorem ring_end {p:Pgm} {g:List Nat} (hg:∀ d∈g,d < p.defs.length) (hx:∀ d∈g,∀ x∈allE (expAt p d),x.fore=false/\(x.op=2\/x.op=3->0<=x.n)) {D:List (List Lg)} (h:Wide p D) (h0:∀ d∈g,∀ s,colD D s d=Lg.z) {m n:Nat} (hm:g.length<=m) (hn:g.length<=n) :
  rndsL p true g m D=rndsL p true g n D:=by
 refine (h.rnds true g m).ext (h.rnds true g n) fun s hs e=>?_
 have hu:∀ e,colD D s e=valK g (colD D s) (fun d=>if d∈g then none else (colD D s d).key) e:=fun e=>by
  unfold valK
  by_cases he:e∈g
  ·rw [if_pos he,h0 e he];simp only [he,if_true];rfl
  ·rw [if_neg he]
 have hok:=FK_ok (p:=p) (g:=g) (w:=colD D s) (s:=s) hx (v0:=fun d=>if d∈g then none else (colD D s d).key) (fun d hd=>if_pos hd)
 rw [ring_rnds hs hg h hu m e,ring_rnds hs hg h hu n e,Iter.gs_eq hok hm,Iter.gs_eq hok hn]
/-! What is alone. -/
mutual
theorem expG_cong (srcs names:List Str) {u v:Nat->Lg} (s:Nat):∀ e,(∀ x∈allE e,x.op=2\/x.op=3->u (idxN names x.name)=v (idxN names x.name))->expG srcs names u s e=expG srcs names v s e
 | .mk op name n fold calcs kids,h=>by
  rw [expG,expG]
  split
  ·rfl
  ·split
   ·rename_i hop
    have h1:u (idxN names name)=v (idxN names name):=h (.mk op name n fold calcs kids) (by rw [allE];exact List.mem_cons_self ..) hop
    rw [h1]
   ·exact kidsG_cong srcs names s op n kids 0 _ fun x hx=>h x (by rw [allE];exact List.mem_cons_of_mem _ hx)
theorem kidsG_cong (srcs names:List Str) {u v:Nat->Lg} (s:Nat) (op n:Int):∀ (l:List Exp) (i:Nat) (out:Lg),(∀ x∈allEs l,x.op=2\/x.op=3->u (idxN names x.name)=v (idxN names x.name))->kidsG srcs names u s op n l i out=kidsG srcs names v s op n l i out
 |[],_,_,_=>by rw [kidsG,kidsG]
 |x::r,i,out,h=>by
  rw [kidsG,kidsG,expG_cong srcs names s x fun y hy=>h y (by rw [allEs];exact List.mem_append_left _ hy)]
  exact kidsG_cong srcs names s op n r (i+1) _ fun y hy=>h y (by rw [allEs];exact List.mem_append_right _ hy)
end
theorem one_end {p:Pgm} {d:Nat} (hd:d < p.defs.length) (hx:∀ x∈allE (expAt p d),x.op=2\/x.op=3->idxN (p.defs.map Dfn.name) x.name≠d) {D:List (List Lg)} (h:Wide p D):∀ {n:Nat},1<=n->rndsL p false [d] n D=rndsL p false [d] 1 D
 |0,hn=>absurd hn (by omega)
 |1,_=>rfl
 |n+2,_=>by
  rw [rndsL,one_end hd hx h (n:=n+1) (by omega)]
  have hw:Wide p (setL p false D d):=h.set false d
  show setL p false (setL p false D d) d=setL p false D d
  refine (hw.set false d).ext hw fun s hs e=>?_
  rw [col_set hw false hd hs]
  by_cases he:e=d
  ·subst he
   rw [if_pos rfl,col_set h false hd hs,if_pos rfl]
   refine congrArg (ringL false) (expG_cong _ _ s _ fun x hxe hop=>?_)
   rw [col_set h false hd hs,if_neg (hx x hxe hop)]
  ·rw [if_neg he]
theorem rnds_still {p:Pgm} {ring:Bool} {g:List Nat} {D:List (List Lg)} {r:Nat} (h:rndL p ring g (rndsL p ring g r D)=rndsL p ring g r D):∀ {m:Nat},r<=m->rndsL p ring g m D=rndsL p ring g r D:=by
 intro m hm
 induction hm with
 |refl=>rfl
 |step _ ih=>rw [rndsL,ih,h]
end Go.Abs

/- How far lags go; the lags of all definitions. -/
open Go Go.Abs
namespace Go.Abs
set_option maxRecDepth 100000
theorem Lg.In.mono {K L:Int} {a:Lg} (h:a.In K) (hk:K<=L):a.In L:=⟨⟨by have:=h.back;omega,by have:=h.back;omega⟩,⟨by have:=h.ahead;omega,by have:=h.ahead;omega⟩⟩
theorem Lg.inz {K:Int} (h:0<=K):Lg.z.In K:=⟨⟨by show -K<=(0:Int);omega,h⟩,⟨by show -K<=(0:Int);omega,h⟩⟩
theorem Lg.In.both {K:Int} {a b:Lg} (ha:a.In K) (hb:b.In K):(a.both b).In K:=by
 unfold Lg.both
 split
 ·split
  ·refine ⟨?_,?_⟩
   ·show -K<=(if (a.ever||b.ever)=true then (0:Int) else mxI a.back b.back)/\(if (a.ever||b.ever)=true then (0:Int) else mxI a.back b.back)<=K
    have:=ha.back;have:=hb.back
    split
    ·omega
    ·rw [mxI_eq];omega
   ·show -K<=mxI a.ahead b.ahead/\mxI a.ahead b.ahead<=K
    have:=ha.ahead;have:=hb.ahead
    rw [mxI_eq];omega
  ·exact ha
 ·exact hb
theorem Lg.In.thru {K M:Int} {a:Lg} (h:a.In K) {ev:Bool} {bk ah:Int} (hb : -M<=bk/\bk<=M) (ha : -M<=ah/\ah<=M):(a.thru ev bk ah).In (K+M):=by
 unfold Lg.thru
 split
 ·refine ⟨?_,?_⟩
  ·show -(K+M)<=(if (a.ever||ev)=true then (0:Int) else a.back+bk)/\(if (a.ever||ev)=true then (0:Int) else a.back+bk)<=K+M
   have:=h.back
   split<;>omega
  ·show -(K+M)<=a.ahead+ah/\a.ahead+ah<=K+M
   have:=h.ahead;omega
 ·exact h.mono (by omega)
structure NodeB (x:Exp):Prop where
 n : -50<=x.n/\x.n<=50
 kids:x.kids.length<=2
 op:1<=x.op/\x.op<=15
theorem Lg.In.kid {K:Int} {a:Lg} (h:a.In K) {op n:Int} (hn : -50<=n/\n<=50) {i:Nat} (hi:i<=1):(kidL op n i a).In (K+64):=by
 have hi':(i:Int)=0\/(i:Int)=1:=by omega
 unfold kidL
 repeat' split
 ·exact h.thru (by omega) (by omega)
 ·exact h.thru (by omega) (by omega)
 ·exact h.thru (by omega) (by omega)
 ·exact h.thru (by omega) (by omega)
 ·exact h.thru (by omega) (by omega)
 ·rcases hi' with e|e
  ·rw [e,Int.mul_zero];exact h.thru (by omega) (by omega)
  ·rw [e,Int.mul_one];exact h.thru (by omega) (by omega)
 ·exact h.mono (by omega)
mutual
theorem expG_in (srcs names:List Str) {v:Nat->Lg} {K:Int} (hK:0<=K) (hv:∀ d,(v d).In K) (s:Nat):∀ e,(∀ x∈allE e,NodeB x)->(expG srcs names v s e).In (K+64*((allE e).length:Int))
 | .mk op name n fold calcs kids,h=>by
  have hb:=h (.mk op name n fold calcs kids) (by rw [allE];exact List.mem_cons_self ..)
  have hn : -50<=n/\n<=50:=hb.n
  rw [expG,allE,List.length_cons]
  split
  ·split
   ·exact ⟨⟨by show -_<=(0:Int);omega,by show (0:Int)<=_;omega⟩,⟨by show -_<=(0:Int);omega,by show (0:Int)<=_;omega⟩⟩
   ·exact Lg.inz (by omega)
  ·split
   ·exact ((hv _).thru (M:=64) (by omega) (by omega)).mono (by omega)
   ·refine (kidsG_in srcs names hK hv s op n hn kids 0 Lg.z (allEs kids).length (by have:kids.length<=2:=hb.kids;omega) (Nat.le_refl _) (fun x hx=>h x (by rw [allE];exact List.mem_cons_of_mem _ hx)) (Lg.inz (by omega))).mono (by omega)
theorem kidsG_in (srcs names:List Str) {v:Nat->Lg} {K:Int} (hK:0<=K) (hv:∀ d,(v d).In K) (s:Nat) (op n:Int) (hn : -50<=n/\n<=50):∀ (l:List Exp) (i:Nat) (out:Lg) (N:Nat),i+l.length<=2->(allEs l).length<=N->(∀ x∈allEs l,NodeB x)->out.In (K+64*((N:Int)+1))->(kidsG srcs names v s op n l i out).In (K+64*((N:Int)+1))
 |[],_,_,_,_,_,_,h=>h
 |x::r,i,out,N,hi,hN,hx,h=>by
  rw [kidsG]
  rw [allEs,List.length_append] at hN
  rw [List.length_cons] at hi
  have h1:=expG_in srcs names hK hv s x fun y hy=>hx y (by rw [allEs];exact List.mem_append_left _ hy)
  refine kidsG_in srcs names hK hv s op n hn r (i+1) _ N (by omega) (by omega) (fun y hy=>hx y (by rw [allEs];exact List.mem_append_right _ hy)) (h.both ?_)
  exact (h1.kid hn (by omega)).mono (by omega)
end
def InL (K:Int) (D:List (List Lg)):Prop:=∀ r∈D,∀ a∈r,a.In K
theorem InL.mono {K L:Int} {D:List (List Lg)} (h:InL K D) (hk:K<=L):InL L D:=fun r hr a ha=>(h r hr a ha).mono hk
theorem InL.col {K:Int} {D:List (List Lg)} (hK:0<=K) (h:InL K D) (s d:Nat):(colD D s d).In K:=by
 unfold colD
 rw [List.getD_eq_getElem?_getD,List.getD_eq_getElem?_getD]
 cases hd:D[d]? with
 |none=>exact Lg.inz hK
 |some r=>
  simp only [Option.getD_some]
  cases hs:r[s]? with
  |none=>exact Lg.inz hK
  |some a=>exact h r (List.mem_of_getElem? hd) a (List.mem_of_getElem? hs)
structure Small (p:Pgm):Prop where
 len:p.defs.length<=6
 srcs:p.srcs.length<=4
 cnt:∀ d,(allE (expAt p d)).length<=1000
 node:∀ d,d < p.defs.length->∀ x∈allE (expAt p d),NodeB x
theorem allL_in {p:Pgm} {K:Int} (hK:0<=K) {D:List (List Lg)} (h:InL K D) {e:Exp} (hn:∀ x∈allE e,NodeB x) (hc:(allE e).length<=1000):∀ a∈allL p D e,a.In (K+64000):=fun a ha=>by
 unfold allL at ha
 obtain ⟨s,_,rfl⟩:=List.mem_map.1 ha
 exact (expG_in _ _ hK (h.col hK s) s e hn).mono (by omega)
theorem rowL_in {p:Pgm} (hp:Small p) {K:Int} (hK:0<=K) {D:List (List Lg)} (h:InL K D) (ring:Bool) {d:Nat} (hd:d < p.defs.length):∀ a∈rowL p ring D d,a.In (K+64000):=fun a ha=>by
 unfold rowL at ha
 obtain ⟨b,hb,rfl⟩:=List.mem_map.1 ha
 have h1:=allL_in hK h (hp.node d hd) (hp.cnt d) b hb
 unfold ringL
 split
 ·exact (h1.thru (M:=0) (by omega) (by omega)).mono (by omega)
 ·exact h1
theorem InL.set {p:Pgm} (hp:Small p) {K:Int} (hK:0<=K) {D:List (List Lg)} (h:InL K D) (ring:Bool) {d:Nat} (hd:d < p.defs.length):InL (K+64000) (setL p ring D d):=fun r hr=>by
 rcases List.mem_or_eq_of_mem_set hr with hr|rfl
 ·exact fun a ha=>(h r hr a ha).mono (by omega)
 ·exact rowL_in hp hK h ring hd
theorem InL.rnd {p:Pgm} (hp:Small p) {ring:Bool}:∀ (g:List Nat) {K:Int},0<=K->∀ {D:List (List Lg)},InL K D->(∀ d∈g,d < p.defs.length)->InL (K+64000*g.length) (rndL p ring g D)
 |[],K,_,D,h,_=>h.mono (by simp only [List.length_nil];omega)
 |d::g,K,hK,D,h,hg=>by
  have:=InL.rnd hp (ring:=ring) g (by omega) (h.set hp hK ring (hg d (List.mem_cons_self ..))) fun x hx=>hg x (List.mem_cons_of_mem _ hx)
  exact this.mono (by rw [List.length_cons];omega)
theorem InL.rnds {p:Pgm} (hp:Small p) {ring:Bool} {g:List Nat} (hl:g.length<=6) {K:Int} (hK:0<=K) {D:List (List Lg)} (h:InL K D) (hg:∀ d∈g,d < p.defs.length):∀ n:Nat,InL (K+384000*n) (rndsL p ring g n D)
 |0=>h.mono (by omega)
 |n+1=>((h.rnds hp hl hK hg n).rnd hp g (by omega) hg).mono (by omega)
noncomputable def ringB (tos:List (List Nat)) (g:List Nat):Bool:=match g with
 |d::_=>reachB tos d d
 |[]=>false
def zeroL (p:Pgm):List (List Lg):=List.replicate p.defs.length (List.replicate p.srcs.length Lg.z)
noncomputable def lagsTo (p:Pgm) (gs:List (List Nat)):List (List Lg):=gs.foldl (fun D g=>rndsL p (ringB (tosR p) g) g (p.defs.length+1) D) (zeroL p)
noncomputable def lagsR (p:Pgm):List (List Lg):=lagsTo p (orderR (tosR p))
theorem Wide.zero (p:Pgm):Wide p (zeroL p) where
 len:=List.length_replicate ..
 row:=fun r hr=>by rw [List.eq_of_mem_replicate hr];exact List.length_replicate ..
 ok:=fun r hr a ha=>by rw [List.eq_of_mem_replicate hr] at ha;rw [List.eq_of_mem_replicate ha];exact Lg.okz
theorem colD_zero (p:Pgm) (s d:Nat):colD (zeroL p) s d=Lg.z:=by
 unfold colD zeroL
 rw [List.getD_eq_getElem?_getD,List.getD_eq_getElem?_getD,List.getElem?_replicate]
 split
 ·simp only [Option.getD_some,List.getElem?_replicate];split<;>rfl
 ·rfl
theorem colD_rnd {p:Pgm} {ring:Bool} {d:Nat}:∀ (g:List Nat) {D:List (List Lg)},d∉g->∀ s,colD (rndL p ring g D) s d=colD D s d
 |[],_,_,_=>rfl
 |x::g,D,h,s=>by
  rw [show rndL p ring (x::g) D=rndL p ring g (setL p ring D x) from rfl,colD_rnd g (fun hc=>h (List.mem_cons_of_mem _ hc))]
  unfold colD setL
  rw [List.getD_eq_getElem?_getD (l:=D.set x _),List.getElem?_set_ne (fun e=>by subst e;exact h (List.mem_cons_self ..)),<-List.getD_eq_getElem?_getD]
theorem colD_rnds {p:Pgm} {ring:Bool} {d:Nat} {g:List Nat} (h:d∉g) {D:List (List Lg)} (s:Nat):∀ n,colD (rndsL p ring g n D) s d=colD D s d
 |0=>rfl
 |n+1=>by rw [rndsL,colD_rnd g h,colD_rnds h s n]
structure SoFar (p:Pgm) (gs:List (List Nat)) (D:List (List Lg)):Prop where
 wide:Wide p D
 low:InL (2688000*gs.length) D
 rest:∀ d,d∉gs.flatten->∀ s,colD D s d=Lg.z
theorem SoFar.zero (p:Pgm):SoFar p [] (zeroL p) where
 wide:=Wide.zero p
 low:=fun r hr a ha=>by
  have hr:=List.eq_of_mem_replicate hr
  subst hr
  rw [List.eq_of_mem_replicate ha]
  exact Lg.inz (by simp)
 rest:=fun d _ s=>colD_zero p s d
theorem SoFar.step {p:Pgm} (hp:Small p) {gs:List (List Nat)} {D:List (List Lg)} (h:SoFar p gs D) {g:List Nat} (hl:g.length<=6) (hg:∀ d∈g,d < p.defs.length) {ring:Bool} {n:Nat} (hn:n<=7):SoFar p (gs++[g]) (rndsL p ring g n D) where
 wide:=h.wide.rnds ring g n
 low:=(h.low.rnds hp hl (by omega) hg n).mono (by simp only [List.length_append,List.length_cons,List.length_nil];omega)
 rest:=fun d hd s=>by
  rw [List.flatten_append,List.mem_append] at hd
  rw [colD_rnds (fun hc=>hd (.inr (by simpa using hc))) s n]
  exact h.rest d (fun hc=>hd (.inl hc)) s
theorem lagsTo_append (p:Pgm) (gs:List (List Nat)) (g:List Nat):lagsTo p (gs++[g])=rndsL p (ringB (tosR p) g) g (p.defs.length+1) (lagsTo p gs):=by
 unfold lagsTo
 rw [List.foldl_append];rfl
theorem lagsTo_far {p:Pgm} (hp:Small p):∀ (gs hs:List (List Nat)),(∀ g∈gs,g.length<=6/\∀ d∈g,d < p.defs.length)->∀ {D:List (List Lg)},SoFar p hs D->SoFar p (hs++gs) (gs.foldl (fun D g=>rndsL p (ringB (tosR p) g) g (p.defs.length+1) D) D)
 |[],hs,_,D,h=>by rw [List.append_nil];exact h
 |g::gs,hs,hg,D,h=>by
  have h1:=hg g (List.mem_cons_self ..)
  have:=lagsTo_far hp gs (hs++[g]) (fun x hx=>hg x (List.mem_cons_of_mem _ hx)) (h.step hp h1.1 h1.2 (ring:=ringB (tosR p) g) (n:=p.defs.length+1) (by have:=hp.len;omega))
  rw [List.append_assoc] at this
  exact this
end Go.Abs

/- The groups of definitions, in their order: how the reference finds them. -/
open Go Go.Abs
namespace Go.Abs
set_option maxRecDepth 100000
noncomputable def groupsR (tos:List (List Nat)):List (List Nat):=ringsR (reachR tos)++((List.range tos.length).filter fun d => !reachB tos d d).map fun d=>[d]
section
variable {tos:List (List Nat)}
theorem grp_alone {d:Nat} (hd:d < tos.length) (hn:¬ Reach tos d d):grpR tos d=[d]:=by
 have hm:∀ x,x∈grpR tos d↔x=d:=fun x=>by
  rw [mem_grp hd]
  refine ⟨fun h=>?_,fun h=>⟨h▸hd, .inl h⟩⟩
  rcases h.2 with h|⟨h1,h2⟩
  ·exact h
  ·exact absurd (h1.trans h2) hn
 have hnd:=grp_nodup (tos:=tos) d
 match hg:grpR tos d with
 |[]=>have:=(hm d).2 rfl;rw [hg] at this;exact absurd this List.not_mem_nil
 |[x]=>rw [(hm x).1 (by rw [hg];exact List.mem_singleton.2 rfl)]
 |x::y::r=>
  rw [hg] at hnd
  have h1:=(hm x).1 (by rw [hg];simp)
  have h2:=(hm y).1 (by rw [hg];simp)
  rw [h1,h2] at hnd
  simp at hnd
theorem groups_is {g:List Nat} (h:g∈groupsR tos):∃ f r,f < tos.length/\g=f::r/\g=grpR tos f:=by
 rcases List.mem_append.1 h with h|h
 ·unfold ringsR ringsTo at h
  obtain ⟨i,hi,rfl⟩:=List.mem_map.1 h
  rw [List.mem_filter,List.mem_range,reachR_len] at hi
  obtain ⟨h1,h2⟩:=hi
  unfold ringIs at h2
  rw [Bool.and_eq_true,beq_iff_eq] at h2
  have h3:=h2.2
  rw [reachR_len] at h3 ⊢
  cases hr:ringTo (reachR tos) i tos.length with
  |nil=>rw [hr] at h3;cases h3
  |cons f r=>
   rw [hr] at h3
   simp only [List.head?_cons,Option.some.injEq] at h3
   subst h3
   exact ⟨f,r,h1,rfl,hr.symm⟩
 ·obtain ⟨d,hd,rfl⟩:=List.mem_map.1 h
  rw [List.mem_filter,List.mem_range,Bool.not_eq_true'] at hd
  refine ⟨d,[],hd.1,rfl,(grp_alone hd.1 fun hr=>?_).symm⟩
  rw [reachB_iff.2 hr] at hd
  cases hd.2
end
end Go.Abs

/- Whether a list of numbers holds one of a kind, asked by reference. -/
open Go Go.Abs
namespace Go.Abs
set_option maxRecDepth 100000
set_option maxHeartbeats 4000000
instance fnis484:FnIs CC 184:=⟨rfl,fun _=>rfl⟩
instance fnis438:FnIs CC 138:=⟨rfl,fun _=>rfl⟩
theorem ret484 {l:List Nat} (hl:l.length<=1000) (k:Nat):∃ z:Int,Ret CC 184 [natsIV l,natIV k] (.int .i64 z)/\decide (z>=0)=l.contains k:=by
 have hlm:(l.map natIV).length=l.length:=List.length_map ..
 refine ⟨match l.findIdx? (fun x=>x==k) with|some i=>(i:Int)|none => -1,?_,?_⟩
 ·refine Ret.of (fn:=Go.Proofs.Tryz.f184) (by kernel_rfl) rfl rfl ?_
  refine BB ?_
  refine W.loop (X:=Nat) (fun i=>[(0, .imm (natsIV l)),(1, .imm (natIV k)),(6, .imm (natsIV l)),(7, .imm (.int .i64 (l.map natIV).length)),(8, .imm (.int .i64 i))])
   (fun i nx1 G1=>i<=l.length/\∀ j,j < i->∀ x,l[j]? = some x->(x==k)=false) (fun i=>l.length-i) 0 .auto ⟨Nat.zero_le _,fun j h=>absurd h (Nat.not_lt_zero j)⟩ ?_
  rintro i nx1 G1 ⟨hi,hno⟩
  refine BB ?_
  refine W.cond rfl (fun h1=>?_) (fun h1=>?_)
  ·have hlt:i < l.length:=by have:=of_decide_eq_true h1;rw [hlm] at this;omega
   obtain ⟨x,hx⟩:=at_lt hlt
   have hxi:=at_map natIV hx
   have hmu:l.length-(i+1) < l.length-i:=by omega
   cases hp:((k:Int)==(x:Int)) with
   |false=>
    refine BB ?_
    refine W.skipLop (i+1) hmu .auto ⟨hlt,fun j hj y hy=>?_⟩
    rcases Nat.lt_or_eq_of_le (Nat.le_of_lt_succ hj) with hj|rfl
    ·exact hno j hj y hy
    ·rw [hx] at hy;cases hy
     simp only [beq_eq_false_iff_ne,ne_eq] at hp ⊢;omega
   |true=>
    have:l.findIdx? (fun x=>x==k)=some i:=by
     rw [List.findIdx?_eq_some_iff_getElem]
     refine ⟨hlt,?_,fun j hj=>?_⟩
     ·have h2:=(List.getElem?_eq_some_iff.1 hx).2
      simp only [beq_iff_eq] at hp ⊢
      rw [h2];omega
     ·have:=hno j hj l[j] (List.getElem?_eq_getElem _)
      simpa using this
    rw [this]
    refine BB ?_
    exact W.retFin1 rfl ⟨[],rfl⟩
  ·have hge:l.length<=i:=by have:=of_decide_eq_false h1;rw [hlm] at this;omega
   have:l.findIdx? (fun x=>x==k)=none:=by
    rw [List.findIdx?_eq_none_iff]
    intro x hx
    obtain ⟨j,hj⟩:=List.mem_iff_getElem?.1 hx
    exact hno j (by have:=(List.getElem?_eq_some_iff.1 hj).1;omega) x hj
   rw [this]
   refine BB ?_
   exact W.retFin1 rfl ⟨[],rfl⟩
 ·cases h:l.findIdx? (fun x=>x==k) with
  |none=>
   rw [List.findIdx?_eq_none_iff] at h
   have:l.contains k=false:=by
    rw [List.contains_eq_mem,decide_eq_false_iff_not]
    intro hc
    have:=h k hc
    simp at this
   rw [this];rfl
  |some i=>
   obtain ⟨h1,h2,_⟩:=List.findIdx?_eq_some_iff_getElem.1 h
   have:l.contains k=true:=by
    rw [List.contains_iff_mem]
    simp only [beq_iff_eq] at h2
    exact h2▸List.getElem_mem h1
   rw [this]
   exact decide_eq_true (by show (0:Int)<=(i:Int);omega)
theorem ret438 {l:List Nat} (hl:l.length<=1000) (k:Nat):Ret CC 138 [natsIV l,natIV k] (.bool (l.contains k)):=by
 obtain ⟨z,h1,h2⟩:=ret484 hl k
 refine Ret.of (fn:=Go.Proofs.Tryz.f138) (by kernel_rfl) rfl rfl ?_
 refine BB ?_
 refine W.retFin1 rfl ⟨[],?_⟩
 rw [<-h2];rfl
section
variable {f:FuncId} {cap:List AV} {P:Nat->Bool} {K:(Nat->Obj)->Nat->Prop}
theorem cal457 (hb:CC.byref f=true) (hK:∀ G nx nx',K G nx->nx<=nx'->K G nx') {l:List Nat} (hl:l.length<=1000) (hf:∀ x∈l,∀ G nx,K G nx->Cal CC f ([.imm (natIV x)]++cap) G nx fun v G' nx'=>v = .imm (.bool (P x))/\K G' nx') {G:Nat->Obj} {nx:Nat} (h0:K G nx) :
  Cal CC 157 [.imm (natsIV l), .fn (.func f) cap] G nx fun v G' nx'=>∃ z:Int,v = .imm (.int .i64 z)/\decide (z>=0)=l.any P/\K G' nx':=by
 have hlm:(l.map natIV).length=l.length:=List.length_map ..
 refine Cal.of (fn:=Go.Proofs.Tryz.f157) (by kernel_rfl) rfl rfl ?_
 refine BN ?_
 refine W.loop (X:=Nat) (fun i=>[(0, .imm (natsIV l)),(1, .fn (.func f) cap),(6, .imm (natsIV l)),(7, .imm (.int .i64 (l.map natIV).length)),(8, .imm (.int .i64 i))])
  (fun i nx1 G1=>i<=l.length/\K G1 nx1/\(l.take i).any P=false) (fun i=>l.length-i) 0 .auto ⟨Nat.zero_le _,hK _ _ _ h0 (by omega),rfl⟩ ?_
 clear h0
 rintro i nx1 G1 ⟨hi,hI,hno⟩
 refine BN ?_
 refine W.cond rfl (fun h1=>?_) (fun h1=>?_)
 ·have hlt:i < l.length:=by have:=of_decide_eq_true h1;rw [hlm] at this;omega
  obtain ⟨x,hx⟩:=at_lt hlt
  have hxi:=at_map natIV hx
  have hcal:=fun nx2 (h:nx1<=nx2)=>hf x (List.mem_of_getElem? hx) G1 nx2 (hK _ _ _ hI h)
  have hmu:l.length-(i+1) < l.length-i:=by omega
  have htk:(l.take (i+1)).any P=P x:=by rw [List.take_add_one,hx,List.any_append,hno];simp
  refine BN ?_
  refine R.callB rfl rfl hb rfl rfl ((hcal _ (by omega)).mono fun v G' nx' hv=>?_)
  obtain ⟨rfl,h2⟩:=hv
  cases hp:P x with
  |false=>
   refine BN ?_
   exact W.skipLop (i+1) hmu .auto ⟨hlt,hK _ _ _ h2 (by omega),by rw [htk,hp]⟩
  |true=>
   refine BN ?_
   refine W.retFin1 rfl ⟨_,rfl,?_,hK _ _ _ h2 (by omega)⟩
   rw [decide_eq_true (by omega)]
   exact (List.any_eq_true.2 ⟨x,List.mem_of_getElem? hx,hp⟩).symm
 ·have hge:l.length<=i:=by have:=of_decide_eq_false h1;rw [hlm] at this;omega
  rw [List.take_of_length_le hge] at hno
  refine BN ?_
  exact W.retFin1 rfl ⟨-1,rfl,by rw [hno];rfl,hK _ _ _ hI (by omega)⟩
theorem cal386 (hb:CC.byref f=true) (hK:∀ G nx nx',K G nx->nx<=nx'->K G nx') {l:List Nat} (hl:l.length<=1000) (hf:∀ x∈l,∀ G nx,K G nx->Cal CC f ([.imm (natIV x)]++cap) G nx fun v G' nx'=>v = .imm (.bool (P x))/\K G' nx') {G:Nat->Obj} {nx:Nat} (h0:K G nx) :
  Cal CC 86 [.imm (natsIV l), .fn (.func f) cap] G nx fun v G' nx'=>v = .imm (.bool (l.any P))/\K G' nx':=by
 have hc:=fun nx1 (h:nx<=nx1)=>cal457 hb hK hl hf (hK _ _ nx1 h0 h)
 refine Cal.of (fn:=Go.Proofs.Tryz.f86) (by kernel_rfl) rfl rfl ?_
 refine BN ?_
 refine R.callB rfl rfl rfl rfl rfl ((hc _ (by omega)).mono fun v G' nx' hv=>?_)
 obtain ⟨z,rfl,h1,h2⟩:=hv
 refine BN ?_
 refine W.retFin1 rfl ⟨?_,hK _ _ _ h2 (by omega)⟩
 rw [<-h1]
end
end Go.Abs

/- Sorted numbers of a set. (No program in sight.) -/
open Go Go.Abs
namespace Go.Abs
theorem slt_ext:∀ {a b:List Int},a.Pairwise (· < ·)->b.Pairwise (· < ·)->(∀ x,x∈a↔x∈b)->a=b
 |[],[],_,_,_=>rfl
 |[],y::s,_,_,h=>absurd ((h y).2 (by simp)) (by simp)
 |x::r,[],_,_,h=>absurd ((h x).1 (by simp)) (by simp)
 |x::r,y::s,ha,hb,h=>by
  rw [List.pairwise_cons] at ha hb
  have hxy:x=y:=by
   have h1:=(h x).1 (by simp)
   have h2:=(h y).2 (by simp)
   rcases List.mem_cons.1 h1 with h1|h1
   ·exact h1
   ·rcases List.mem_cons.1 h2 with h2|h2
    ·exact h2.symm
    ·have:=ha.1 y h2
     have:=hb.1 x h1
     omega
  subst hxy
  rw [slt_ext ha.2 hb.2 fun z=>?_]
  constructor
  ·intro hz
   have:=ha.1 z hz
   rcases List.mem_cons.1 ((h z).1 (by simp [hz])) with h1|h1
   ·omega
   ·exact h1
  ·intro hz
   have:=hb.1 z hz
   rcases List.mem_cons.1 ((h z).2 (by simp [hz])) with h1|h1
   ·omega
   ·exact h1
theorem ins_mem {x z:Int}:∀ {l:List Int},z∈ins x l↔z=x\/z∈l
 |[]=>by simp [ins]
 |y::r=>by
  unfold ins
  split
  ·simp
  ·simp only [List.mem_cons,ins_mem (l:=r)]
   constructor
   ·rintro (h|h|h)<;>simp [h]
   ·rintro (h|h|h)<;>simp [h]
theorem isort_mem {z:Int}:∀ {l:List Int},z∈isort l↔z∈l
 |[]=>by simp [isort]
 |x::r=>by rw [isort,ins_mem,isort_mem,List.mem_cons]
theorem ins_slt {x:Int}:∀ {l:List Int},l.Pairwise (· < ·)->x∉l->(ins x l).Pairwise (· < ·)
 |[],_,_=>by simp [ins]
 |y::r,h,hx=>by
  have hne:x≠y:=fun e=>hx (by simp [e])
  have hr:x∉r:=fun e=>hx (by simp [e])
  unfold ins
  rw [List.pairwise_cons] at h
  split
  ·rename_i hle
   rw [List.pairwise_cons,List.pairwise_cons]
   refine ⟨fun z hz=>?_,h⟩
   rcases List.mem_cons.1 hz with rfl|hz
   ·omega
   ·have:=h.1 z hz;omega
  ·rename_i hle
   rw [List.pairwise_cons]
   refine ⟨fun z hz=>?_,ins_slt h.2 hr⟩
   rcases ins_mem.1 hz with rfl|hz
   ·omega
   ·exact h.1 z hz
theorem isort_slt:∀ {l:List Int},l.Nodup->(isort l).Pairwise (· < ·)
 |[],_=>by simp [isort]
 |x::r,h=>by
  rw [List.nodup_cons] at h
  exact ins_slt (isort_slt h.2) fun e=>h.1 (isort_mem.1 e)
theorem ints_nats (l:List Nat):ints (l.map natIV)=l.map Int.ofNat:=by
 induction l with
 |nil=>rfl
 |cons x r ih=>
  rw [List.map_cons,List.map_cons,<-ih];rfl
theorem sorted_eq {out:List Nat} {n:Nat} {P:Nat->Bool} (hn:out.Nodup) (hb:∀ x∈out,x < n) (hP:∀ x,x < n->(P x=true↔x∈out)):(isort (ints (out.map natIV))).map (IV.int .i64)=((List.range n).filter P).map natIV:=by
 have key:isort (ints (out.map natIV))=((List.range n).filter P).map Int.ofNat:=by
  rw [ints_nats]
  refine slt_ext (isort_slt ?_) ?_ fun z=>?_
  ·rw [List.Nodup,List.pairwise_map]
   exact hn.imp fun h e=>h (Int.ofNat.inj e)
  ·rw [List.pairwise_map]
   refine (List.Pairwise.filter _ List.pairwise_lt_range).imp fun h=>?_
   exact Int.ofNat_lt.2 h
  ·rw [isort_mem,List.mem_map,List.mem_map]
   constructor
   ·rintro ⟨x,hx,rfl⟩
    exact ⟨x,List.mem_filter.2 ⟨List.mem_range.2 (hb x hx),(hP x (hb x hx)).2 hx⟩,rfl⟩
   ·rintro ⟨x,hx,rfl⟩
    rw [List.mem_filter,List.mem_range] at hx
    exact ⟨x,(hP x hx.1).1 hx.2,rfl⟩
 rw [key,List.map_map]
 rfl
theorem natKeys_int (l:List Nat):(l.map natIV).all isIntIV=true:=by
 induction l with
 |nil=>rfl
 |cons x r ih=>rw [List.map_cons,List.all_cons,ih];rfl
end Go.Abs

/- Lists of numbers: comparing what is the same; the numbers of what is true. -/
open Go Go.Abs
namespace Go.Abs
set_option maxRecDepth 100000
set_option maxHeartbeats 4000000
instance fnis19:FnIs CC 38:=⟨rfl,fun _=>rfl⟩
end Go.Abs

/- The reference: on which sources a definition depends. -/
open Go Go.Abs
namespace Go.Abs
set_option maxRecDepth 100000
set_option maxHeartbeats 4000000
mutual
theorem expR_src (srcs defs:List Str) (ahead:Nat):∀ (e:Exp) (depth left:Int),0<=expR srcs defs ahead e depth left->∀ x∈allE e,x.op=1->x.name∈srcs
 | .mk op name n fold calcs kids,depth,left,h,x,hx,ho=>by
  rw [expR] at h
  rw [allE] at hx
  cases hs:shapeR op with
  |none=>rw [hs] at h;simp at h
  |some s=>
   rw [hs] at h
   dsimp only at h
   split at h
   ·omega
   ·split at h
    ·rename_i hh
     split at h
     ·omega
     ·rcases List.mem_cons.1 hx with he|hx
      ·rw [he] at ho ⊢
       have ho:op=1:=ho
       unfold headIs at hh
       simp only [Bool.and_eq_true] at hh
       have hni:=hh.2
       rw [ho] at hni
       have:srcs.contains name=true:=hni
       show name∈srcs
       simpa using this
      ·exact expRs_src srcs defs ahead kids depth left _ h x hx ho
    ·omega
theorem expRs_src (srcs defs:List Str) (ahead:Nat):∀ (l:List Exp) (depth left n:Int),0<=expRs srcs defs ahead l depth left n->∀ x∈allEs l,x.op=1->x.name∈srcs
 |[],_,_,_,_,x,hx,_=>by cases hx
 |k::r,depth,left,n,h,x,hx,ho=>by
  rw [expRs] at h
  rw [allEs] at hx
  split at h
  ·omega
  ·rcases List.mem_append.1 hx with hx|hx
   ·exact expR_src srcs defs ahead k (depth+1) (left-n) (by omega) x hx ho
   ·exact expRs_src srcs defs ahead r depth left _ h x hx ho
end
theorem countL_src (srcs names:List Str):∀ (ds:List Dfn) (i:Nat) (n:Int),0<=countL srcs names ds i n->∀ d∈ds,∀ x∈allE d.exp,x.op=1->x.name∈srcs
 |[],_,_,_,d,hd=>by cases hd
 |k::r,i,n,h,d,hd=>by
  rw [countL] at h
  split at h
  ·omega
  ·rcases List.mem_cons.1 hd with hk|hd
   ·rw [hk];exact expR_src srcs names i k.exp 1 (60-n) (by omega)
   ·exact countL_src srcs names r (i+1) _ h d hd
theorem countR_src {p:Pgm} (h:0<=countR p):∀ d∈p.defs,∀ x∈allE d.exp,x.op=1->x.name∈p.srcs:=by
 unfold countR at h
 split at h
 ·omega
 ·split at h
  ·exact countL_src _ _ _ _ _ h
  ·omega
def srcIs (srcs:List Str) (x:Exp) (s:Nat):Prop:=x.op=1/\idxN srcs x.name=s
def SrcTo (srcs:List Str) (defs:List Dfn) (tos:List (List Nat)) (d i s:Nat):Prop:=∃ i' y,i' < i/\defs[i']? = some y/\(i'=d\/Reach tos d i')/\∃ x∈allE y.exp,srcIs srcs x s
open Classical in
noncomputable def SrcB (srcs:List Str) (defs:List Dfn) (tos:List (List Nat)) (d i s:Nat):Bool:=decide (SrcTo srcs defs tos d i s)
theorem SrcB_iff {srcs:List Str} {defs:List Dfn} {tos:List (List Nat)} {d i s:Nat}:SrcB srcs defs tos d i s=true↔SrcTo srcs defs tos d i s:=by unfold SrcB;simp
noncomputable def srcsR (p:Pgm) (d:Nat):List Nat:=(List.range p.srcs.length).filter (SrcB p.srcs p.defs (tosR p) d p.defs.length)
end Go.Abs

/- TermParts: depths. -/
open Go Go.Abs
namespace Go.Abs
set_option maxRecDepth 100000
set_option maxHeartbeats 4000000
theorem allE_kid {kids:List Exp} {k:Exp} (h:k∈kids):(allE k).length<=(allEs kids).length:=by
 obtain ⟨i,hi⟩:=List.mem_iff_getElem?.1 h
 rw [allEs_split hi];simp;omega
noncomputable def errR (p:Pgm) (d:Int):Int:=if hasR p d then 0 else 2
end Go.Abs

/- What definitions depend on. -/
open Go Go.Abs
namespace Go.Abs
set_option maxRecDepth 100000
set_option maxHeartbeats 4000000
instance fnis15:FnIs CC 64:=⟨rfl,fun _=>rfl⟩
instance fnis17:FnIs CC 21:=⟨rfl,fun _=>rfl⟩
noncomputable def reachN (p:Pgm) (d:Nat):List Nat:=(List.range p.defs.length).filter (reachB (tosR p) d)
noncomputable def srcsA (p:Pgm) (d:Int):List Nat:=if hasR p d then srcsR p d.toNat else []
noncomputable def reachA (p:Pgm) (d:Int):List Nat:=if hasR p d then reachN p d.toNat else []
noncomputable def ringsA (p:Pgm):List (List Nat):=if progR p then ringsOf p else []
/-! ### sets -/
def addN (l:List Nat) (k:Nat):List Nat:=if l.contains k then l else l++[k]
theorem addN_mem {l:List Nat} {k x:Nat}:x∈addN l k↔x∈l\/x=k:=by
 unfold addN
 split
 ·rename_i h
  constructor
  ·exact .inl
  ·rintro (h'|rfl)
   ·exact h'
   ·simpa using h
 ·simp
theorem addN_nodup {l:List Nat} {k:Nat} (h:l.Nodup):(addN l k).Nodup:=by
 unfold addN
 split
 ·exact h
 ·rename_i h'
  rw [List.nodup_append]
  exact ⟨h,by simp,fun a ha b hb=>by rw [List.mem_singleton.1 hb];exact fun e=>h' (by simpa [e] using ha)⟩
theorem O.setPut {id:Nat} {l:Env} {G:Nat->Obj} {nx:Nat} {df:List (AV×List AV)} {pk:Pk} {m x y:Operand} {q k:Nat} {s:List Nat} (hm:lookO l m=some (.map q)) (hx:lookO l x=some (.imm (natIV k))) (hy:lookO l y=some (.imm (.bool true))) (hG:G q=setObj s) :
  OpV CC id l G nx df pk (.mapUpdate 116 m x y) .undef [(q, .set (setObj (addN s k)))]:=by
 unfold addN
 cases hc:s.contains k with
 |false=>
  rw [if_neg (by decide),setObj_add]
  exact O.mapNew (k:=ty74) (kk:=ty3) rfl inferInstance hm hx hy hG rfl (setNew hc)
 |true=>
  rw [if_pos rfl]
  have hsome:=findIdx_contains' k s
  rw [hc] at hsome
  obtain ⟨j,hj⟩:=Option.isSome_iff_exists.1 hsome
  have hlt:=findIdx_lt' hj
  have hkj:s[j]? = some k:=by
   rw [List.findIdx?_eq_some_iff_getElem] at hj
   obtain ⟨h1,h2,_⟩:=hj
   rw [List.getElem?_eq_getElem h1]
   have:k=s[j]:=by simpa using h2
   rw [<-this]
  have h1:(s.map natIV).set j (natIV k)=s.map natIV:=by
   rw [<-List.map_set]
   congr 1
   apply List.ext_getElem?
   intro i
   rw [List.getElem?_set]
   split
   ·rename_i he;subst he;rw [hkj];try simp [hlt]
   ·rfl
  have h2:((s.map fun _=>IV.bool true).map AV.imm).set j (.imm (.bool true))=(s.map fun _=>IV.bool true).map AV.imm:=by
   apply List.ext_getElem?
   intro i
   rw [List.getElem?_set]
   split
   ·rename_i he;subst he;simp [hlt]
   ·rfl
  refine O.of fun t' L hA=>?_
  have hkt:=(inferInstance:TyIs CC 116 ty74).is
  have hkt3:=(inferInstance:TyIs CC 3 ty3).is
  simp only [opA,hA.ev hm,hA.ev hx,hA.ev hy,aMapUpdate,hkt,hG,setObj,show ty74.d = .mp 3 4 from rfl,hkt3]
  rw [if_pos (show keyOk ty3.d (natIV k)=true from rfl),natKey,hj]
  simp only [h1,h2]
theorem orcSet {l:List Nat} {n:Nat} {P:Nat->Bool} (hn:l.Nodup) (hb:∀ x∈l,x < n) (hP:∀ x,x < n->(P x=true↔x∈l)) (hs:l.length<=4294967296):CC.orc 69 [setIV l]=some (.own 3 1 (((List.range n).filter P).map natIV)):=by
 show (if (l.map natIV).all isIntIV=true/\(l.map natIV).length<=4294967296 then some (OrcR.own 3 1 ((isort (ints (l.map natIV))).map (.int .i64))) else none)=_
 rw [if_pos ⟨natKeys_int l,by simpa using hs⟩,sorted_eq hn hb hP]
def SrcIn (srcs:List Str) (defs:List Dfn) (L:List Nat) (s:Nat):Prop:=∃ i∈L,∃ y,defs[i]? = some y/\∃ x∈allE y.exp,srcIs srcs x s
theorem ret15 (p:Pgm) (hp:p.Fits) (d:Int):Ret CC 64 [p.iv, .int .i64 d] (.tup [natsIV (srcsA p d),natsIV (reachA p d), .int .i64 (errR p d)]):=by
 have hr:=ret46 p hp d
 unfold srcsA reachA errR
 have hat:=hasR_at (p:=p) (d:=d)
 cases hb:hasR p d with
 |true=>
  rw [hb] at hr hat
  obtain ⟨hpr,d,y,rfl,hy⟩:=hat rfl
  have hc:=progR_count hpr
  have hg:=countR_good hc
  have htl:(tosR p).length=p.defs.length:=hg.steps.2.1
  have hi:d < p.defs.length:=(List.getElem?_eq_some_iff.1 hy).1
  have hlk:lookedIV p=scopeIV p ((p.defs.length-1:Nat):Int) (countR p):=by unfold lookedIV;rw [hpr];rfl
  rw [hlk] at hr
  obtain ⟨out,ho1,ho2,ho3,hr47⟩:=ret47 hp hg.tos ((p.defs.length-1:Nat):Int) (countR p) (d:=d) (by rw [htl];exact hi)
  have hsrc:=countR_src hc
  have hd6:=hg.defs
  have hs4:=hg.srcs
  have hfit:=hp.exp
  have holen:=nodup_lt ho1 ho2
  have horc:CC.orc 69 [setIV out]=some (.own 3 1 ((reachN p d).map natIV)):=orcSet (n:=p.defs.length) ho1 (fun x hx=>by rw [<-htl];exact ho2 x hx) (fun x hx=>by rw [ho3 x,reachB_iff]) (by omega)
  have hrm:∀ i,i∈reachN p d↔Reach (tosR p) d i:=fun i=>by
   unfold reachN
   rw [List.mem_filter,List.mem_range,reachB_iff]
   exact ⟨fun h=>h.2,fun h=>⟨by rw [<-htl];exact ho2 i ((ho3 i).2 h),h⟩⟩
  have hrl:(reachN p d).length<=6:=by
   have:=List.length_filter_le (reachB (tosR p) d) (List.range p.defs.length)
   rw [List.length_range] at this
   unfold reachN;omega
  have hrlt:∀ i∈reachN p d,i < p.defs.length:=fun i h=>by
   unfold reachN at h
   rw [List.mem_filter,List.mem_range] at h
   exact h.1
  simp only [if_true,Int.toNat_natCast]
  have hsrcs:∀ s,SrcB p.srcs p.defs (tosR p) d p.defs.length s=true↔SrcIn p.srcs p.defs (reachN p d++[d]) s:=fun s=>by
   rw [SrcB_iff]
   constructor
   ·rintro ⟨i,z,h1,h2,h3,h4⟩
    refine ⟨i,?_,z,h2,h4⟩
    rw [List.mem_append,hrm]
    rcases h3 with rfl|h3
    ·exact .inr (by simp)
    ·exact .inl h3
   ·rintro ⟨i,h1,z,h2,h4⟩
    refine ⟨i,z,(List.getElem?_eq_some_iff.1 h2).1,h2,?_,h4⟩
    rw [List.mem_append,hrm] at h1
    rcases h1 with h1|h1
    ·exact .inr h1
    ·exact .inl (by simpa using h1)
  unfold srcsR
  generalize reachN p d=rn at *
  generalize hSB:SrcB p.srcs p.defs (tosR p) d p.defs.length=SB at *
  clear hSB
  generalize ((p.defs.length-1:Nat):Int)=m1 at *
  generalize countR p=m2 at *
  have bf:(!true)=false:=rfl
  obtain ⟨srcs,defs⟩:=p
  simp only at *
  have hdm:(defs.map Dfn.iv).length=defs.length:=List.length_map ..
  refine Ret.of (fn:=Go.Proofs.Tryz.f64) (by kernel_rfl) rfl rfl ?_
  refine AA ?_
  refine R.op1 (O.callOwnI rfl horc rfl rfl) rfl ?_
  refine AA ?_
  refine R.op1 (O.appRow rfl rfl rfl at_upd (List.length_map ..) rfl (elems_row at_upd rfl) (by decide) (by decide) rfl rfl (by simp only [List.length_map,List.length_cons,List.length_nil,most];omega)) rfl ?_
  refine R.op0 (O.lenR rfl rfl at_upd rfl) rfl ?_
  refine AA ?_
  have hLl:(((rn.map natIV).map AV.imm)++[AV.imm (.int .i64 ((d:Nat):Int))]).length=(rn++[d]).length:=by simp
  rw [hLl]
  have hLm:(((rn++[d]).map natIV).map AV.imm).length=(rn++[d]).length:=by simp
  have hLlt:∀ i∈rn++[d],i < defs.length:=fun i h=>by
   rcases List.mem_append.1 h with h|h
   ·exact hrlt i h
   ·rw [List.mem_singleton.1 h];exact hi
  have hLn:(rn++[d]).length<=7:=by rw [List.length_append];simp;omega
  have hrow:((rn.map natIV).map AV.imm)++[AV.imm (.int .i64 ((d:Nat):Int))]=((rn++[d]).map natIV).map AV.imm:=by simp;rfl
  rw [hrow]
  generalize rn++[d]=L at *
  refine W.loop (X:=Nat) (fun j=>[(1, .imm (natIV d)),(2, .ptr 0 0),(7, .ptr 10 0),(9, .imm (setIV out)),(10, .ptr 21 0),(31, .row 24 L.length),(32, .imm (.int .i64 L.length)),(33, .imm (.int .i64 j))])
   (fun j nx G=>27<=nx/\G 0 = .box [.imm (.lst (srcs.map sv)), .imm (.lst (defs.map Dfn.iv))] false/\G 10 = .box [.imm (scopeIV ⟨srcs,defs⟩ m1 m2)] false/\G 21 = .box [.map 20] false/\G 24 = .row 3 1 ((L.map natIV).map AV.imm) false/\j<=L.length /\
    ∃ fm,G 20=setObj fm/\fm.Nodup/\(∀ s∈fm,s < srcs.length)/\∀ s,s∈fm↔SrcIn srcs defs (L.take j) s)
   (fun j=>L.length-j) 0 .auto ⟨by omega,rfl,rfl,rfl,rfl,Nat.zero_le _,[],rfl,by simp,by simp,fun s=>⟨(fun h=>by cases h),(fun ⟨_,h,_⟩=>by cases h)⟩⟩ ?_
  rintro j nx G ⟨hnx,hG0,hG10,hG21,hG24,hj,fm,hG20,hfn,hfb,hfm⟩
  rcases Bool.eq_false_or_eq_true (decide ((j:Int) < (L.length:Int))) with hcc|hcc
  ·have hlt:j < L.length:=by have:=of_decide_eq_true hcc;omega
   obtain ⟨i,hji⟩:=at_lt hlt
   have hjx:((L.map natIV).map AV.imm)[((j:Nat):Int).toNat]? = some (.imm (natIV i)):=by rw [Int.toNat_natCast];simp [hji]
   have hid:=hLlt i (List.mem_of_getElem? hji)
   obtain ⟨z,hx⟩:=at_lt hid
   have hxi:=at_map Dfn.iv hx
   have hdc:=z.cells_len
   have hm:=List.mem_of_getElem? hx
   have hf:=hfit z hm
   have hsz:=hsrc z hm
   have hr49:=ret49 z.exp
   have hmu:L.length-(j+1) < L.length-j:=by omega
   have hstep:∀ s,SrcIn srcs defs (L.take (j+1)) s↔SrcIn srcs defs (L.take j) s\/∃ x∈allE z.exp,srcIs srcs x s:=by
    intro s
    rw [List.take_add_one,hji]
    constructor
    ·rintro ⟨i',h1,y',h2,h3⟩
     rcases List.mem_append.1 h1 with h1|h1
     ·exact .inl ⟨i',h1,y',h2,h3⟩
     ·simp at h1;subst h1
      rw [hx] at h2;cases h2
      exact .inr h3
    ·rintro (⟨i',h1,y',h2,h3⟩|h3)
     ·exact ⟨i',by simp [h1],y',h2,h3⟩
     ·exact ⟨i,by simp,z,hx,h3⟩
   obtain ⟨nm,⟨o',s',n',f',c',k'⟩⟩:=z
   simp only at hf hsz hstep
   refine AA ?_
   refine W.nodes _ hf (fun k G1=>(∀ o,o < nx->o≠20->G1 o=G o)/\∃ fm1,G1 20=setObj fm1/\fm1.Nodup/\(∀ s∈fm1,s < srcs.length)/\∀ s,s∈fm1↔SrcIn srcs defs (L.take j) s\/∃ x∈(allE (.mk o' s' n' f' c' k')).take k,srcIs srcs x s) (fun _=>False) (fun _ _ _=>False)
    rfl rfl rfl rfl rfl ?_ ?_ ?_ ?_ ?_ ?_ ?_
   ·rintro k G1 G2 ⟨h1,fm1,h2,h3⟩ hG
    exact ⟨fun o h4 h5=>(hG o (by omega)).trans (h1 o h4 h5),fm1,(hG 20 (by omega)).trans h2,h3⟩
   ·intro _ _ h;exact h.elim
   ·exact ⟨fun o _ _=>rfl,fm,hG20,hfn,hfb,fun s=>by rw [hfm s];simp⟩
   ·rintro q k x G1 nx1 lp0 lp1 Φr hq hxa hn ⟨h1,fm1,h2,h3,h4,h5⟩ hlp next _ _
    have htake:∀ s,(∃ z∈(allE (.mk o' s' n' f' c' k')).take (k+1),srcIs srcs z s)↔(∃ z∈(allE (.mk o' s' n' f' c' k')).take k,srcIs srcs z s)\/srcIs srcs x s:=by
     intro s
     rw [List.take_add_one,hxa]
     simp only [List.mem_append,Option.mem_toList]
     constructor
     ·rintro ⟨z,h|h,h2⟩
      ·exact .inl ⟨z,h,h2⟩
      ·cases h;exact .inr h2
     ·rintro (⟨z,h,h2⟩|h)
      ·exact ⟨z, .inl h,h2⟩
      ·exact ⟨x, .inr rfl,h⟩
    have hxs:=hsz x (List.mem_of_getElem? hxa)
    obtain ⟨op',name',m',fold',calcs',kids'⟩:=x
    have hL1:=numLook0 srcs name'
    refine W.regionN ?_
    refine AQ ?_
    refine R.doneAstQ at_upd ?_
    refine W.gen' (fun G2=>G2 (nx1+0) = .box [.imm (.int .i64 op'), .imm (sv name'), .imm (.int .i64 m'), .imm (.int .i64 fold'), .imm (.lst (Trm.ivs calcs')), .imm (.lst (Exp.ivs kids'))] false/\G2 q=lp1/\∀ o,o < nx1->o≠q->G2 o=G1 o) ⟨at_upd,at_upd,fun o _ _=>at_upd⟩ ?_
    rintro G2 ⟨hbx,hlp2,hfr2⟩
    have h20:=(hfr2 20 (by omega) (by omega)).trans h2
    have h10:=(hfr2 10 (by omega) (by omega)).trans ((h1 10 (by omega) (by decide)).trans hG10)
    have h21:=(hfr2 21 (by omega) (by omega)).trans ((h1 21 (by omega) (by decide)).trans hG21)
    rcases Bool.eq_false_or_eq_true (op'==1) with hop|hop
    ·have hop1:op'=1:=by simpa using hop
     have hin:=hxs hop1
     refine AN ?_
     refine D.opN1 (O.setPut rfl rfl rfl h20) rfl ?_
     refine D.skip (by kernel_rfl) ?_
     refine AN ?_
     refine next (by omega) (fun o g5 g6=>?_) ⟨fun o g5 g6=>?_,addN fm1 (idxN srcs name'),upd_same _ _ _,addN_nodup h3,fun s hs=>?_,fun s=>?_⟩ at_upd
     ·rw [upd_ne _ _ _ _ (by omega)];exact hfr2 o g6 (by omega)
     ·rw [upd_ne _ _ _ _ g6,hfr2 o (by omega) (by omega),h1 o g5 g6]
     ·rcases addN_mem.1 hs with hs|rfl
      ·exact h4 s hs
      ·exact idxN_lt hin
     ·rw [addN_mem,h5 s,htake s,or_assoc]
      have:srcIs srcs (.mk op' name' m' fold' calcs' kids') s↔s=idxN srcs name':=⟨fun h=>h.2.symm,fun h=>⟨hop1,h.symm⟩⟩
      rw [this]
    ·have hop1:op'≠1:=by simpa using hop
     refine AN ?_
     refine next (by omega) (fun o g5 g6=>hfr2 o g6 (by omega)) ⟨fun o g5 g6=>?_,fm1,h20,h3,h4,fun s=>?_⟩ hlp2
     ·rw [hfr2 o (by omega) (by omega),h1 o g5 g6]
     ·rw [h5 s,htake s]
      have:¬ srcIs srcs (.mk op' name' m' fold' calcs' kids') s:=fun h=>hop1 h.1
      simp only [this,or_false]
   ·rintro G1 nx1 ⟨h1,fm1,h2,h3,h4,h5⟩ hn
    rw [List.take_length] at h5
    refine AN ?_
    exact W.skipLop (j+1) hmu .auto ⟨by omega,(h1 0 (by omega) (by decide)).trans hG0,(h1 10 (by omega) (by decide)).trans hG10,(h1 21 (by omega) (by decide)).trans hG21,(h1 24 (by omega) (by decide)).trans hG24,hlt,fm1,h2,h3,h4,fun s=>by rw [h5 s,hstep s]⟩
   ·intro _ _ h;exact h.elim
   ·intro _ _ _ h;exact h.elim
  ·have hge:L.length<=j:=by have:=of_decide_eq_false hcc;omega
   rw [List.take_of_length_le hge] at hfm
   have horc2:CC.orc 69 [setIV fm]=some (.own 3 1 (((List.range srcs.length).filter SB).map natIV)):=orcSet hfn hfb (fun s _=>by rw [hsrcs s,hfm s]) (by have:=nodup_lt hfn hfb;omega)
   refine AA ?_
   refine R.opU (O.callOwn rfl horc2 rfl (peeks_cons (vs:=[]) (peek_mpx hG20))) rfl ?_
   refine R.gen' (fun G2=>G2 (nx+1+1) = .row 3 1 ((((List.range srcs.length).filter SB).map natIV).map .imm) false) (by rw [updL_frz1,if_pos rfl]) ?_
   intro G2 hrow2
   refine AA ?_
   refine R.op1 (O.callOwnI rfl horc rfl rfl) rfl ?_
   refine AA ?_
   refine W.retFin rfl rfl ?_
   refine Rdx.peek (d:=2) (P:=fun _=>True) (Rdx.tup (d:=1) (.cons (Rdx.row (d:=0) (e:=3) (sz:=1) (fr:=false) ?_ (List.length_map ..) (All2.imms 0 _ _ _) trivial) (.cons (Rdx.row (d:=0) (e:=3) (sz:=1) (fr:=false) ?_ (List.length_map ..) (All2.imms 0 _ _ _) trivial) (.cons (.imm ..) .nil)))) (by decide)
   ·exact at_upd
   ·exact at_upd
 |false=>
  rw [hb] at hr
  unfold lookedIV at hr
  have bt:(!false)=true:=rfl
  generalize progR p=pr at *
  generalize ((p.defs.length-1:Nat):Int)=m1 at *
  generalize countR p=m2 at *
  obtain ⟨srcs,defs⟩:=p
  refine Ret.of (fn:=Go.Proofs.Tryz.f64) (by kernel_rfl) rfl rfl ?_
  cases pr with
  |true=>
   rw [if_pos rfl] at hr
   refine AA ?_
   exact W.retFin rfl rfl ⟨[],rfl⟩
  |false=>
   rw [if_neg (by decide)] at hr
   refine AA ?_
   exact W.retFin rfl rfl ⟨[],rfl⟩
end Go.Abs

/- The rings of a program, as the program finds them. -/
open Go Go.Abs
namespace Go.Abs
set_option maxRecDepth 100000
set_option maxHeartbeats 4000000
theorem ring_eq {tos:List (List Nat)} {i:Nat} (hi:i < tos.length) (hr:Reach tos i i):((List.range tos.length).filter (reachB tos i)).filter (fun k=>reachB tos k i)=ringTo (reachR tos) i tos.length:=by
 unfold ringTo
 rw [List.filter_filter]
 apply List.filter_congr
 intro k hk
 rw [List.mem_range] at hk
 rw [Bool.eq_iff_iff,inRing_iff hi hk,Bool.and_eq_true,reachB_iff,reachB_iff]
 constructor
 ·rintro ⟨a,b⟩;exact .inr ⟨b,a⟩
 ·rintro (rfl|⟨a,b⟩)
  ·exact ⟨hr,hr⟩
  ·exact ⟨b,a⟩
theorem head_ring {tos:List (List Nat)} {i:Nat} (hi:i < tos.length):(ringTo (reachR tos) i tos.length).head? = some i↔∀ k,k < i->¬ (Reach tos i k/\Reach tos k i):=by
 unfold ringTo
 have hn:tos.length=i+(tos.length-i-1+1):=by omega
 have hsplit:List.range tos.length=List.range i++(List.range (tos.length-i-1+1)).map (i + ·):=by
  conv=>lhs;rw [hn]
  rw [List.range_add]
 rw [hsplit,List.filter_append,List.range_succ_eq_map,List.map_cons,List.filter_cons]
 have hii:inRing (reachR tos) i (i+0)=true:=by unfold inRing;simp
 rw [if_pos hii]
 constructor
 ·intro h k hk hm
  have hmem:k∈(List.range i).filter (inRing (reachR tos) i):=List.mem_filter.2 ⟨List.mem_range.2 hk,(inRing_iff hi (by omega)).2 (.inr hm)⟩
  cases hf:(List.range i).filter (inRing (reachR tos) i) with
  |nil=>rw [hf] at hmem;cases hmem
  |cons a r=>
   rw [hf] at h
   simp at h
   subst h
   have:a∈(List.range a).filter (inRing (reachR tos) a):=by rw [hf];simp
   rw [List.mem_filter,List.mem_range] at this
   omega
 ·intro h
  have:(List.range i).filter (inRing (reachR tos) i)=[]:=by
   rw [List.filter_eq_nil_iff]
   intro k hk hr
   rw [List.mem_range] at hk
   rcases (inRing_iff hi (by omega)).1 hr with rfl|hm
   ·omega
   ·exact h k hk hm
  rw [this];simp
def InRing (tos:List (List Nat)) (i s:Nat):Prop:=∃ i',i' < i/\Reach tos i' i'/\Reach tos i' s/\Reach tos s i'
theorem ringIs_iff {tos:List (List Nat)} {i:Nat} (hi:i < tos.length):ringIs (reachR tos) i=true↔Reach tos i i/\¬ InRing tos i i:=by
 unfold ringIs
 rw [reachR_len,Bool.and_eq_true,at2_reach hi hi,reachB_iff,beq_iff_eq,head_ring hi]
 constructor
 ·rintro ⟨h1,h2⟩
  exact ⟨h1,fun ⟨i',h3,h4,h5,h6⟩=>h2 i' h3 ⟨h6,h5⟩⟩
 ·rintro ⟨h1,h2⟩
  exact ⟨h1,fun k hk ⟨h3,h4⟩=>h2 ⟨k,hk,h4.trans h3,h4,h3⟩⟩
theorem InRing.skip {tos:List (List Nat)} {i s:Nat} (h:¬ Reach tos i i\/InRing tos i i):InRing tos (i+1) s↔InRing tos i s:=by
 constructor
 ·rintro ⟨i',h1,h2,h3,h4⟩
  by_cases he:i'=i
  ·subst he
   rcases h with h|⟨j,g1,g2,g3,g4⟩
   ·exact absurd h2 h
   ·exact ⟨j,g1,g2,g3.trans h3,h4.trans g4⟩
  ·exact ⟨i',by omega,h2,h3,h4⟩
 ·rintro ⟨i',h1,h2⟩
  exact ⟨i',by omega,h2⟩
theorem InRing.step {tos:List (List Nat)} {i s:Nat} (h:Reach tos i i):InRing tos (i+1) s↔InRing tos i s\/(Reach tos i s/\Reach tos s i):=by
 constructor
 ·rintro ⟨i',h1,h2,h3,h4⟩
  by_cases he:i'=i
  ·subst he;exact .inr ⟨h3,h4⟩
  ·exact .inl ⟨i',by omega,h2,h3,h4⟩
 ·rintro (⟨i',h1,h2⟩|⟨h1,h2⟩)
  ·exact ⟨i',by omega,h2⟩
  ·exact ⟨i,by omega,h,h1,h2⟩
theorem ret17 (p:Pgm) (hp:p.Fits):Ret CC 21 [p.iv] (.tup [.lst ((ringsA p).map natsIV), .int .i64 (if progR p then 0 else 2)]):=by
 have hr:=ret54 p hp
 unfold lookedIV at hr
 unfold ringsA
 cases hb:progR p with
 |true=>
  rw [hb] at hr
  simp only [if_true] at hr ⊢
  have hc:=progR_count hb
  have hg:=countR_good hc
  have htos:=hg.tos
  have htl:(tosR p).length=p.defs.length:=hg.steps.2.1
  have hd6:=hg.defs
  have hreach:=fun (d:Nat) (h:d < p.defs.length)=>ret47 hp htos ((p.defs.length-1:Nat):Int) (countR p) (d:=d) (by rw [htl];exact h)
  have hrings:ringsOf p=ringsTo (reachR (tosR p)) p.defs.length:=by unfold ringsOf ringsR;rw [reachR_len,htl]
  rw [hrings]
  generalize ((p.defs.length-1:Nat):Int)=m1 at *
  generalize countR p=m2 at *
  generalize tosR p=tos at *
  obtain ⟨srcs,defs⟩:=p
  simp only at *
  have hdm:(defs.map Dfn.iv).length=defs.length:=List.length_map ..
  refine Ret.of (fn:=Go.Proofs.Tryz.f21) (by kernel_rfl) rfl rfl ?_
  refine AA ?_
  refine W.loop (X:=Nat×AV) (fun x=>[(1, .ptr 0 0),(4, .imm (scopeIV ⟨srcs,defs⟩ m1 m2)),(6, .map 9),(18, .imm (.lst (defs.map Dfn.iv))),(19, .imm (.int .i64 (defs.map Dfn.iv).length)),(20, .imm (.int .i64 x.1)),(5,x.2)])
   (fun x nx G=>11<=nx/\G 0 = .box [.imm (.lst (srcs.map sv)), .imm (.lst (defs.map Dfn.iv))] false/\(∃ ins,G 9=setObj ins/\ins.Nodup/\∀ s,s∈ins↔InRing tos x.1 s)/\x.1<=defs.length/\OwnV 1 44 1 11 nx ((ringsTo (reachR tos) x.1).map natsIV) G x.2)
   (fun x=>defs.length-x.1) (0, .nils) .auto ⟨by omega,rfl,⟨[],rfl,by simp,fun s=>⟨(fun h=>by cases h),(fun ⟨_,h,_⟩=>by omega)⟩⟩,Nat.zero_le _, .nil ..⟩ ?_
  rintro ⟨i,v⟩ nx G ⟨hnx,hG0,⟨ins,hG9,hin,him⟩,hi,ho⟩
  dsimp only at him hi ho ⊢
  rcases Bool.eq_false_or_eq_true (decide ((i:Int) < ((defs.map Dfn.iv).length:Int))) with hcc|hcc
  ·have hlt:i < defs.length:=by have:=of_decide_eq_true hcc;omega
   have hmu:defs.length-(i+1) < defs.length-i:=by omega
   obtain ⟨out,ho1,ho2,ho3,hr47⟩:=hreach i hlt
   have hset1:lookIs (some ty3) (some ty4) (mapKV G (.map 9)) (natIV i) false (.imm (.bool (ins.contains i))):=by
    simp only [mapKV,hG9,setObj];exact setLook ins i
   have hset2:=setLook out i
   have hins:ins.contains i=true↔InRing tos i i:=by rw [<-him i];simp
   have hout:out.contains i=true↔Reach tos i i:=by rw [<-ho3 i];simp
   have hsucc:=ringsTo_succ (reachR tos) i
   have skip:(¬ Reach tos i i\/InRing tos i i)->(∀ s,s∈ins↔InRing tos (i+1) s)/\ringsTo (reachR tos) (i+1)=ringsTo (reachR tos) i:=by
    intro h
    refine ⟨fun s=>by rw [him s,InRing.skip h],?_⟩
    rw [hsucc]
    have:ringIs (reachR tos) i=false:=by
     rw [Bool.eq_false_iff]
     intro h'
     have:=(ringIs_iff (by omega)).1 h'
     rcases h with h|h
     ·exact h this.1
     ·exact this.2 h
    rw [this,if_neg (by decide),List.append_nil]
   rcases Bool.eq_false_or_eq_true (ins.contains i) with hA|hA
   ·obtain ⟨s1,s2⟩:=skip (.inr (hins.1 hA))
    refine AA ?_
    refine W.skipLop (i+1,v) hmu .auto ⟨by omega,hG0,⟨ins,hG9,hin,s1⟩,hlt,?_⟩
    dsimp only
    rw [s2]
    exact ho.frame (by omega) fun _ _ _=>rfl
   rcases Bool.eq_false_or_eq_true (!out.contains i) with hB|hB
   ·have hB':out.contains i=false:=by simpa using hB
    obtain ⟨s1,s2⟩:=skip (.inl fun h=>by rw [hout.2 h] at hB';cases hB')
    refine AA ?_
    refine W.skipLop (i+1,v) hmu .auto ⟨by omega,hG0,⟨ins,hG9,hin,s1⟩,hlt,?_⟩
    dsimp only
    rw [s2]
    exact ho.frame (by omega) fun _ _ _=>rfl
   have hB':out.contains i=true:=by simpa using hB
   have hri:=hout.1 hB'
   have hni:¬ InRing tos i i:=fun h=>by rw [hins.2 h] at hA;cases hA
   have hri2:ringIs (reachR tos) i=true:=(ringIs_iff (by omega)).2 ⟨hri,hni⟩
   rw [hri2,if_pos rfl,reachR_len,<-ring_eq (by omega) hri] at hsucc
   have holen:=nodup_lt ho1 ho2
   have horc:CC.orc 69 [setIV out]=some (.own 3 1 (((List.range tos.length).filter (reachB tos i)).map natIV)):=orcSet ho1 ho2 (fun x _=>by rw [ho3 x,reachB_iff]) (by omega)
   have hLlt:∀ k∈(List.range tos.length).filter (reachB tos i),k < defs.length:=fun k h=>by
    rw [List.mem_filter,List.mem_range] at h;omega
   have hLr:∀ k∈(List.range tos.length).filter (reachB tos i),Reach tos i k:=fun k h=>by
    rw [List.mem_filter] at h;exact reachB_iff.1 h.2
   have hLa:∀ k,Reach tos i k->k∈(List.range tos.length).filter (reachB tos i):=fun k h=>by
    rw [List.mem_filter,List.mem_range];exact ⟨ho2 k ((ho3 k).2 h),reachB_iff.2 h⟩
   have hLl:((List.range tos.length).filter (reachB tos i)).length<=6:=by
    have:=List.length_filter_le (reachB tos i) (List.range tos.length)
    rw [List.length_range] at this;omega
   generalize (List.range tos.length).filter (reachB tos i)=L at *
   refine AA ?_
   refine R.op1 (O.callOwnI rfl horc rfl rfl) rfl ?_
   refine R.op0 (O.lenR rfl rfl at_upd (List.length_map ..)) rfl ?_
   refine AA ?_
   have hLm:(L.map natIV).length=L.length:=List.length_map ..
   rw [hLm]
   generalize hRR:nx+1+2+5+9+1+1=bR
   have hLm2:((L.map natIV).map AV.imm).length=L.length:=by simp
   generalize hP:(fun k=>reachB tos k i)=P at *
   have hPk:∀ k,P k=reachB tos k i:=fun k=>by rw [<-hP]
   refine W.loop (X:=Nat×AV) (fun x=>[(1, .ptr 0 0),(4, .imm (scopeIV ⟨srcs,defs⟩ m1 m2)),(6, .map 9),(7, .imm (natIV i)),(18, .imm (.lst (defs.map Dfn.iv))),(19, .imm (.int .i64 (defs.map Dfn.iv).length)),(20, .imm (.int .i64 i)),(5,v),(37, .row bR L.length),(38, .imm (.int .i64 L.length)),(39, .imm (.int .i64 x.1)),(9,x.2)])
    (fun x nx2 G2=>bR+1<=nx2/\G2 0 = .box [.imm (.lst (srcs.map sv)), .imm (.lst (defs.map Dfn.iv))] false/\G2 bR = .row 3 1 ((L.map natIV).map AV.imm) false/\(∃ insj,G2 9=setObj insj/\insj.Nodup/\∀ s,s∈insj↔s∈ins\/s∈(L.take x.1).filter P)/\x.1<=L.length/\OwnV 1 44 1 11 nx ((ringsTo (reachR tos) i).map natsIV) G2 v/\Own 3 1 (bR+1) nx2 (((L.take x.1).filter P).map natIV) G2 x.2)
    (fun x=>L.length-x.1) (0, .nils) .auto ⟨by omega,(upd_ne _ _ _ _ (by omega)).trans hG0,upd_same _ _ _,⟨ins,(upd_ne _ _ _ _ (by omega)).trans hG9,hin,fun s=>by simp⟩,Nat.zero_le _,ho.frame (Nat.le_refl _) (fun o _ h=>upd_ne _ _ _ _ (by omega)), .inl ⟨rfl,rfl⟩⟩ ?_
   rintro ⟨j,w⟩ nx2 G2 ⟨hnx2,hB0,hBR,⟨insj,hB9,hjn,hjm⟩,hj,hov,how⟩
   dsimp only at hjm hj hov how ⊢
   rcases Bool.eq_false_or_eq_true (decide ((j:Int) < (L.length:Int))) with hcj|hcj
   ·have hltj:j < L.length:=by have:=of_decide_eq_true hcj;omega
    obtain ⟨k,hjk⟩:=at_lt hltj
    have hjx:((L.map natIV).map AV.imm)[((j:Nat):Int).toNat]? = some (.imm (natIV k)):=by rw [Int.toNat_natCast];simp [hjk]
    have hkd:=hLlt k (List.mem_of_getElem? hjk)
    obtain ⟨outk,hk1,hk2,hk3,hr47k⟩:=hreach k hkd
    have hset3:=setLook outk i
    have hmu2:L.length-(j+1) < L.length-j:=by omega
    have htk:(L.take (j+1)).filter P=(L.take j).filter P++(if P k then [k] else []):=by
     rw [List.take_add_one,hjk,List.filter_append]
     congr 1
     simp only [Option.toList,List.filter_cons,List.filter_nil]
    have hPc:P k=outk.contains i:=by
     rw [hPk,Bool.eq_iff_iff,reachB_iff,<-hk3 i];simp
    have hll:((L.take j).filter P).length<=6:=by
     have h1:=List.length_filter_le P (L.take j)
     rw [List.length_take] at h1;omega
    rcases Bool.eq_false_or_eq_true (outk.contains i) with hC|hC
    ·rw [hPc,hC,if_pos rfl] at htk
     refine AA ?_
     refine R.app1 how at_upd (by simp only [List.length_map,most];omega) fun v' G' ho' hG'=>?_
     have hfr:∀ o,o < bR+1->G' o=G2 o:=fun o h=>by rw [hG' o h,upd_ne _ _ _ _ (by omega)]
     have h9:G' 9=setObj insj:=(hfr 9 (by omega)).trans hB9
     refine AA ?_
     refine R.opN1 (O.setPut rfl rfl rfl h9) ?_
     refine AA ?_
     refine W.skipLop (j+1,v') hmu2 .auto ⟨by omega,(upd_ne _ _ _ _ (by omega)).trans ((hfr 0 (by omega)).trans hB0),(upd_ne _ _ _ _ (by omega)).trans ((hfr bR (by omega)).trans hBR),⟨addN insj k,upd_same _ _ _,addN_nodup hjn,fun s=>?_⟩,hltj,hov.frame (Nat.le_refl _) (fun o h1 h2=>(upd_ne _ _ _ _ (by omega)).trans (hfr o (by omega))),?_⟩
     ·rw [addN_mem,hjm s,htk,List.mem_append,List.mem_singleton,or_assoc]
     ·show Own 3 1 (bR+1) _ (((L.take (j+1)).filter P).map natIV) _ v'
      rw [htk,List.map_append]
      exact ho'.frame (by omega) fun o h1 _=>upd_ne _ _ _ _ (by omega)
    ·rw [hPc,hC,if_neg (by decide),List.append_nil] at htk
     refine AA ?_
     refine W.skipLop (j+1,w) hmu2 .auto ⟨by omega,hB0,hBR,⟨insj,hB9,hjn,fun s=>by rw [hjm s,htk]⟩,hltj,hov,?_⟩
     show Own 3 1 (bR+1) _ (((L.take (j+1)).filter P).map natIV) _ w
     rw [htk]
     exact how.up (by omega)
   ·have hgej:L.length<=j:=by have:=of_decide_eq_false hcj;omega
    rw [List.take_of_length_le hgej] at hjm how
    refine AA ?_
    have hfit:=how.fits1
    have hrl:=ringsTo_len (reachR tos) i
    refine R.op1 (O.buildS (n:=1) (ke:=ty30) (xs:=[w]) rfl rfl rfl (by decide) rfl (by show ([w].all (AV.fits 1))=true;simp [hfit]) (by decide)) rfl ?_
    refine R.appOwnV (d':=1) (lo:=11) (hi:=nx) (ws:=[w]) (ys:=[natsIV (L.filter P)]) rfl rfl rfl (hov.frame (Nat.le_refl _) fun o _ h=>upd_ne _ _ _ _ (by omega)) rfl (by simp [elems,upd]) (by decide) (by decide) rfl (by show ([w].all (AV.fits 1))=true;simp [hfit]) (by simp only [List.length_map,List.length_cons,List.length_nil,most];omega) ⟨by omega,by omega⟩ (fun G' h1 h2=>⟨?_,trivial⟩) rfl fun v' G' ho' hG1 hG2=>?_
    ·exact how.rdx.frame (fun o ho=>by rw [h2 o (by omega) (by omega),upd_ne _ _ _ _ (by omega)]) fun o ho=>⟨by omega,by omega⟩
    ·refine AA ?_
     refine W.skipLop (i+1,v') hmu .auto ⟨by omega,by rw [hG1 0 (by omega),upd_ne _ _ _ _ (by omega)];exact hB0,⟨insj,by rw [hG1 9 (by omega),upd_ne _ _ _ _ (by omega)];exact hB9,hjn,fun s=>?_⟩,hlt,?_⟩
     ·rw [InRing.step hri,hjm s,him s,List.mem_filter,hPk,reachB_iff]
      constructor
      ·rintro (h|⟨h,h'⟩)
       ·exact .inl h
       ·exact .inr ⟨hLr s h,h'⟩
      ·rintro (h|⟨h,h'⟩)
       ·exact .inl h
       ·exact .inr ⟨hLa s h,h'⟩
     ·show OwnV 1 44 1 11 _ ((ringsTo (reachR tos) (i+1)).map natsIV) G' v'
      rw [hsucc,List.map_append]
      exact ho'.frame (by omega) fun _ _ _=>rfl
  ·have hge:defs.length<=i:=by have:=of_decide_eq_false hcc;omega
   have he:i=defs.length:=by omega
   subst he
   have hp:=ho.rdx
   refine AA ?_
   rcases ho with ⟨h0,rfl⟩|⟨o,vs,_,_,rfl,_⟩
   ·exact W.retFin2 rfl rfl ⟨[],by rw [h0];rfl⟩
   ·exact W.retFin2 rfl rfl (Rdx.peek (d:=3) (Rdx.tup (d:=2) (.cons hp (.cons (.imm ..) .nil))) (by decide))
 |false=>
  rw [hb] at hr
  simp only [Bool.false_eq_true,if_false] at hr ⊢
  obtain ⟨srcs,defs⟩:=p
  refine Ret.of (fn:=Go.Proofs.Tryz.f21) (by kernel_rfl) rfl rfl ?_
  refine AA ?_
  exact W.retFin2 rfl rfl ⟨[],rfl⟩
end Go.Abs

/- The groups of definitions, in their order, as the program finds them: what is ready. -/
open Go Go.Abs
namespace Go.Abs
set_option maxRecDepth 100000
set_option maxHeartbeats 4000000
def ty561:TyI:={ d:=TyD.mp 3 44,sz:=1,bytes:=8,zero:=AV.imm IV.nilmap }
instance tyis561:TyIs CC 261 ty561:=⟨by kernel_rfl⟩
def RowF (lo hi:Nat) (G:Nat->Obj) (v:AV) (g:List Nat):Prop:=v = .imm (natsIV g)\/∃ o fr,lo<=o/\o < hi/\v = .row o g.length/\G o = .row 3 1 ((g.map natIV).map .imm) fr
theorem RowF.frame {G G':Nat->Obj} {lo hi hi':Nat} {v:AV} {g:List Nat} (h:RowF lo hi G v g) (hh:hi<=hi') (hG:∀ o,lo<=o->o < hi->G' o=G o):RowF lo hi' G' v g:=by
 rcases h with h|⟨o,fr,h0,h1,h2,h3⟩
 ·exact .inl h
 ·exact .inr ⟨o,fr,h0,by omega,h2,by rw [hG o h0 h1];exact h3⟩
theorem RowF.peek {G:Nat->Obj} {lo hi:Nat} {v:AV} {g:List Nat} (h:RowF lo hi G v g):∃ ids,Go.Abs.peek G pkDepth v=some (natsIV g,ids)/\∀ o∈ids,lo<=o/\o < hi:=by
 rcases h with rfl|⟨o,fr,h0,h1,rfl,h3⟩
 ·exact ⟨[],rfl,fun _ h=>by cases h⟩
 ·refine ⟨[o],peek_row1 h3 (by simp),fun q hq=>?_⟩
  rw [List.mem_singleton] at hq;subst hq;exact ⟨h0,h1⟩
structure InIs (tos:List (List Nat)) (lo hi:Nat) (G:Nat->Obj) (ks:List Nat) (vs:List AV):Prop where
 len:vs.length=ks.length
 row:∀ (i k:Nat) (w:AV),ks[i]? = some k->vs[i]? = some w->RowF lo hi G w (grpR tos k)
theorem InIs.frame {tos:List (List Nat)} {lo hi hi':Nat} {G G':Nat->Obj} {ks:List Nat} {vs:List AV} (h:InIs tos lo hi G ks vs) (hh:hi<=hi') (hG:∀ o,lo<=o->o < hi->G' o=G o):InIs tos lo hi' G' ks vs:=
 ⟨h.len,fun i k w h1 h2=>(h.row i k w h1 h2).frame hh hG⟩
theorem findIdx_at' {s j:Nat}:∀ {l:List Nat},(l.findIdx? fun x=>s==x)=some j->l[j]? = some s
 |l,h=>by
  obtain ⟨h1,h2,_⟩:=List.findIdx?_eq_some_iff_getElem.1 h
  rw [List.getElem?_eq_getElem h1]
  simp only [beq_iff_eq] at h2
  rw [<-h2]
theorem InIs.look {tos:List (List Nat)} {lo hi:Nat} {G:Nat->Obj} {ks:List Nat} {vs:List AV} (h:InIs tos lo hi G ks vs) {d:Nat} (hd:d∈ks):∃ w,lookIs (some ty3) (some ty30) (some (ks.map natIV,vs)) (natIV d) false w/\RowF lo hi G w (grpR tos d):=by
 have hc:ks.contains d=true:=List.contains_iff_mem.2 hd
 rw [<-findIdx_contains'] at hc
 obtain ⟨j,hj⟩:=Option.isSome_iff_exists.1 hc
 have hlt:=findIdx_lt' hj
 obtain ⟨w,hw⟩:∃ w,vs[j]? = some w:=at_lt (by rw [h.len];exact hlt)
 refine ⟨w,⟨rfl, .inl ⟨j,w,?_,hw,rfl⟩⟩,h.row j d w (findIdx_at' hj) hw⟩
 rw [natKey,hj]
theorem InIs.miss {ks:List Nat} {vs:List AV} {d:Nat} (hd:d∉ks):lookIs (some ty3) (some ty30) (some (ks.map natIV,vs)) (natIV d) false .nils:=by
 refine ⟨rfl, .inr ⟨?_,rfl⟩⟩
 exact setNew (by rw [List.contains_eq_mem];exact decide_eq_false hd)
structure RdyK (tos:List (List Nat)) (done ks:List Nat) (vs:List AV) (dp md ip mi db d lo hi:Nat) (G:Nat->Obj) (nx:Nat):Prop where
 ub:dp < nx/\md < nx/\ip < nx/\mi < nx/\db < nx/\hi<=nx
 dp:G dp = .box [.map md] false
 md:G md=setObj done
 ip:G ip = .box [.map mi] false
 mi:G mi = .mp (ks.map natIV) vs false
 db:G db = .box [.imm (natIV d)] false
 ins:InIs tos lo hi G ks vs
theorem cal504 {tos:List (List Nat)} {done ks:List Nat} {vs:List AV} {dp md ip mi db d lo hi:Nat} (hdk:d∈ks) (hl:(grpR tos d).length<=1000) (x:Nat) {G:Nat->Obj} {nx:Nat} (h:RdyK tos done ks vs dp md ip mi db d lo hi G nx) :
  Cal CC 204 [.imm (natIV x), .ptr dp 0, .ptr ip 0, .ptr db 0] G nx fun v G' nx'=>v = .imm (.bool (!done.contains x && !(grpR tos d).contains x))/\nx<=nx'/\∀ o,o < nx->G' o=G o:=by
 obtain ⟨w,hlk,hrow⟩:=h.ins.look hdk
 have hset:=setLook done x
 have h438:=ret438 hl x
 have e1:=h.dp
 have e2:=h.md
 have e3:=h.ip
 have e4:=h.mi
 have e5:=h.db
 have hset':lookIs (some ty3) (some ty4) (mapKV G (.map md)) (natIV x) false (.imm (.bool (done.contains x))):=by
  simp only [mapKV,e2,setObj];exact hset
 have hlk':lookIs (some ty3) (some ty30) (mapKV G (.map mi)) (natIV d) false w:=by
  simp only [mapKV,e4];exact hlk
 refine Cal.of (fn:=Go.Proofs.Tryz.f204) (by kernel_rfl) rfl rfl ?_
 generalize done.contains x=z at *
 generalize (grpR tos d).contains x=y at *
 cases z with
 |true=>
  refine BN ?_
  exact W.retFin1 rfl ⟨rfl,by omega,fun _ _=>rfl⟩
 |false=>
  obtain ⟨ids,hp,_⟩:=hrow.peek
  refine BN ?_
  refine R.op0 (O.callG rfl (peeks_one hp (peeks_im peeks_nil)) h438 rfl) rfl ?_
  refine BN ?_
  exact W.retFin1 rfl ⟨rfl,by omega,fun _ _=>rfl⟩
theorem progR_good {p:Pgm} (h:progR p=true):p.Good:=by
 refine countR_good ?_
 unfold progR at h
 split at h
 ·cases h
 ·omega
theorem cal503 {p:Pgm} (hp:p.Fits) {done ks:List Nat} {vs:List AV} {pb dp md ip mi lo hi d:Nat} (hpr:progR p=true) (hd:d < p.defs.length) (hdk:d∈ks) {G:Nat->Obj} {nx:Nat} (hpb:pb < nx) (hP:G pb = .box [.imm (.lst (p.srcs.map sv)), .imm (.lst (p.defs.map Dfn.iv))] false)
  (hub:dp < nx/\md < nx/\ip < nx/\mi < nx/\hi<=nx) (e1:G dp = .box [.map md] false) (e2:G md=setObj done) (e3:G ip = .box [.map mi] false) (e4:G mi = .mp (ks.map natIV) vs false) (hin:InIs (tosR p) lo hi G ks vs) :
  Cal CC 203 [.imm (natIV d), .ptr pb 0, .ptr dp 0, .ptr ip 0] G nx fun v G' nx'=>v = .imm (.bool (readyR (tosR p) done d))/\nx<=nx'/\∀ o,o < nx->G' o=G o:=by
 have hg:=progR_good hpr
 have hn:(tosR p).length=p.defs.length:=hg.steps.2.1
 have hd6:=hg.defs
 have hh:hasR p (d:Int)=true:=by
  unfold hasR
  rw [hpr,decide_eq_true (by omega),decide_eq_true (by omega)];rfl
 have h15:=ret15 p hp (d:Int)
 have hra:reachA p (d:Int)=reachN p d:=by unfold reachA;rw [if_pos hh,Int.toNat_natCast]
 rw [hra] at h15
 have hrl:(reachN p d).length<=1000:=by
  unfold reachN
  have:=List.length_filter_le (reachB (tosR p) d) (List.range p.defs.length)
  rw [List.length_range] at this
  omega
 have hgl:(grpR (tosR p) d).length<=1000:=by
  have:=nodup_lt (grp_nodup (tos:=tosR p) d) (fun k hk=>grp_lt hk)
  omega
 have hset:lookIs (some ty3) (some ty4) (mapKV (upd G (nx+0) (.box [.imm (natIV d)] false)) (.map md)) (natIV d) false (.imm (.bool (done.contains d))):=by
  have:upd G (nx+0) (.box [.imm (natIV d)] false) md=setObj done:=by rw [upd_ne _ _ _ _ (by omega)];exact e2
  simp only [mapKV,this,setObj];exact setLook done d
 have hrdy:readyR (tosR p) done d=(!done.contains d && !(reachN p d).any fun k => !done.contains k && !(grpR (tosR p) d).contains k):=by
  unfold readyR reachN
  rw [hn,List.any_filter]
  congr 1
  rw [Bool.eq_iff_iff,List.all_eq_true,Bool.not_eq_true',List.any_eq_false]
  refine forall_congr' fun k=>forall_congr' fun _=>?_
  cases reachB (tosR p) d k<;>cases done.contains k<;>cases (grpR (tosR p) d).contains k<;>simp
 rw [hrdy]
 generalize srcsA p (d:Int)=sr at *
 generalize errR p (d:Int)=er at *
 generalize reachN p d=rl at *
 generalize tosR p=tos at *
 clear hrdy hra hh hn hg
 obtain ⟨srcs,defs⟩:=p
 simp only at hP
 refine Cal.of (fn:=Go.Proofs.Tryz.f203) (by kernel_rfl) rfl rfl ?_
 generalize done.contains d=z at *
 cases z with
 |true=>
  refine BN ?_
  exact W.retFin1 rfl ⟨rfl,by omega,fun o ho=>upd_ne _ _ _ _ (by omega)⟩
 |false=>
  have hc:=fun (G1:Nat->Obj) (nx1:Nat) (h1:nx+1<=nx1) (h2:∀ o,o < nx->G1 o=G o) (h3:G1 (nx+0) = .box [.imm (natIV d)] false)=>
   cal386 (f:=204) (cap:=[.ptr dp 0, .ptr ip 0, .ptr (nx+0) 0]) (P:=fun k => !done.contains k && !(grpR tos d).contains k) (K:=fun G2 nx2=>nx1<=nx2/\∀ o,o < nx+1->G2 o=G1 o) rfl (fun _ _ _ h hh=>⟨by omega,h.2⟩) (l:=rl) hrl
    (fun x _ G2 nx2 hK=>(cal504 (tos:=tos) (done:=done) (ks:=ks) (vs:=vs) (md:=md) (mi:=mi) (d:=d) (lo:=lo) (hi:=hi) hdk hgl x
     ⟨by omega,by rw [hK.2 _ (by omega),h2 _ (by omega)];exact e1,by rw [hK.2 _ (by omega),h2 _ (by omega)];exact e2,by rw [hK.2 _ (by omega),h2 _ (by omega)];exact e3,by rw [hK.2 _ (by omega),h2 _ (by omega)];exact e4,by rw [hK.2 _ (by omega)];exact h3,hin.frame (Nat.le_refl _) fun o _ ho=>by rw [hK.2 _ (by omega),h2 _ (by omega)]⟩).mono fun v G3 nx3 h=>⟨h.1,Nat.le_trans hK.1 h.2.1,fun o ho=>by rw [h.2.2 o (Nat.lt_of_lt_of_le ho (Nat.le_trans h1 hK.1))];exact hK.2 o ho⟩)
    (G:=G1) (nx:=nx1) ⟨Nat.le_refl _,fun _ _=>rfl⟩
  refine BN ?_
  refine R.callB rfl rfl rfl rfl rfl ((hc _ _ (by omega) (fun o ho=>upd_ne _ _ _ _ (by omega)) (upd_same ..)).mono fun v G' nx' hv=>?_)
  obtain ⟨rfl,h1,h2⟩:=hv
  refine BN ?_
  refine W.retFin1 rfl ⟨rfl,by omega,fun o ho=>?_⟩
  rw [h2 o (by omega)]
  exact upd_ne _ _ _ _ (by omega)
end Go.Abs

/- Putting one expression for each use of a name. -/
open Go Go.Abs
namespace Go.Abs
set_option maxRecDepth 100000
set_option maxHeartbeats 4000000
instance fnis57:FnIs CC 72:=⟨rfl,fun _=>rfl⟩
instance fnis93:FnIs CC 135:=⟨rfl,fun _=>rfl⟩
mutual
def putE (nm:Str) (rep:Exp):Exp->Exp
 | .mk op name n fold calcs kids=>if (op==2&&name==nm)=true then rep else .mk op name n fold calcs (putL nm rep kids)
def putL (nm:Str) (rep:Exp):List Exp->List Exp
 |[]=>[]
 |e::r=>putE nm rep e::putL nm rep r
end
theorem putL_map (nm:Str) (rep:Exp):∀ l,putL nm rep l=l.map (putE nm rep)
 |[]=>by rw [putL];rfl
 |e::r=>by rw [putL,putL_map nm rep r];rfl
theorem peek_fn2 {G:Nat->Obj} {f:Fn} {q1 q2:Nat} {cs1 cs2:List IV} {fr1 fr2:Bool} (h1:G q1 = .box (cs1.map .imm) fr1) (h2:G q2 = .box (cs2.map .imm) fr2) :
  Go.Abs.peek G pkDepth (.fn f [.ptr q1 0, .ptr q2 0])=some (.fn f [.fptr cs1 0, .fptr cs2 0],[q1,q2]):=by
 have hp:∀ x,Go.Abs.peek G 98 (.imm x)=some (x,[]):=fun x=>rfl
 have hb:∀ {q:Nat} {cs:List IV} {fr:Bool},G q = .box (cs.map .imm) fr->Go.Abs.peek G 99 (.ptr q 0)=some (.fptr cs 0,[q]):=by
  intro q cs fr h
  show Go.Abs.peek G (98+1) _=_
  unfold Go.Abs.peek
  rw [h]
  dsimp only
  rw [peekL_imm hp]
 show Go.Abs.peek G (99+1) _=_
 unfold Go.Abs.peek
 rw [peekL,hb h1,peekL,hb h2,peekL]
 rfl
theorem peeks2 {G:Nat->Obj} {x y:IV} {v:AV} {ids:List Nat} (h:Go.Abs.peek G pkDepth v=some (y,ids)):peeks G [.imm x,v]=some ([x,y],ids):=by
 have hp:Go.Abs.peek G pkDepth (.imm x)=some (x,[]):=rfl
 unfold peeks
 rw [peekL,hp,peekL,h,peekL]
 simp
theorem ret93 {c rep:Exp} {nm:Str} (h:Ret CC 72 [c.iv,sv nm,rep.iv] (putE nm rep c).iv):Ret CC 135 [c.iv, .fptr [sv nm] 0, .fptr (IV.cells rep.iv) 0] (putE nm rep c).iv:=by
 generalize putE nm rep c=r at *
 obtain ⟨o',s',m',f',c',k'⟩:=rep
 obtain ⟨o'',s'',m'',f'',c'',k''⟩:=c
 obtain ⟨o3,s3,m3,f3,c3,k3⟩:=r
 refine Ret.of (fn:=Go.Proofs.Tryz.f135) (by kernel_rfl) rfl rfl ?_
 refine AA ?_
 exact W.retFinCA rfl rfl rfl rfl ⟨[],rfl⟩
theorem ret57 {e rep:Exp} {nm:Str} (h:e.Sm) (hr:rep.Sm):Ret CC 72 [e.iv,sv nm,rep.iv] (putE nm rep e).iv:=by
 have h63:=ret63 hr
 induction h with
 |mk op name n fold calcs kids hc hk hcs hks ih=>
 rw [putE,putL_map]
 have h92:=ret92 (g:=putE nm rep) (cap:=[.fptr [sv nm] 0, .fptr (IV.cells rep.iv) 0]) fnis93 kids hk fun c h=>ret93 (ih c h)
 have h90:=ret90 (g:=id) (cap:=[]) fnis91 calcs hc fun c h=>ret91 (hcs c h)
 rw [List.map_id] at h90
 generalize kids.map (putE nm rep)=ks at *
 obtain ⟨o',s',m',f',c',k'⟩:=rep
 rcases Bool.eq_false_or_eq_true (op==2) with hA|hA
 ·rcases Bool.eq_false_or_eq_true (name==nm) with hB|hB
  ·rw [hA,hB,if_pos (by rfl)]
   refine Ret.of (fn:=Go.Proofs.Tryz.f72) (by kernel_rfl) rfl rfl ?_
   refine AA ?_
   exact W.retFinCA rfl rfl rfl rfl ⟨[],rfl⟩
  ·rw [hA,hB,if_neg (by decide)]
   refine Ret.of (fn:=Go.Proofs.Tryz.f72) (by kernel_rfl) rfl rfl ?_
   refine AA ?_
   refine R.opU (O.callFz (ids:=[1,2]) rfl (peeks2 (peek_fn2 (fr1:=false) (fr2:=false) (cs1:=[sv nm]) rfl rfl)) h92 rfl) rfl ?_
   refine AA ?_
   exact W.retFinCA rfl rfl rfl rfl ⟨[],rfl⟩
 ·rw [hA,Bool.false_and,if_neg (by decide)]
  refine Ret.of (fn:=Go.Proofs.Tryz.f72) (by kernel_rfl) rfl rfl ?_
  refine AA ?_
  refine R.opU (O.callFz (ids:=[1,2]) rfl (peeks2 (peek_fn2 (fr1:=false) (fr2:=false) (cs1:=[sv nm]) rfl rfl)) h92 rfl) rfl ?_
  refine AA ?_
  exact W.retFinCA rfl rfl rfl rfl ⟨[],rfl⟩
end Go.Abs

/- Programs that are the same; what is put, is short. -/
open Go Go.Abs
namespace Go.Abs
set_option maxRecDepth 100000
set_option maxHeartbeats 4000000
theorem putE_fits {nm:Str} {rep e:Exp} (h:e.Fits) (hr:rep.Fits):(putE nm rep e).Fits:=by
 induction h with
 |mk op name n fold calcs kids hn hw hc hk hcs hks ih=>
 rw [putE,putL_map]
 split
 ·exact hr
 ·refine .mk _ _ _ _ _ _ hn hw hc (by simpa using hk) hcs fun k hk=>?_
  obtain ⟨k0,h1,rfl⟩:=List.mem_map.1 hk
  exact ih k0 h1
def putD (nm:Str) (rep:Exp) (x:Dfn):Dfn:=⟨x.name,putE nm rep x.exp⟩
def outs (defs:List Dfn) (d:Nat) (nm:Str) (rep:Exp) (i:Nat):List Dfn:=((defs.eraseIdx d).take (if d < i then i-1 else i)).map (putD nm rep)
def asksE (nm:Str) (y:Exp):Bool:=y.op==3&&y.name==nm
def asksD (nm:Str) (x:Dfn):Bool:=(allE x.exp).any (asksE nm)
def inlP (p:Pgm) (d:Nat) (x:Dfn):Pgm:=⟨p.srcs,(p.defs.eraseIdx d).map (putD x.name x.exp)⟩
noncomputable def inlR (p:Pgm) (d:Int):Pgm×Int:=
 if hasR p d then match p.defs[d.toNat]? with
  |some x=>if p.defs.any (asksD x.name) then (⟨[],[]⟩,7) else if progR (inlP p d.toNat x) then (inlP p d.toNat x,0) else (⟨[],[]⟩,3)
  |none=>(⟨[],[]⟩,2)
 else (⟨[],[]⟩,2)
theorem outs_at {defs:List Dfn} {d i:Nat} {nm:Str} {rep:Exp} {y:Dfn} (hi:defs[i]? = some y) (hne:i≠d):outs defs d nm rep (i+1)=outs defs d nm rep i++[putD nm rep y]:=by
 unfold outs
 by_cases h:d < i
 ·rw [if_pos h,if_pos (by omega),show i+1-1=(i-1)+1 by omega,List.take_add_one]
  rw [List.getElem?_eraseIdx,if_neg (by omega),show i-1+1=i by omega,hi]
  simp
 ·rw [if_neg h,if_neg (by omega),List.take_add_one]
  rw [List.getElem?_eraseIdx,if_pos (by omega),hi]
  simp
theorem outs_same {defs:List Dfn} {d:Nat} {nm:Str} {rep:Exp}:outs defs d nm rep (d+1)=outs defs d nm rep d:=by
 unfold outs
 rw [if_pos (by omega),if_neg (by omega)]
 simp
theorem outs_all {defs:List Dfn} {d i:Nat} {nm:Str} {rep:Exp} (hi:defs.length<=i) (hd:d < defs.length):outs defs d nm rep i=(defs.eraseIdx d).map (putD nm rep):=by
 unfold outs
 rw [if_pos (by omega),List.take_of_length_le (by rw [List.length_eraseIdx,if_pos hd];omega)]
theorem outs_zero {defs:List Dfn} {d:Nat} {nm:Str} {rep:Exp}:outs defs d nm rep 0=[]:=by
 unfold outs
 rw [if_neg (by omega)];rfl
theorem outs_len {defs:List Dfn} {d i:Nat} {nm:Str} {rep:Exp}:(outs defs d nm rep i).length<=defs.length:=by
 unfold outs
 rw [List.length_map,List.length_take]
 have:=List.length_eraseIdx_le defs d
 omega
theorem inlP_fits {p:Pgm} (hp:p.Fits) {d:Nat} {x:Dfn} (hx:x∈p.defs):(inlP p d x).Fits where
 srcs:=hp.srcs
 src:=hp.src
 defs:=by
  have:=List.length_eraseIdx_le p.defs d
  have:=hp.defs
  unfold inlP;simp only [List.length_map];omega
 name:=fun y hy=>by
  unfold inlP at hy
  obtain ⟨z,h1,rfl⟩:=List.mem_map.1 hy
  exact hp.name z (List.mem_of_mem_eraseIdx h1)
 exp:=fun y hy=>by
  unfold inlP at hy
  obtain ⟨z,h1,rfl⟩:=List.mem_map.1 hy
  exact putE_fits (hp.exp z (List.mem_of_mem_eraseIdx h1)) (hp.exp x hx)
end Go.Abs

/- Comparing. -/
open Go Go.Abs
namespace Go.Abs
set_option maxRecDepth 100000
set_option maxHeartbeats 4000000
def ty200:TyI:={ d:=TyD.mp 9 9,sz:=1,bytes:=8,zero:=AV.imm IV.nilmap }
instance tyis200:TyIs CC 99 ty200:=⟨by kernel_rfl⟩
end Go.Abs
