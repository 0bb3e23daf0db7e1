/- Names: the first one that is none of some. -/
import Derived.Test.YtbdoijpclmhbaaaGreatLw10
open Go Go.Abs
namespace Go.Abs
set_option maxRecDepth 100000
set_option maxHeartbeats 2000000
theorem word_kid (n c:Nat) (hc:c < 26):wordN (26*n+1+c)=wordN n++[UInt8.ofNat (97+c)]:=by
 have e:26*n+1+c=(26*n+c)+1:=by omega
 rw [e,wordN_succ]
 have h1:(26*n+c) / 26=n:=by omega
 have h2:(26*n+c) % 26=c:=by omega
 rw [h1,h2]
def wrow (a m:Nat):List AV:=(List.range m).map fun j => .imm (sv (wordN (a+j)))
theorem wrow_len (a m:Nat):(wrow a m).length=m:=by simp [wrow]
theorem wrow_get {a m j:Nat} (h:j < m):(wrow a m)[j]? = some (.imm (sv (wordN (a+j)))):=by simp [wrow,h]
theorem wrow_succ (a m:Nat):wrow a m++[.imm (sv (wordN (a+m)))]=wrow a (m+1):=by simp [wrow,List.range_succ]
structure Cons (q n0 N:Nat) (K Q:(Nat->Obj)->Prop):Prop where
 frame:∀ G G',K G->(∀ o,o < n0->G' o=G o)->K G'
 step:∀ n G nx,1<=n->n < N->K G->n0<=nx->Rnd CC q [.imm (sv (wordN n))] G nx fun v G' nx'=>v = .imm (.bool true)/\K G'/\nx<=nx'/\∀ o,n0<=o->G' o=G o
 last:∀ G nx,K G->n0<=nx->Rnd CC q [.imm (sv (wordN N))] G nx fun v G' _=>v = .imm (.bool false)/\Q G'
def Long (n0 nx o2 a cnt:Nat) (G:Nat->Obj) (v:AV):Prop:=
 (cnt=0/\v = .nils)\/∃ o,n0<=o/\o < nx/\o≠o2/\v = .row o cnt/\G o = .row 9 1 (wrow (26*a+1) cnt) false/\0 < cnt
theorem Long.frame {n0 nx nx' o2 a cnt:Nat} {G G':Nat->Obj} {v:AV} (h:Long n0 nx o2 a cnt G v) (hn:nx<=nx') (hG:∀ o,n0<=o->o < nx->G' o=G o):Long n0 nx' o2 a cnt G' v:=by
 rcases h with h|⟨o,h1,h2,h3,h4,h5,h6⟩
 ·exact .inl h
 ·exact .inr ⟨o,h1,by omega,h3,h4,by rw [hG o h1 h2];exact h5,h6⟩
theorem cal41 {q n0 N:Nat} {G0:Nat->Obj} {K Q:(Nat->Obj)->Prop} (hc:Cons q n0 N K Q) (hN1:1<=N) (hN:N<=4294967296) (hG:K G0):Cal CC 107 [.yld q] G0 n0 fun _ G' _=>Q G':=by
 refine Cal.of (fn:=Go.Proofs.Tryz.f107) (by kernel_rfl) rfl rfl ?_
 refine W.seq (W.region ?_)
 refine R.op1 (O.buildS (xs:=[.imm (sv [])]) rfl rfl rfl (by decide) rfl rfl (by decide)) rfl ?_
 refine SO ?_
 -- the rows
 refine W.loop (X:=Nat×Nat×Nat) (fun x=>[(0, .yld q),(2, .row x.1 x.2.2)])
  (fun x nx G=>n0<=x.1/\x.1 < nx/\n0<=nx/\K G/\G x.1 = .row 9 1 (wrow x.2.1 x.2.2) false/\x.2.1+x.2.2=26*x.2.1+1/\26*x.2.1 < N) (fun x=>N-x.2.1) (n0+0,0,1)
  (.cons rfl (.cons rfl (.nil _))) ⟨by simp,by simp,by simp,?_,?_,rfl,by show 26*0 < N;omega⟩ ?_
 ·exact hc.frame _ _ hG fun o ho=>upd_ne _ _ _ _ (by omega)
 ·rw [upd_same]
  have:wordN 0=[]:=by rw [wordN]
  simp [wrow,List.range_succ,this]
  rfl
 rintro ⟨o2,a,m⟩ nx G ⟨h1,h2,h3,hK,hR,ham,haN⟩
 dsimp only at h1 h2 hR ham haN ⊢
 refine SO ?_
 refine R.op0 (O.lenR rfl rfl hR (wrow_len a m)) rfl ?_
 refine SO ?_
 -- the words of a row
 refine W.loop (X:=Nat×AV) (fun x=>[(0, .yld q),(9, .row o2 m),(10, .imm (.int .i64 m)),(11, .imm (.int .i64 x.1)),(3,x.2)])
  (fun x nx G=>o2 < nx/\n0<=nx/\K G/\G o2 = .row 9 1 (wrow a m) false/\x.1<=m/\26*(a+x.1) < N/\Long n0 nx o2 a (26*x.1) G x.2) (fun x=>m-x.1) (0, .nils)
  (.cons rfl (.cons rfl (.cons rfl (.cons rfl (.cons rfl (.nil _)))))) ⟨by omega,by omega,hK,hR,Nat.zero_le _,by simpa using haN, .inl ⟨rfl,rfl⟩⟩ ?_
 rintro ⟨j,v⟩ nx G ⟨h2,h3,hK,hR,hj,hjN,hL⟩
 dsimp only at hj hjN hL ⊢
 refine SO ?_
 refine W.cond rfl (fun hc1=>?_) (fun hc1=>?_)
 ·have hlt:j < m:=by have:=of_decide_eq_true hc1;omega
  refine SO ?_
  refine R.op0 (O.addrR rfl rfl rfl hR (wrow_len a m) ⟨by omega,by omega⟩ rfl) rfl ?_
  refine R.op0 (O.loadR rfl hR (wrow_len a m) (by rw [Int.toNat_natCast];exact wrow_get hlt) rfl rfl rfl) rfl ?_
  refine SO ?_
  -- the letters
  refine W.loop (X:=Nat×AV) (fun x=>[(0, .yld q),(9, .row o2 m),(10, .imm (.int .i64 m)),(11, .imm (.int .i64 j)),(5, .imm (sv (wordN (a+j)))),(6, .imm (.int .u8 ((97+x.1:Nat):Int))),(3,x.2)])
   (fun x nx G=>o2 < nx/\n0<=nx/\K G/\G o2 = .row 9 1 (wrow a m) false/\x.1<=26/\26*(a+j)+x.1 < N/\Long n0 nx o2 a (26*j+x.1) G x.2) (fun x=>26-x.1) (0,v)
   (.cons rfl (.cons rfl (.cons rfl (.cons rfl (.cons rfl (.cons rfl (.cons rfl (.nil _)))))))) ⟨by omega,by omega,hK,hR,Nat.zero_le _,by simpa using hjN,hL.frame (by omega) fun _ _ _=>rfl⟩ ?_
  rintro ⟨c,u⟩ nx G ⟨h2,h3,hK,hR,hc26,hcN,hL⟩
  dsimp only at hc26 hcN hL ⊢
  refine SO ?_
  refine W.cond rfl (fun hc2=>?_) (fun hc2=>?_)
  ·have hc':c < 26:=by have:=of_decide_eq_true hc2;omega
   refine SO ?_
   refine R.op1 (O.buildS (xs:=[.imm (.int .u8 ((97+c:Nat):Int))]) rfl rfl rfl (by decide) rfl rfl (by decide)) rfl ?_
   refine R.op0 (O.convBS (ys:=[.imm (.int .u8 ((97+c:Nat):Int))]) (bs:=[UInt8.ofNat (97+c)]) rfl rfl rfl rfl rfl ?_ ?_) rfl ?_
   ·simp [elems,upd]
   ·simp only [bytesOf,Option.map_some]
    congr 3
   refine R.op0 (O.svAdd (a:=wordN (a+j)) (b:=[UInt8.ofNat (97+c)]) rfl rfl ?_) rfl ?_
   ·have:=wordN_len (a+j)
    simp;omega
   rw [<-word_kid (a+j) c hc']
   refine SO ?_
   refine R.gen (P:=fun G nx _=>o2 < nx/\n0<=nx/\K G/\G o2 = .row 9 1 (wrow a m) false/\Long n0 nx o2 a (26*j+c) G u) ⟨by omega,by omega,hc.frame _ _ hK fun o ho=>upd_ne _ _ _ _ (by omega),(upd_ne _ _ _ _ (by omega)).trans hR,hL.frame (by omega) fun o _ ho=>upd_ne _ _ _ _ (by omega)⟩ ?_
   clear hL hR hK h3 h2
   intro G nx base ⟨h2,h3,hK,hR,hL⟩
   refine R.round rfl rfl rfl ?_
   by_cases hn:26*(a+j)+1+c=N
   ·rw [hn]
    refine (hc.last G nx hK h3).mono fun v G' nx' ⟨hv,hQ⟩=>?_
    subst hv
    refine SO ?_
    exact W.retFin rfl rfl hQ
   ·refine (hc.step _ G nx (by omega) (by omega) hK h3).mono fun v G' nx' ⟨hv,hK',hn',hG'⟩=>?_
    subst hv
    have hR':G' o2 = .row 9 1 (wrow a m) false:=(hG' o2 h1).trans hR
    have hL':Long n0 nx' o2 a (26*j+c) G' u:=hL.frame hn' fun o ho _=>hG' o ho
    have h2':o2 < nx':=by omega
    have h3':n0<=nx':=by omega
    clear hL hR hK h3 h2 hn' hG'
    refine SO ?_
    refine R.op1 (O.buildS (xs:=[.imm (sv (wordN (26*(a+j)+1+c)))]) rfl rfl rfl (by decide) rfl rfl (by decide)) rfl ?_
    rcases hL' with ⟨hz,hu⟩|⟨o,ho1,ho2,ho3,ho4,ho5,ho6⟩
    ·subst hu
     refine R.op1 (O.appNil (ys:=[.imm (sv (wordN (26*(a+j)+1+c)))]) rfl rfl rfl rfl (by simp [elems,upd]) (by decide) (by decide) rfl rfl (by simp [most])) rfl ?_
     refine R.gen (P:=fun G nx _=>o2 < nx/\n0<=nx/\K G/\G o2 = .row 9 1 (wrow a m) false/\Long n0 nx o2 a (26*j+(c+1)) G (.row (nx'+(0+1+1+1)) [AV.imm (sv (wordN (26*(a+j)+1+c)))].length)) ⟨by omega,by omega,?_,?_,?_⟩ ?_
     ·exact hc.frame _ _ hK' fun o ho=>by rw [upd_ne _ _ _ _ (by omega),upd_ne _ _ _ _ (by omega)]
     ·rw [upd_ne _ _ _ _ (by omega),upd_ne _ _ _ _ (by omega)];exact hR'
     ·refine .inr ⟨nx'+(0+1+1+1),by omega,?_,?_,?_,?_,by omega⟩
      ·simp only [List.length_cons,List.length_nil];omega
      ·omega
      ·have:26*j+(c+1)=1:=by omega
       rw [this];rfl
      ·rw [upd_same]
       have:26*j+(c+1)=1:=by omega
       rw [this]
       have:26*(a+j)+1+c=26*a+1:=by omega
       rw [this]
       rfl
     clear hR' hK' h2' h3'
     intro G nx base ⟨h2,h3,hK,hR,hL⟩
     refine SO ?_
     refine W.skipLop (c+1,_) ?_ ?_ ⟨by omega,by omega,hK,hR,by show c+1<=26;omega,by show 26*(a+j)+(c+1) < N;omega,hL.frame (by omega) fun _ _ _=>rfl⟩
     ·show 26-(c+1) < 26-c;omega
     ·exact .cons rfl (.cons rfl (.cons rfl (.cons rfl (.cons rfl (.cons rfl (.cons rfl (.nil _)))))))
    ·subst ho4
     refine R.op1 (O.appRow (xs:=wrow (26*a+1) (26*j+c)) (ys:=[.imm (sv (wordN (26*(a+j)+1+c)))]) rfl rfl rfl ((upd_ne _ _ _ _ (by omega)).trans ho5) (wrow_len _ _) rfl (by simp [elems,upd]) (by decide) (by decide) rfl rfl (by simp [most];omega)) rfl ?_
     refine R.gen (P:=fun G nx _=>o2 < nx/\n0<=nx/\K G/\G o2 = .row 9 1 (wrow a m) false/\Long n0 nx o2 a (26*j+(c+1)) G (.row o (wrow (26*a+1) (26*j+c)++[AV.imm (sv (wordN (26*(a+j)+1+c)))]).length)) ⟨by omega,by omega,?_,?_,?_⟩ ?_
     ·exact hc.frame _ _ hK' fun o ho=>by rw [upd_ne _ _ _ _ (by omega),upd_ne _ _ _ _ (by omega)]
     ·rw [upd_ne _ _ _ _ (by omega),upd_ne _ _ _ _ (by omega)];exact hR'
     ·refine .inr ⟨o,ho1,by omega,ho3,?_,?_,by omega⟩
      ·rw [List.length_append,wrow_len];rfl
      ·rw [upd_same]
       have:26*(a+j)+1+c=26*a+1+(26*j+c):=by omega
       rw [this,wrow_succ]
       rfl
     clear hR' hK' h2' h3'
     intro G nx base ⟨h2,h3,hK,hR,hL⟩
     refine SO ?_
     refine W.skipLop (c+1,_) ?_ ?_ ⟨by omega,by omega,hK,hR,by show c+1<=26;omega,by show 26*(a+j)+(c+1) < N;omega,hL.frame (by omega) fun _ _ _=>rfl⟩
     ·show 26-(c+1) < 26-c;omega
     ·exact .cons rfl (.cons rfl (.cons rfl (.cons rfl (.cons rfl (.cons rfl (.cons rfl (.nil _)))))))
  ·have hc':c=26:=by have:=of_decide_eq_false hc2;omega
   subst hc'
   refine SO ?_
   refine W.skipLop (j+1,u) ?_ ?_ ⟨by omega,by omega,hK,hR,hlt,by show 26*(a+(j+1)) < N;omega,?_⟩
   ·show m-(j+1) < m-j;omega
   ·exact .cons rfl (.cons rfl (.cons rfl (.cons rfl (.cons rfl (.nil _)))))
   ·exact hL.frame (by omega) fun _ _ _=>rfl
 ·have hge:j=m:=by have:=of_decide_eq_false hc1;omega
  subst hge
  refine SO ?_
  rcases hL with ⟨hz,hu⟩|⟨o,ho1,ho2,ho3,ho4,ho5,ho6⟩
  ·omega
  ·subst ho4
   refine W.skipLop (o,26*a+1,26*j) ?_ ?_ ⟨ho1,by show o < _;omega,by omega,hK,ho5,by show 26*a+1+26*j=26*(26*a+1)+1;omega,by show 26*(26*a+1) < N;omega⟩
   ·show N-(26*a+1) < N-a;omega
   ·exact .cons rfl (.cons rfl (.nil _))
def rng1:Code->Option (Code×Code)
 | .seq a b=>match rng1 a with
  |some x=>some x
  |none=>rng1 b
 | .block _ b | .loop b=>rng1 b
 | .rangeFunc _ _ a b=>some (a,b)
 |_=>none
noncomputable def f12R:Code×Code:=match Go.Proofs.Tryz.f53.body with
 |some b=>match rng1 b with
  |some x=>x
  |none=>(.skip, .skip)
 |none=>(.skip, .skip)
theorem ret12 (l0:List Str) (hl:l0.length<=9223372036854775807) (N:Nat) (h:First l0 N):Ret CC 53 [.lst (l0.map sv)] (sv (wordN N)):=by
 refine Ret.of (fn:=Go.Proofs.Tryz.f53) (by kernel_rfl) rfl rfl ?_
 refine W.seq (W.region ?_)
 refine R.op1 (O.box1 rfl rfl rfl rfl) rfl ?_
 refine R.op1 (O.alloc rfl rfl) rfl ?_
 refine R.done ?_
 refine W.seq (W.block ?_)
 refine W.range rfl rfl rfl rfl fun t ht=>?_
 refine (cal41 (q:=2) (n0:=4) (N:=N) (K:=fun G=>G 0 = .box [.imm (.lst (l0.map sv))] false/\G 1 = .box [.imm (.str ⟨#[]⟩)] false/\∃ t e,G 2 = .lp t Go.Proofs.Tryz.f53.ntmps [4] f12R.1 f12R.2 53 0 e/\Agree t [(1, .ptr 0 0),(2, .ptr 1 0)])
  (Q:=fun G=>G 1 = .box [.imm (sv (wordN N))] false/\∃ t,G 2 = .lp t Go.Proofs.Tryz.f53.ntmps [4] f12R.1 f12R.2 53 2 (some .ret)) ⟨?_,?_,?_⟩ h.pos h.small ⟨rfl,rfl,t,none,rfl,?_⟩).mono ?_
 ·intro G G' ⟨h0,h1,t,e,h2,ha⟩ hf
  exact ⟨(hf 0 (by omega)).trans h0,(hf 1 (by omega)).trans h1,t,e,(hf 2 (by omega)).trans h2,ha⟩
 ·intro n G nx hn1 hnN ⟨hb0,hb1,t,e,hl2,ha⟩ hnx
  have hw:=wordN_len n
  have hs:=h.small
  have hbad:=h.least n hn1 hnN
  refine Rnd.of hl2 ha rfl rfl ?_
  refine W.region ?_
  refine R.op0 (O.assign rfl) rfl ?_
  refine R.doneAst hl2 ?_
  refine W.block (W.seq (W.region ?_))
  refine R.op0 (O.move rfl) rfl ?_
  refine R.op0 (O.call rfl rfl (ret10 (wordN n) (by omega))) rfl ?_
  refine SO ?_
  have fin:∀ {l:Env} {nx':Nat},nx<=nx'->W CC 53 Go.Proofs.Tryz.f53.ntmps .skip l (upd G 2 (.lp t Go.Proofs.Tryz.f53.ntmps [4] f12R.1 f12R.2 53 1 e)) nx' [] .rnd
    (frd 2 fun v G' nx'=>v = .imm (.bool true)/\(G' 0 = .box [.imm (.lst (l0.map sv))] false/\G' 1 = .box [.imm (.str ⟨#[]⟩)] false/\∃ t e,G' 2 = .lp t Go.Proofs.Tryz.f53.ntmps [4] f12R.1 f12R.2 53 0 e/\Agree t [(1, .ptr 0 0),(2, .ptr 1 0)])/\nx<=nx'/\∀ o,4<=o->G' o=G o):=by
   intro l nx' hx
   refine W.skipFrd (upd_same _ _ _) ⟨rfl,⟨?_,?_,t,none,upd_same _ _ _,ha⟩,hx,fun o ho=>?_⟩
   ·rw [upd_ne _ _ _ _ (by omega),upd_ne _ _ _ _ (by omega)];exact hb0
   ·rw [upd_ne _ _ _ _ (by omega),upd_ne _ _ _ _ (by omega)];exact hb1
   ·rw [upd_ne _ _ _ _ (by omega),upd_ne _ _ _ _ (by omega)]
  refine R.guardC1 rfl rfl rfl (fun h1=>?_) (fun h1=>?_)
  ·refine R.op0 (O.loadB rfl ((upd_ne _ _ _ _ (by omega)).trans hb0) rfl rfl) rfl ?_
   refine SO ?_
   refine R.op0 (O.call rfl rfl (ret42 l0 (wordN n) hl)) rfl ?_
   refine SO ?_
   refine W.cond rfl (fun h2=>?_) (fun h2=>?_)
   ·rw [good,h1,h2] at hbad;cases hbad
   ·refine SO ?_
    exact fin (by omega)
  ·refine SO ?_
   exact fin (by omega)
 ·intro G nx ⟨hb0,hb1,t,e,hl2,ha⟩ hnx
  have hw:=wordN_len N
  have hs:=h.small
  have hgood:=h.good
  rw [good,Bool.and_eq_true] at hgood
  refine Rnd.of hl2 ha rfl rfl ?_
  refine W.region ?_
  refine R.op0 (O.assign rfl) rfl ?_
  refine R.doneAst hl2 ?_
  refine W.block (W.seq (W.region ?_))
  refine R.op0 (O.move rfl) rfl ?_
  refine R.op0 (O.call rfl rfl (ret10 (wordN N) (by omega))) rfl ?_
  have h1:=hgood.1
  have h2:=hgood.2
  refine SO ?_
  refine R.op0 (O.call rfl rfl (ret42 l0 (wordN N) hl)) rfl ?_
  refine SO ?_
  refine R.opN1 (O.storeB rfl rfl ((upd_ne _ _ _ _ (by omega)).trans hb1) rfl rfl rfl) ?_
  refine SO ?_
  refine W.retFrd ((upd_ne _ _ _ _ (by omega)).trans (upd_same _ _ _)) ⟨rfl,?_,t,upd_same _ _ _⟩
  rw [upd_ne _ _ _ _ (by omega),upd_same]
 ·exact ht.sub (.cons rfl (.cons rfl (.nil _)))
 ·intro v G' nx' ⟨h1,t2,h2⟩
  refine ⟨_,_,_,_,_,_,_,_,h2,by decide,?_⟩
  have hW:W CC 53 Go.Proofs.Tryz.f53.ntmps .ret [(1, .ptr 0 0),(2, .ptr 1 0)] (upd G' 2 .gone) nx' [] .no (fin CC [.cell 2 9] fun v G x=>∃ ids,peek G pkDepth v=some (sv (wordN N),ids)):=
   W.retFinC (o:=1) rfl ((upd_ne _ _ _ _ (by omega)).trans h1) rfl rfl ⟨[],rfl⟩
  exact hW.retI t fun i v hv=>ht i v (by
   have:=(Sub.cons rfl (Sub.cons rfl (Sub.nil _)):Sub [(1, .ptr 0 0),(2, .ptr 1 0)] ((2,AV.ptr (0+(0+1)) 0)::(1,AV.ptr (0+0) 0)::envOf 0 (List.map AV.imm [IV.lst (List.map sv l0)])))
   exact this i v hv)
end Go.Abs

/- Names: there is one that is none of some. -/
open Go Go.Abs
namespace Go.Abs
theorem wordN_zero:wordN 0=[]:=by rw [wordN]
theorem wordN_inj:∀ n m,wordN n=wordN m->n=m:=by
 intro n
 induction n using Nat.strongRecOn with
 |_ n ih=>
  intro m h
  cases n with
  |zero=>
   cases m with
   |zero=>rfl
   |succ m=>rw [wordN_zero,wordN_succ] at h;simp at h
  |succ n=>
   cases m with
   |zero=>rw [wordN_zero,wordN_succ] at h;simp at h
   |succ m=>
    rw [wordN_succ,wordN_succ] at h
    have h1:=List.append_inj_left' h rfl
    have h2:=List.append_inj_right' h rfl
    have h3:=ih (n / 26) (by omega) _ h1
    have h4:n % 26=m % 26:=by
     have:=congrArg UInt8.toNat (List.cons.inj h2).1
     simp only [UInt8.toNat_ofNat'] at this
     omega
    omega
theorem wordN_short:∀ k n,n < 26 ^ k->(wordN n).length<=k
 |0,n,h=>by
  have:n=0:=by simpa using h
  rw [this,wordN_zero];simp
 |k+1,n,h=>by
  cases n with
  |zero=>rw [wordN_zero];simp
  |succ n=>
   rw [wordN_succ]
   have:=wordN_short k (n / 26) (by rw [Nat.pow_succ] at h;omega)
   simp;omega
theorem wordN_low:∀ n,lows (wordN n)=true:=by
 intro n
 induction n using Nat.strongRecOn with
 |_ n ih=>
  cases n with
  |zero=>rw [wordN_zero];rfl
  |succ n=>
   have h:=ih (n / 26) (by omega)
   have hc:∀ r,r < 26->okc (UInt8.ofNat (97+r))=true:=by decide
   rw [wordN_succ]
   unfold lows at h ⊢
   rw [List.all_append,h,List.all_cons,hc _ (Nat.mod_lt _ (by omega))]
   rfl
theorem name_word {n:Nat} (h1:1<=n) (h:n < 26 ^ 8):nameOk (wordN n) = !kws.contains (wordN n):=by
 have h2:=wordN_short 8 n h
 have h3:0 < (wordN n).length:=by
  cases n with
  |zero=>omega
  |succ n=>rw [wordN_succ];simp
 rw [nameOk,wordN_low,decide_eq_true h3,decide_eq_true h2]
 simp
theorem nodup_len:∀ (a b:List Str),a.Nodup->(∀ x∈a,x∈b)->a.length<=b.length
 |[],_,_,_=>Nat.zero_le _
 |x::r,b,hn,hs=>by
  rw [List.nodup_cons] at hn
  have hx:=hs x (by simp)
  have h1:=nodup_len r (b.erase x) hn.2 (fun y hy=>by
   have hne:y≠x:=fun e=>hn.1 (e▸hy)
   exact (List.mem_erase_of_ne hne).2 (hs y (by simp [hy])))
  rw [List.length_erase_of_mem hx] at h1
  have:=List.length_pos_of_mem hx
  simp
  omega
theorem least_of {p:Nat->Bool}:∀ n,p n=true->1<=n->∃ m,1<=m/\m<=n/\p m=true/\∀ k,1<=k->k < m->p k=false:=by
 intro n
 induction n using Nat.strongRecOn with
 |_ n ih=>
  intro h hn
  by_cases hk:∃ k,1<=k/\k < n/\p k=true
  ·obtain ⟨k,h1,h2,h3⟩:=hk
   obtain ⟨m,a,b,c⟩:=ih k h2 h3 h1
   exact ⟨m,a,by omega,c⟩
  ·exact ⟨n,hn,Nat.le_refl _,h,fun k h1 h2=>by
    cases e:p k with
    |false=>rfl
    |true=>exact absurd ⟨k,h1,h2,e⟩ hk⟩
theorem exists_first (l:List Str) (hl:l.length<=1048576):∃ N,First l N:=by
 have key:∃ n,1<=n/\n<=l.length+35/\good l n=true:=by
  refine Classical.byContradiction fun hno=>?_
  have h:∀ n,1<=n->n<=l.length+35->wordN n∈kws++l:=by
   intro n h1 h2
   have hg:good l n=false:=by
    cases e:good l n with
    |false=>rfl
    |true=>exact absurd ⟨n,h1,h2,e⟩ hno
   rw [good,name_word h1 (by omega)] at hg
   rw [List.mem_append]
   cases hk:kws.contains (wordN n) with
   |true=>exact .inl (by simpa using hk)
   |false=>
    rw [hk] at hg
    exact .inr (by simpa using hg)
  have h2:=nodup_len ((List.range (l.length+35)).map fun i=>wordN (i+1)) (kws++l) (by
   rw [List.nodup_iff_pairwise_ne,List.pairwise_map]
   refine List.Pairwise.imp ?_ (List.nodup_iff_pairwise_ne.1 List.nodup_range)
   intro a b hab e
   have:=wordN_inj _ _ e
   omega) (by
   intro x hx
   simp only [List.mem_map,List.mem_range] at hx
   obtain ⟨i,hi,rfl⟩:=hx
   exact h (i+1) (by omega) (by omega))
  have hk:kws.length=34:=rfl
  simp only [List.length_map,List.length_range,List.length_append,hk] at h2
  omega
 obtain ⟨n,h1,h2,h3⟩:=key
 obtain ⟨m,a,b,c,d⟩:=least_of (p:=good l) n h3 h1
 exact ⟨m,a,c,d,by omega⟩
end Go.Abs

/- TermNames: the law. -/
open Go Go.Abs
namespace Go.Abs
set_option maxRecDepth 100000
set_option maxHeartbeats 2000000
theorem O.callP {C:Cfg} {l:Env} {G:Nat->Obj} {nx:Nat} {df:List (AV×List AV)} {pk:Pk} {id:Nat} {f:FuncId} {ar:List Operand} {ats:Array TypeId} {vs:List AV} {ivs:List IV} {ids:List Nat} {x:IV} [hf:FnIs C f] (ha:looks l ar=some vs) (hi:peeks G vs=some (ivs,ids)) (hr:Ret C f ivs x) (hx:x.scalar=true) :
  OpV C id l G nx df pk (.call { callee := .value (.func f),args:=⟨ar⟩,argTypes:=ats }) (.imm x) []:=by
 obtain ⟨n,v,G',nx',pk',ids,h1,h2⟩:=hr
 refine ⟨fun t ht=>⟨n,?_⟩⟩
 simp only [opA,ev,aCall,fnOf,List.map_nil,List.append_nil,callA,hf.byref,Bool.false_eq_true,if_false,ht.evs ha,hi,hf.orc,h1,h2,hx,give,if_true]
end Go.Abs

/- Programs with other names: the names, and expressions. -/
open Go Go.Abs
namespace Go.Abs
set_option maxRecDepth 100000
set_option maxHeartbeats 4000000
instance fnis77:FnIs CC 54:=⟨rfl,fun _=>rfl⟩
instance fnis99:FnIs CC 113:=⟨rfl,fun _=>rfl⟩
open Classical in
/-- The first name that is none of some. -/
noncomputable def freshOf (l:List Str):Str:=if h:l.length<=1048576 then wordN (Classical.choose (exists_first l h)) else []
theorem ret12f {l:List Str} (h:l.length<=1048576):Ret CC 53 [.lst (l.map sv)] (sv (freshOf l)):=by
 unfold freshOf
 rw [dif_pos h]
 exact ret12 l (by omega) _ (Classical.choose_spec (exists_first l h))
noncomputable def canonL:Nat->List Str
 |0=>[]
 |n+1=>canonL n++[freshOf (canonL n)]
theorem canonL_len:∀ n,(canonL n).length=n
 |0=>rfl
 |n+1=>by rw [canonL,List.length_append,canonL_len n];rfl
theorem canonL_take:∀ {n i:Nat},i<=n->(canonL n).take i=canonL i
 |0,i,h=>by
         obtain rfl:i=0:=by omega
         rfl
 |n+1,i,h=>by
  by_cases he:i=n+1
  ·subst he
   exact List.take_of_length_le (by rw [canonL_len];omega)
  ·rw [canonL,List.take_append_of_le_length (by rw [canonL_len];omega),canonL_take (by omega)]
theorem canonL_at {n i:Nat} (h:i < n):(canonL n)[i]? = some (freshOf (canonL i)):=by
 have h1:(canonL (i+1))[i]? = some (freshOf (canonL i)):=by
  rw [canonL,List.getElem?_append_right (by rw [canonL_len];omega),canonL_len];simp
 rw [<-canonL_take (n:=n) (i:=i+1) (by omega),List.getElem?_take] at h1
 simpa using h1
mutual
/-- An expression with other names. -/
def renE (to:Str->Str):Exp->Exp
 | .mk op name n fold calcs kids => .mk op (to name) n fold calcs (renL to kids)
def renL (to:Str->Str):List Exp->List Exp
 |[]=>[]
 |e::r=>renE to e::renL to r
end
theorem renL_map (to:Str->Str):∀ l,renL to l=l.map (renE to)
 |[]=>by rw [renL];rfl
 |e::r=>by rw [renL,renL_map to r];rfl
theorem peek_fn1 {G:Nat->Obj} {f:Fn} {q1:Nat} {cs1:List IV} {fr1:Bool} (h1:G q1 = .box (cs1.map .imm) fr1) :
  Go.Abs.peek G pkDepth (.fn f [.ptr q1 0])=some (.fn f [.fptr cs1 0],[q1]):=by
 have hp:∀ x,Go.Abs.peek G 98 (.imm x)=some (x,[]):=fun x=>rfl
 have hb:∀ {q:Nat} {cs:List IV} {fr:Bool},G q = .box (cs.map .imm) fr->Go.Abs.peek G 99 (.ptr q 0)=some (.fptr cs 0,[q]):=by
  intro q cs fr h
  show Go.Abs.peek G (98+1) _=_
  unfold Go.Abs.peek
  rw [h]
  dsimp only
  rw [peekL_imm hp]
 show Go.Abs.peek G (99+1) _=_
 unfold Go.Abs.peek
 rw [peekL,hb h1,peekL]
 rfl
theorem allEs_mem {kids:List Exp} {c x:Exp} (h:c∈kids) (hx:x∈allE c):x∈allEs kids:=by
 induction kids with
 |nil=>cases h
 |cons k r ih=>
  rw [allEs,List.mem_append]
  rcases List.mem_cons.1 h with rfl|h
  ·exact .inl hx
  ·exact .inr (ih h)
def ToIs (ks vs:List IV) (to:Str->Str) (s:Str):Prop:=(s=[]->to s=[])/\(s≠[]->lookIs (some ty9) (some ty9) (some (ks,vs.map .imm)) (sv s) false (.imm (sv (to s))))
theorem ret99 {c:Exp} {ks vs:List IV} {to:Str->Str} (h:Ret CC 54 [c.iv, .fmp ks vs] (renE to c).iv):Ret CC 113 [c.iv, .fptr [.fmp ks vs] 0] (renE to c).iv:=by
 generalize renE to c=r at *
 obtain ⟨o'',s'',m'',f'',c'',k''⟩:=c
 obtain ⟨o3,s3,m3,f3,c3,k3⟩:=r
 refine Ret.of (fn:=Go.Proofs.Tryz.f113) (by kernel_rfl) rfl rfl ?_
 refine AA ?_
 exact W.retFinCA rfl rfl rfl rfl ⟨[],rfl⟩
theorem ret77 {e:Exp} {ks vs:List IV} {to:Str->Str} (h:e.Sm):(∀ x∈allE e,ToIs ks vs to x.name)->Ret CC 54 [e.iv, .fmp ks vs] (renE to e).iv:=by
 induction h with
 |mk op name n fold calcs kids hc hk hcs hks ih=>
 intro hto
 rw [allE] at hto
 rw [renE,renL_map]
 have h92:=ret92 (g:=renE to) (cap:=[.fptr [.fmp ks vs] 0]) fnis99 kids hk fun c h=>ret99 (ih c h fun x hx=>hto x (List.mem_cons_of_mem _ (allEs_mem h hx)))
 have h90:=ret90 (g:=id) (cap:=[]) fnis91 calcs hc fun c h=>ret91 (hcs c h)
 rw [List.map_id] at h90
 have hn:=hto _ (List.mem_cons_self ..)
 obtain ⟨hn1,hn2⟩:=hn
 simp only [Exp.name] at hn1 hn2
 generalize kids.map (renE to)=ks' at *
 generalize to name=nm at *
 refine Ret.of (fn:=Go.Proofs.Tryz.f54) (by kernel_rfl) rfl rfl ?_
 rcases Bool.eq_false_or_eq_true (!(name==[])) with hA|hA
 ·have hA':name≠[]:=by rintro rfl;simp at hA
  have hn:=hn2 hA'
  refine AA ?_
  refine R.opU (O.callFz (ids:=[1]) rfl (peeks2 (peek_fn1 (fr1:=false) (cs1:=[.fmp ks vs]) rfl)) h92 rfl) rfl ?_
  refine AA ?_
  exact W.retFinCA rfl rfl rfl rfl ⟨[],rfl⟩
 ·have hA':name=[]:=by simpa using hA
  subst hA'
  have hn:=hn1 rfl
  subst hn
  refine AA ?_
  refine R.opU (O.callFz (ids:=[1]) rfl (peeks2 (peek_fn1 (fr1:=false) (cs1:=[.fmp ks vs]) rfl)) h92 rfl) rfl ?_
  refine AA ?_
  exact W.retFinCA rfl rfl rfl rfl ⟨[],rfl⟩
end Go.Abs

/- Expressions with other names, as the reference makes them. -/
open Go Go.Abs
namespace Go.Abs
set_option maxRecDepth 100000
set_option maxHeartbeats 4000000
def toR (old now:List Str) (s:Str):Str:=if old.contains s then now.getD (idxN old s) [] else s
end Go.Abs

/- Programs with other names, as the reference makes them. -/
open Go Go.Abs
namespace Go.Abs
set_option maxRecDepth 100000
set_option maxHeartbeats 4000000
def oldN (p:Pgm):List Str:=p.srcs++p.defs.map Dfn.name
def renD (to:Str->Str) (d:Dfn):Dfn:=⟨to d.name,renE to d.exp⟩
noncomputable def toC (p:Pgm):Str->Str:=toR (oldN p) (canonL (oldN p).length)
noncomputable def canonP (p:Pgm):Pgm:=⟨canonL p.srcs.length,p.defs.map (renD (toC p))⟩
theorem oldN_len (p:Pgm):(oldN p).length=p.srcs.length+p.defs.length:=by unfold oldN;simp
theorem toC_at {p:Pgm} (hn:(oldN p).Nodup) {i:Nat} {s:Str} (hi:(oldN p)[i]? = some s):toC p s=freshOf (canonL i):=by
 have hlt:=(List.getElem?_eq_some_iff.1 hi).1
 unfold toC toR
 rw [if_pos (by simpa using List.mem_iff_getElem?.2 ⟨i,hi⟩),idxN_at hn hi,List.getD_eq_getElem?_getD,canonL_at hlt]
 rfl
theorem toC_def {p:Pgm} (hn:(oldN p).Nodup) {i:Nat} {d:Dfn} (hi:p.defs[i]? = some d):(canonL (oldN p).length)[p.srcs.length+i]? = some (toC p d.name):=by
 have hlt:=(List.getElem?_eq_some_iff.1 hi).1
 have h1:(oldN p)[p.srcs.length+i]? = some d.name:=by
  unfold oldN
  rw [List.getElem?_append_right (by omega),Nat.add_sub_cancel_left,List.getElem?_map,hi];rfl
 rw [toC_at hn h1,canonL_at (by rw [oldN_len];omega)]
noncomputable def canonR (p:Pgm):Pgm×Int:=if progR p then (canonP p,0) else (⟨[],[]⟩,2)
theorem progR_parts {p:Pgm} (h:progR p=true):(oldN p).Nodup/\(1<=p.srcs.length/\p.srcs.length<=4)/\p.defs.length<=6/\(∀ d∈p.defs,d.exp.Sm)/\(∀ s∈oldN p,nameOk s=true)/\∀ i d,p.defs[i]? = some d->∀ x∈allE d.exp,NodeIs p.srcs (p.defs.map Dfn.name) i x:=by
 have hc:=progR_count h
 obtain ⟨h1,h2,h3,h4⟩:=countR_parts hc
 rw [h3] at h2 h4
 exact ⟨diff_nodup h2,⟨h1.1,h1.2.1⟩,h1.2.2,countR_sm hc,fun s hs=>diff_mem h2 hs,h4⟩
end Go.Abs

/- The lags of a formed program: its groups, one after the other; when a round changes nothing, all are done. -/
open Go Go.Abs
namespace Go.Abs
set_option maxRecDepth 100000
theorem NodeIs.nodeB {srcs defs:List Str} {ahead:Nat} {x:Exp} (h:NodeIs srcs defs ahead x):NodeB x/\(x.op=2\/x.op=3->0<=x.n/\x.name∈defs)/\(x.op=1->x.name∈srcs):=by
 obtain ⟨s,h1,h2⟩:=h
 unfold headIs at h2
 simp only [Bool.and_eq_true,beq_iff_eq,inR,decide_eq_true_eq] at h2
 obtain ⟨⟨⟨⟨⟨_,h4⟩,_⟩,h6⟩,_⟩,h8⟩:=h2
 rcases ops15 x.op with h|h|h|h|h|h|h|h|h|h|h|h|h|h|h|h
 case inr.inr.inr.inr.inr.inr.inr.inr.inr.inr.inr.inr.inr.inr.inr=>
  obtain ⟨n1,n2,n3,n4,n5,n6,n7,n8,n9,n10,n11,n12,n13,n14,n15⟩:=h
  simp [shapeR,n1,n2,n3,n4,n5,n6,n7,n8,n9,n10,n11,n12,n13,n14,n15] at h1
 all_goals
  simp [shapeR,h] at h1
  subst h1
  simp only at h4 h6
  refine ⟨⟨by omega,by omega,by omega⟩,fun hop=>⟨by omega,?_⟩,fun hop=>?_⟩
  all_goals first|(exfalso;omega)|skip
  all_goals
   unfold nameIs at h8
   rw [h] at h8
   simp at h8
   first|exact h8|exact List.mem_of_mem_take h8
theorem expAt_at {p:Pgm} {d:Nat} {x:Dfn} (h:p.defs[d]? = some x):expAt p d=x.exp:=by unfold expAt;rw [h]
theorem progR_node {p:Pgm} (h:progR p=true) {d:Nat} (hd:d < p.defs.length):∀ x∈allE (expAt p d),NodeIs p.srcs (p.defs.map Dfn.name) d x:=by
 obtain ⟨x,hx⟩:=at_lt hd
 rw [expAt_at hx]
 exact (progR_parts h).2.2.2.2.2 d x hx
theorem progR_small {p:Pgm} (h:progR p=true):Small p where
 len:=(progR_parts h).2.2.1
 srcs:=(progR_parts h).2.1.2
 cnt:=fun d=>by
  cases hd:p.defs[d]? with
  |none=>unfold expAt;rw [hd];simp [allE,allEs]
  |some x=>
   rw [expAt_at hd]
   have:=(progR_good h).size x (List.mem_of_getElem? hd);omega
 node:=fun d hd x hx=>(progR_node h hd x hx).nodeB.1
section
variable {tos:List (List Nat)}
theorem order_apart:∀ (f:Nat) {done:List Nat},DoneIs tos done->(done++(orderTo tos f done).flatten).Nodup
 |0,done,h=>by rw [orderTo,List.flatten_nil,List.append_nil];exact h.nodup
 |f+1,done,h=>by
  rw [orderTo]
  cases hn:nextR tos done with
  |none=>simp only [List.flatten_nil,List.append_nil];exact h.nodup
  |some d=>
   have h1:=next_inv hn
   have:=order_apart f (h.step h1.1 ((ready_iff.1 h1.2.1).1))
   simp only [List.flatten_cons]
   rwa [<-List.append_assoc]
theorem order_is:∀ (f:Nat) {done:List Nat},∀ g∈orderTo tos f done,∃ d,d < tos.length/\g=grpR tos d
 |0,_,g,h=>by cases h
 |f+1,done,g,h=>by
  rw [orderTo] at h
  cases hn:nextR tos done with
  |none=>rw [hn] at h;cases h
  |some d=>
   rw [hn] at h
   rcases List.mem_cons.1 h with rfl|h
   ·exact ⟨d,(next_inv hn).1,rfl⟩
   ·exact order_is f g h
theorem order_len:∀ (f:Nat) {done:List Nat},(orderTo tos f done).length<=f
 |0,_=>by rw [orderTo];exact Nat.le_refl _
 |f+1,done=>by
  rw [orderTo]
  cases nextR tos done with
  |none=>exact Nat.zero_le _
  |some d=>exact Nat.succ_le_succ (order_len f)
structure GrpIs (tos:List (List Nat)) (g:List Nat):Prop where
 lt:∀ d∈g,d < tos.length
 ne:∃ f r,g=f::r
 nodup:g.Nodup
 ring:∀ d∈g,reachB tos d d=ringB tos g
 alone:ringB tos g=false->∃ d,g=[d]
theorem order_grp {g:List Nat} (h:g∈orderR tos):GrpIs tos g:=by
 obtain ⟨d,hd,rfl⟩:=order_is _ g h
 obtain ⟨f,r,hfr⟩:∃ f r,grpR tos d=f::r:=by
  cases hg:grpR tos d with
  |nil=>have:=grp_self hd;rw [hg] at this;cases this
  |cons f r=>exact ⟨f,r,rfl⟩
 have hring:∀ k∈grpR tos d,reachB tos k k=reachB tos d d:=fun k hk=>by
  obtain ⟨_,h⟩:=(mem_grp hd).1 hk
  rcases h with rfl|⟨h1,h2⟩
  ·rfl
  ·rw [reachB_iff.2 (h1.trans h2),reachB_iff.2 (h2.trans h1)]
 have hr:ringB tos (grpR tos d)=reachB tos d d:=by
  rw [<-hring f (hfr▸List.mem_cons_self ..),hfr];rfl
 refine ⟨fun k hk=>grp_lt hk,⟨f,r,hfr⟩,grp_nodup d,fun k hk=>by rw [hr];exact hring k hk,fun h=>?_⟩
 rw [hr] at h
 exact ⟨d,grp_alone hd fun hc=>by rw [reachB_iff.2 hc] at h;cases h⟩
end
theorem grp_end {p:Pgm} (hp:progR p=true) {g:List Nat} (hg:GrpIs (tosR p) g) {D:List (List Lg)} (hD:Wide p D) (h0:∀ d∈g,∀ s,colD D s d=Lg.z) {m n:Nat} (hm:g.length<=m) (hn:g.length<=n) :
  rndsL p (ringB (tosR p) g) g m D=rndsL p (ringB (tosR p) g) g n D:=by
 have hgd:=progR_good hp
 have htl:(tosR p).length=p.defs.length:=hgd.steps.2.1
 cases hr:ringB (tosR p) g with
 |true=>
  refine ring_end (fun d hd=>by rw [<-htl];exact hg.lt d hd) (fun d hd x hx=>⟨?_,fun hop=>?_⟩) hD h0 hm hn
  ·have hdl:d < p.defs.length:=by rw [<-htl];exact hg.lt d hd
   have h1:=(progR_eq (progR_count hp)).1 hp d hdl (reachB_iff.1 (by rw [hg.ring d hd,hr]))
   obtain ⟨y,hy⟩:=at_lt hdl
   rw [expAt_at hy] at hx
   unfold foreAt at h1
   rw [hy] at h1
   simp only at h1
   unfold aheadE at h1
   rw [List.any_eq_false] at h1
   simpa using h1 x hx
  ·exact ((progR_node hp (by rw [<-htl];exact hg.lt d hd) x hx).nodeB.2.1 hop).1
 |false=>
  obtain ⟨d,rfl⟩:=hg.alone hr
  have hdl:d < p.defs.length:=by rw [<-htl];exact hg.lt d (List.mem_cons_self ..)
  have hx:∀ x∈allE (expAt p d),x.op=2\/x.op=3->idxN (p.defs.map Dfn.name) x.name≠d:=fun x hx hop he=>by
   have hnr:reachB (tosR p) d d=false:=by rw [hg.ring d (List.mem_cons_self ..),hr]
   refine Bool.false_ne_true (hnr.symm.trans (reachB_iff.2 (.one ?_)))
   obtain ⟨y,hy⟩:=at_lt hdl
   rw [hgd.tos.at' d y hy]
   unfold stepsN
   rw [List.mem_map]
   refine ⟨x,List.mem_filter.2 ⟨by rwa [expAt_at hy] at hx,?_⟩,?_⟩
   ·unfold namesDef
    rcases hop with h|h<;>rw [h]<;>rfl
   ·rw [(countR_parts (progR_count hp)).2.2.1];exact he
  simp only [List.length_cons,List.length_nil] at hm hn
  rw [one_end hdl hx hD hm,one_end hdl hx hD hn]
theorem grp_still {p:Pgm} (hp:progR p=true) {g:List Nat} (hg:GrpIs (tosR p) g) {D:List (List Lg)} (hD:Wide p D) (h0:∀ d∈g,∀ s,colD D s d=Lg.z) {r n:Nat} (hn:g.length<=n)
  (h:rndL p (ringB (tosR p) g) g (rndsL p (ringB (tosR p) g) g r D)=rndsL p (ringB (tosR p) g) g r D):rndsL p (ringB (tosR p) g) g r D=rndsL p (ringB (tosR p) g) g n D:=by
 have h1:=rnds_still h (m:=max r n) (by omega)
 rw [<-h1]
 exact grp_end hp hg hD h0 (by omega) hn
theorem grp_must {p:Pgm} (hp:progR p=true) {g:List Nat} (hg:GrpIs (tosR p) g) {D:List (List Lg)} (hD:Wide p D) (h0:∀ d∈g,∀ s,colD D s d=Lg.z) {r:Nat} (hr:g.length<=r) :
  rndL p (ringB (tosR p) g) g (rndsL p (ringB (tosR p) g) g r D)=rndsL p (ringB (tosR p) g) g r D:=by
 rw [show rndL p (ringB (tosR p) g) g (rndsL p (ringB (tosR p) g) g r D)=rndsL p (ringB (tosR p) g) g (r+1) D from rfl]
 exact grp_end hp hg hD h0 (by omega) hr
end Go.Abs

/- Lags are ordered; what makes them, keeps the order. -/
open Go Go.Abs
namespace Go.Abs
set_option maxRecDepth 100000
structure Lg.Le (a b:Lg):Prop where
 on:a.on=true->b.on=true
 ever:a.on=true->a.ever=true->b.ever=true
 back:a.on=true->b.ever=false->a.back<=b.back
 ahead:a.on=true->a.ahead<=b.ahead
theorem Lg.Le.z (a:Lg):Lg.z.Le a:=⟨(fun h=>by cases h),(fun h=>by cases h),(fun h=>by cases h),(fun h=>by cases h)⟩
theorem Lg.Le.refl (a:Lg):a.Le a:=⟨fun h=>h,fun _ h=>h,fun _ _=>Int.le_refl _,fun _=>Int.le_refl _⟩
theorem Lg.Le.trans {a b c:Lg} (h:a.Le b) (k:b.Le c):a.Le c where
 on:=fun o=>k.on (h.on o)
 ever:=fun o e=>k.ever (h.on o) (h.ever o e)
 back:=fun o e=>by
  have hb:b.ever=false:=by
   cases hbe:b.ever with
   |false=>rfl
   |true=>rw [k.ever (h.on o) hbe] at e;cases e
  exact Int.le_trans (h.back o hb) (k.back (h.on o) e)
 ahead:=fun o=>Int.le_trans (h.ahead o) (k.ahead (h.on o))
theorem Lg.Le.anti {a b:Lg} (ha:a.Ok) (hb:b.Ok) (h:a.Le b) (k:b.Le a):a=b:=by
 cases hao:a.on with
 |false=>
  have hbo:b.on=false:=by
   cases hbo:b.on with
   |false=>rfl
   |true=>rw [k.on hbo] at hao;cases hao
  rw [ha.none hao,hb.none hbo]
 |true=>
  have hbo:=h.on hao
  have he:a.ever=b.ever:=by
   cases hae:a.ever with
   |true=>rw [h.ever hao hae]
   |false=>
    cases hbe:b.ever with
    |false=>rfl
    |true=>rw [k.ever hbo hbe] at hae;cases hae
  have h4:a.ahead=b.ahead:=Int.le_antisymm (h.ahead hao) (k.ahead hbo)
  have h3:a.back=b.back:=by
   cases hae:a.ever with
   |true=>rw [ha.back hae,hb.back (he▸hae)]
   |false=>exact Int.le_antisymm (h.back hao (he▸hae)) (k.back hbo hae)
  obtain ⟨ao,ae,ab,ah⟩:=a
  obtain ⟨bo,be,bb,bh⟩:=b
  simp only at *
  subst hao hbo he h3 h4
  rfl
theorem Lg.both_on {a b:Lg}:(a.both b).on=(a.on||b.on):=by
 unfold Lg.both
 cases h:a.on<;>cases k:b.on<;>simp [h,k]
theorem Lg.Le.both {a b c d:Lg} (h:a.Le c) (k:b.Le d):(a.both b).Le (c.both d):=by
 obtain ⟨h1,h2,h3,h4⟩:=h
 obtain ⟨k1,k2,k3,k4⟩:=k
 obtain ⟨ao,ae,ab,aa⟩:=a
 obtain ⟨bo,be,bb,ba⟩:=b
 obtain ⟨co,ce,cb,ca⟩:=c
 obtain ⟨eo,ee,eb,ea⟩:=d
 simp only [Lg.both,mxI_eq] at *
 cases ao<;>cases bo<;>cases co<;>cases eo<;>simp at * <;> constructor<;>simp<;>cases ae<;>cases be<;>cases ce<;>cases ee<;>simp at * <;> omega
theorem Lg.Le.thru {a b:Lg} (h:a.Le b) (ev:Bool) (bk ah:Int):(a.thru ev bk ah).Le (b.thru ev bk ah):=by
 obtain ⟨h1,h2,h3,h4⟩:=h
 obtain ⟨ao,ae,ab,aa⟩:=a
 obtain ⟨bo,be,bb,ba⟩:=b
 simp only [Lg.thru] at *
 cases ao<;>cases bo<;>simp at * <;> constructor<;>simp<;>cases ae<;>cases be<;>cases ev<;>simp at * <;> omega
theorem Lg.Le.kid {a b:Lg} (h:a.Le b) (op n:Int) (i:Nat):(kidL op n i a).Le (kidL op n i b):=by
 unfold kidL
 repeat' split
 all_goals first|exact h.thru _ _ _|exact h
theorem Lg.Le.ring {a b:Lg} (h:a.Le b) (r:Bool):(ringL r a).Le (ringL r b):=by
 unfold ringL
 cases r
 ·exact h
 ·exact h.thru _ _ _
mutual
theorem expG_le (srcs names:List Str) {u v:Nat->Lg} (s:Nat):∀ e,(∀ x∈allE e,x.op=2\/x.op=3->(u (idxN names x.name)).Le (v (idxN names x.name)))->(expG srcs names u s e).Le (expG srcs names v s e)
 | .mk op name n fold calcs kids,h=>by
  rw [expG,expG]
  split
  ·exact .refl _
  ·split
   ·rename_i ho
    exact (h (.mk op name n fold calcs kids) (by rw [allE];exact List.mem_cons_self ..) ho).thru _ _ _
   ·exact kidsG_le srcs names s op n kids 0 (fun x hx=>h x (by rw [allE];exact List.mem_cons_of_mem _ hx)) (.refl _)
theorem kidsG_le (srcs names:List Str) {u v:Nat->Lg} (s:Nat) (op n:Int):∀ (l:List Exp) (i:Nat) {a b:Lg},(∀ x∈allEs l,x.op=2\/x.op=3->(u (idxN names x.name)).Le (v (idxN names x.name)))->a.Le b->(kidsG srcs names u s op n l i a).Le (kidsG srcs names v s op n l i b)
 |[],_,_,_,_,k=>by rw [kidsG,kidsG];exact k
 |x::r,i,_,_,h,k=>by
  rw [kidsG,kidsG]
  exact kidsG_le srcs names s op n r (i+1) (fun y hy=>h y (by rw [allEs];exact List.mem_append_right _ hy)) (k.both ((expG_le srcs names s x fun y hy=>h y (by rw [allEs];exact List.mem_append_left _ hy)).kid op n i))
end
structure Above (p:Pgm) (S:Nat->Prop) (u:Nat->Nat->Lg):Prop where
 refs:∀ d,d < p.defs.length->S d->∀ x∈allE (expAt p d),x.op=2\/x.op=3->S (idxN (p.defs.map Dfn.name) x.name)
 le:∀ s,s < p.srcs.length->∀ d,d < p.defs.length->S d->(ringL (reachB (tosR p) d d) (expG p.srcs (p.defs.map Dfn.name) (u s) s (expAt p d))).Le (u s d)
def Below' (p:Pgm) (S:Nat->Prop) (u:Nat->Nat->Lg) (D:List (List Lg)):Prop:=∀ s,s < p.srcs.length->∀ d,S d->(colD D s d).Le (u s d)
theorem Below'.set {p:Pgm} {S:Nat->Prop} {u:Nat->Nat->Lg} (hu:Above p S u) {D:List (List Lg)} (hD:Wide p D) (h:Below' p S u D) {d:Nat} (hd:d < p.defs.length) {ring:Bool} (hr:reachB (tosR p) d d=ring):Below' p S u (setL p ring D d):=fun s hs e hS=>by
 rw [col_set hD ring hd hs]
 split
 ·rename_i he
  subst he
  rw [<-hr]
  exact ((expG_le _ _ s _ fun x hx ho=>h s hs _ (hu.refs e hd hS x hx ho)).ring _).trans (hu.le s hs e hd hS)
 ·exact h s hs e hS
theorem Below'.rnd {p:Pgm} {S:Nat->Prop} {u:Nat->Nat->Lg} (hu:Above p S u) {ring:Bool}:∀ (g:List Nat),(∀ d∈g,d < p.defs.length/\reachB (tosR p) d d=ring)->∀ {D:List (List Lg)},Wide p D->Below' p S u D->Below' p S u (rndL p ring g D)
 |[],_,_,_,h=>h
 |d::r,hg,D,hD,h=>by
  have h1:=hg d (List.mem_cons_self ..)
  exact Below'.rnd hu r (fun e he=>hg e (List.mem_cons_of_mem _ he)) (hD.set ring d) (h.set hu hD h1.1 h1.2)
theorem Below'.rnds {p:Pgm} {S:Nat->Prop} {u:Nat->Nat->Lg} (hu:Above p S u) {ring:Bool} {g:List Nat} (hg:∀ d∈g,d < p.defs.length/\reachB (tosR p) d d=ring) {D:List (List Lg)} (hD:Wide p D) (h:Below' p S u D):∀ n,Below' p S u (rndsL p ring g n D)
 |0=>h
 |n+1=>Below'.rnd hu g hg (hD.rnds ring g n) (Below'.rnds hu hg hD h n)
theorem Below'.all {p:Pgm} {S:Nat->Prop} {u:Nat->Nat->Lg} (hu:Above p S u):∀ (gs:List (List Nat)),(∀ g∈gs,∀ d∈g,d < p.defs.length/\reachB (tosR p) d d=ringB (tosR p) g)->∀ {D:List (List Lg)},Wide p D->Below' p S u D ->
  Below' p S u (gs.foldl (fun D g=>rndsL p (ringB (tosR p) g) g (p.defs.length+1) D) D)
 |[],_,_,_,h=>h
 |g::r,hg,D,hD,h=>by
  rw [List.foldl_cons]
  exact Below'.all hu r (fun e he=>hg e (List.mem_cons_of_mem _ he)) (hD.rnds _ _ _) (Below'.rnds hu (hg g (List.mem_cons_self ..)) hD h _)
theorem lags_least {p:Pgm} (hp:progR p=true) {S:Nat->Prop} {u:Nat->Nat->Lg} (hu:Above p S u):Below' p S u (lagsR p):=by
 have htl:(tosR p).length=p.defs.length:=(progR_good hp).steps.2.1
 refine Below'.all hu _ (fun g hg d hd=>?_) (Wide.zero p) fun s hs d _=>by rw [colD_zero];exact .z _
 have h:=order_grp hg
 exact ⟨by rw [<-htl];exact h.lt d hd,h.ring d hd⟩
end Go.Abs

/- The reference: the groups of definitions, in their order. -/
open Go Go.Abs
namespace Go.Abs
set_option maxRecDepth 100000
set_option maxHeartbeats 4000000
theorem All2.at {α β:Type} {R:α->β->Prop}:∀ {l:List α} {m:List β},All2 R l m->∀ {i:Nat} {y:β},m[i]? = some y->∃ x,l[i]? = some x/\R x y
 |[],[],_,_,_,h=>by simp at h
 |x::l,y::m,h,0,z,hz=>by
  simp at hz;subst hz;exact ⟨x,rfl,h.1⟩
 |x::l,y::m,h,i+1,z,hz=>by
  simp at hz
  obtain ⟨w,h1,h2⟩:=All2.at h.2 hz
  exact ⟨w,by simpa using h1,h2⟩
end Go.Abs

/- Rows of lags in memory. -/
open Go Go.Abs
namespace Go.Abs
set_option maxRecDepth 100000
set_option maxHeartbeats 4000000
def ty349:TyI:={ d:=TyD.sl 147,sz:=1,bytes:=24,zero:=AV.nils }
instance tyis349:TyIs CC 49 ty349:=⟨by kernel_rfl⟩
def ty346:TyI:={ d:=TyD.sl 49,sz:=1,bytes:=24,zero:=AV.nils }
instance tyis346:TyIs CC 46 ty346:=⟨by kernel_rfl⟩
def ty432:TyI:={ d:=TyD.sl 153,sz:=1,bytes:=24,zero:=AV.nils }
instance tyis432:TyIs CC 132 ty432:=⟨by kernel_rfl⟩
def ty433:TyI:={ d:=TyD.sl 132,sz:=1,bytes:=24,zero:=AV.nils }
instance tyis433:TyIs CC 133 ty433:=⟨by kernel_rfl⟩
def RowL (et lo hi:Nat) (G:Nat->Obj) (v:AV) (l:List Lg):Prop:=∃ o fr,lo<=o/\o < hi/\v = .row o l.length/\G o = .row et 4 ((l.map Lg.iv).map .imm) fr
section
variable {et lo hi lo' hi':Nat} {G G':Nat->Obj} {v:AV} {l:List Lg}
theorem RowL.frame (h:RowL et lo hi G v l) (h0:lo'<=lo) (hh:hi<=hi') (hG:∀ o,lo<=o->o < hi->(∃ xs fr,G o = .row et 4 xs fr)->G' o=G o):RowL et lo' hi' G' v l:=by
 obtain ⟨o,fr,h1,h2,h3,h4⟩:=h
 exact ⟨o,fr,by omega,by omega,h3,by rw [hG o h1 h2 ⟨_,_,h4⟩];exact h4⟩
theorem RowL.peek (h:RowL et lo hi G v l):∃ o,lo<=o/\o < hi/\Go.Abs.peek G pkDepth v=some (.lst (l.map Lg.iv),[o]):=by
 obtain ⟨o,fr,h1,h2,rfl,h4⟩:=h
 exact ⟨o,h1,h2,peek_row1 h4 (by simp)⟩
theorem RowL.fits (h:RowL et lo hi G v l):v.fits 1=true:=by
 obtain ⟨o,fr,_,_,rfl,_⟩:=h
 rfl
theorem RowL.rdx (h:RowL et lo hi G v l):Rdx 1 G (fun o=>lo<=o/\o < hi) v (.lst (l.map Lg.iv)):=by
 obtain ⟨o,fr,h1,h2,rfl,h4⟩:=h
 exact Rdx.row h4 (by simp) (All2.imms 0 _ _ _) ⟨h1,h2⟩
theorem Own.rowL (h:Own et 4 lo hi (l.map Lg.iv) G v) (hl:l≠[]):RowL et lo hi G v l:=by
 rcases h with ⟨h,_⟩|⟨o,h1,h2,h3,h4⟩
 ·exact absurd (List.map_eq_nil_iff.1 h) hl
 ·exact ⟨o,false,h1,h2,by rw [h3,List.length_map],h4⟩
end
theorem getD_range {L:List Lg} {n:Nat} (hl:L.length=n):(List.range n).map (fun s=>L.getD s Lg.z)=L:=by
 refine List.ext_getElem? fun s=>?_
 simp only [List.getElem?_map]
 by_cases hs:s < n
 ·rw [List.getElem?_range hs,List.getElem?_eq_getElem (by omega)]
  simp [List.getD_eq_getElem?_getD,List.getElem?_eq_getElem (show s < L.length by omega)]
 ·rw [List.getElem?_eq_none (by simp;omega),List.getElem?_eq_none (by omega)];rfl
def RowsL (et rt o lo hi:Nat) (G:Nat->Obj) (D:List (List Lg)):Prop:=∃ ws,ws.length=D.length/\G o = .row rt 1 ws false/\All2 (RowL et lo hi G) ws D
theorem RowsL.frame {et rt o lo hi lo' hi':Nat} {G G':Nat->Obj} {D:List (List Lg)} (h:RowsL et rt o lo hi G D) (ho:G' o=G o) (h0:lo'<=lo) (hh:hi<=hi') (hG:∀ o,lo<=o->o < hi->(∃ xs fr,G o = .row et 4 xs fr)->G' o=G o):RowsL et rt o lo' hi' G' D:=by
 obtain ⟨ws,h1,h2,h3⟩:=h
 exact ⟨ws,h1,by rw [ho];exact h2,h3.imp fun a b h=>h.frame h0 hh hG⟩
theorem All2.set {α β:Type} {R:α->β->Prop} {x:α} {y:β} (hxy:R x y):∀ {l:List α} {m:List β},All2 R l m->∀ i,All2 R (l.set i x) (m.set i y)
 |[],[],_,_=>trivial
 |[],_::_,h,_=>h.elim
 |_::_,[],h,_=>h.elim
 |_::_,_::_,h,0=>⟨hxy,h.2⟩
 |_::_,_::_,h,i+1=>⟨h.1,h.2.set hxy i⟩
theorem RowsL.set {et rt o lo hi:Nat} {G:Nat->Obj} {D:List (List Lg)} {v:AV} {l:List Lg} (h:RowsL et rt o lo hi G D) (hv:RowL et lo hi G v l) (d:Nat):∃ ws,ws.length=D.length/\G o = .row rt 1 ws false/\RowsL et rt o lo hi (upd G o (.row rt 1 (ws.set d v) false)) (D.set d l):=by
 obtain ⟨ws,h1,h2,h3⟩:=h
 refine ⟨ws,h1,h2,ws.set d v,by simp [h1],upd_same ..,All2.imp (fun a b h=>h.frame (Nat.le_refl _) (Nat.le_refl _) fun q hq1 hq2 ⟨xs,fr,hq⟩=>?_) (h3.set hv d)⟩
 by_cases e:q=o
 ·subst e;rw [h2] at hq;cases hq
 ·exact upd_ne _ _ _ _ e
def lagsIV (l:List Lg):IV := .lst (l.map Lg.iv)
theorem rowsL_rdx {et lo hi:Nat} {G:Nat->Obj}:∀ {ws:List AV} {E:List (List Lg)},All2 (RowL et lo hi G) ws E->All2 (Rdx 1 G fun _=>True) ws (E.map lagsIV)
 |[],[],_=>trivial
 |_::_,_::_,h=>⟨h.1.rdx.frame (fun _ _=>rfl) fun _ _=>trivial,rowsL_rdx h.2⟩
theorem RowsL.rdx {et rt o lo hi:Nat} {G:Nat->Obj} {E:List (List Lg)} (h:RowsL et rt o lo hi G E):Rdx 2 G (fun _=>True) (.row o E.length) (.lst (E.map lagsIV)):=by
 obtain ⟨ws,h1,h2,h3⟩:=h
 exact Rdx.row h2 h1 (rowsL_rdx h3) trivial
def RowV (et lo hi:Nat) (G:Nat->Obj) (v:AV) (l:List Lg):Prop:=v = .imm (lagsIV l)\/RowL et lo hi G v l
def RowsV (et rt lo hi:Nat) (G:Nat->Obj) (v:AV) (D:List (List Lg)):Prop:=v = .imm (.lst (D.map lagsIV))\/∃ o,o < hi/\v = .row o D.length/\RowsL et rt o lo hi G D
theorem RowV.frame {et lo hi lo' hi':Nat} {G G':Nat->Obj} {v:AV} {l:List Lg} (h:RowV et lo hi G v l) (h0:lo'<=lo) (hh:hi<=hi') (hG:∀ o,lo<=o->o < hi->(∃ xs fr,G o = .row et 4 xs fr)->G' o=G o):RowV et lo' hi' G' v l:=
 h.elim .inl fun h => .inr (h.frame h0 hh hG)
theorem All2.at' {α β:Type} {R:α->β->Prop} {l:List α} {m:List β} (h:All2 R l m) {i:Nat} {y:β} (hy:m[i]? = some y):∃ x,l[(i:Int).toNat]? = some x/\R x y:=by
 rw [Int.toNat_natCast];exact h.at hy
def mixL (n j:Nat) (f g:Nat->Lg):List Lg:=(List.range n).map fun s=>if s < j then f s else g s
section
variable {n j:Nat} {f g:Nat->Lg}
theorem mixL_len:(mixL n j f g).length=n:=by simp [mixL]
theorem mixL_ivlen:(((mixL n j f g).map Lg.iv).map AV.imm).length=n:=by simp [mixL]
theorem mixL_at {s:Nat} (hs:s < n):(mixL n j f g)[s]? = some (if s < j then f s else g s):=by simp [mixL,hs]
theorem mixL_ivat0 (hj:j < n):(((mixL n 0 f g).map Lg.iv).map AV.imm)[(j:Int).toNat]? = some (.imm (g j).iv):=by
 rw [Int.toNat_natCast,List.getElem?_map,List.getElem?_map,mixL_at hj,if_neg (Nat.not_lt_zero _)];rfl
theorem mixL_zero:mixL n 0 f g=(List.range n).map g:=by simp [mixL]
theorem mixL_one {a:Lg} (hj:j < n):(((mixL n 0 f fun _=>Lg.z).map Lg.iv).map AV.imm).set j (.imm a.iv)=(((List.range n).map fun s=>if j=s then a else Lg.z).map Lg.iv).map AV.imm:=by
 refine List.ext_getElem? fun s=>?_
 rw [List.getElem?_set]
 by_cases h:j=s
 ·subst h
  rw [if_pos rfl,if_pos (by rw [mixL_ivlen];exact hj)]
  simp [hj]
 ·rw [if_neg h]
  simp only [List.getElem?_map]
  by_cases hs:s < n
  ·rw [mixL_at hs,if_neg (Nat.not_lt_zero _)]
   simp [hs,h]
  ·rw [List.getElem?_eq_none (by rw [mixL_len];omega),List.getElem?_eq_none (by simp;omega)]
   rfl
end
/-! What is read of rows, as data or in memory. -/
theorem look_hd {l:Env} {d:Nat} {v:AV}:lookO ((d,v)::l) (.tmp d)=some v:=by
 show look _ _=_
 unfold look
 rw [Nat.beq_refl]
section
variable {nt:Nat} {ol r:List Oper} {base i:Nat} {l:Env} {G:Nat->Obj} {nx:Nat} {df:List (AV×List AV)} {pk:Pk} {Φ:Out->Prop} {fs:List Fp} {x y:Operand} {t et rt ty1 ty2:TypeId} {pos1 pos2:String} {af1 af2:Array Edge} {d1 d2 lo hi s:Nat} {w:AV} {L:List Lg} {E:List (List Lg)} {k ke:TyI}
theorem lag_at (hr:RowV et lo hi G w L) (hs:s < L.length) [hk:TyIs CC t k] (ht:k.d = .sl et) [he:TyIs CC et ke] (hke:ke.d.isAgg=true/\ke.sz=4):∃ a,(∀ l id,lookO l x=some w->lookO l y=some (.imm (.int .i64 s))->OpV CC id l G nx df pk (.indexAddr t x y) a []) /\
  ∀ l id,lookO l (.tmp d1)=some a->OpV CC id l G nx df pk (.load et (.tmp d1)) (.imm (L.getD s Lg.z).iv) []:=by
 have hg:L.getD s Lg.z=L[s]:=by rw [List.getD_eq_getElem?_getD,List.getElem?_eq_getElem hs];rfl
 rw [hg]
 rcases hr with rfl|⟨o,fr,_,_,rfl,hG⟩
 ·have hi:(L.map Lg.iv)[(s:Int).toNat]? = some L[s].iv:=by rw [Int.toNat_natCast,List.getElem?_map,List.getElem?_eq_getElem hs];rfl
  exact ⟨_,fun l id hx hy=>O.addrX ht he hx hy (by omega) hi (by rw [hke.2];rfl),fun l id hl=>O.loadEA hke.1 hl hi (by rw [hke.2];rfl)⟩
 ·have hi:((L.map Lg.iv).map AV.imm)[(s:Int).toNat]? = some (.imm L[s].iv):=by rw [Int.toNat_natCast,List.getElem?_map,List.getElem?_map,List.getElem?_eq_getElem hs];rfl
  refine ⟨_,fun l id hx hy=>O.addrRX ht he hx hy hG (by simp) (by omega) hke.2.symm,fun l id hl=>?_⟩
  have:=O.loadRA (C:=CC) (t:=et) (us:=L[s].iv.cells.map .imm) (id:=id) (nx:=nx) (df:=df) (pk:=pk) hl hG (by simp) hi (by rw [hke.2];rfl) hke.1
  exact this
theorem row_at' (hr:RowsV et rt lo hi G w E) {s:Nat} (hL:E[s]? = some L) [hk:TyIs CC t k] (ht:k.d = .sl rt) [he:TyIs CC rt ke] (hke:ke.d.isAgg=false/\ke.sz=1):∃ a v,RowV et lo hi G v L/\(∀ l id,lookO l x=some w->lookO l y=some (.imm (.int .i64 s))->OpV CC id l G nx df pk (.indexAddr t x y) a []) /\
  ∀ l id,lookO l (.tmp d1)=some a->OpV CC id l G nx df pk (.load rt (.tmp d1)) v []:=by
 have hs:=(List.getElem?_eq_some_iff.1 hL).1
 rcases hr with rfl|⟨o,_,rfl,ws,h1,hG,h2⟩
 ·have hi:(E.map lagsIV)[(s:Int).toNat]? = some (lagsIV L):=by rw [Int.toNat_natCast,List.getElem?_map,hL];rfl
  exact ⟨_,_, .inl rfl,fun l id hx hy=>O.addrX ht he hx hy (by omega) hi (by rw [hke.2];rfl),fun l id hl=>O.load1 hl hi rfl hke.1 hke.2⟩
 ·obtain ⟨v,hv,hrow⟩:=h2.at' hL
  exact ⟨_,v, .inr hrow,fun l id hx hy=>O.addrRX ht he hx hy hG h1 (by omega) hke.2.symm,fun l id hl=>O.loadRX hl hG h1 hv (by obtain ⟨_,_,_,_,rfl,_⟩:=hrow;rfl) hke.1 hke.2⟩
theorem rd_load {a:AV} (h:lookO l (.tmp d1)=some a):rdE l G (.load t (.tmp d1))=some (direct a):=by
 unfold rdE;simp only [pureOp,h]
theorem rd_index {a b:AV} (hx:lookO l x=some a) (hy:lookO l y=some b):rdE l G (.indexAddr t x y)=some (direct a++direct b):=by
 unfold rdE;simp only [pureOp,hx,hy]
theorem D.lagAt (hr:RowV et lo hi G w L) (hs:s < L.length) [hk:TyIs CC t k] (ht:k.d = .sl et) [he:TyIs CC et ke] (hke:ke.d.isAgg=true/\ke.sz=4) (hx:lookO l x=some w) (hy:lookO l y=some (.imm (.int .i64 s))) (hd1:Nat.ble (d1+1) nt=true) (hd2:Nat.ble (d2+1) nt=true)
  (next:∀ a rd1 rd2,D CC nt ol base (i+1+1) r ((d2, .imm (L.getD s Lg.z).iv)::(d1,a)::l) G nx df pk (⟨i+1,rd2,[],[]⟩::⟨i,rd1,[],[]⟩::fs) Φ) :
  D CC nt ol base i (⟨some d1, .indexAddr t x y,ty1,pos1,af1,none⟩::⟨some d2, .load et (.tmp d1),ty2,pos2,af2,none⟩::r) l G nx df pk fs Φ:=by
 obtain ⟨a,h1,h2⟩:=lag_at (t:=t) (nx:=nx) (df:=df) (pk:=pk) (x:=x) (y:=y) (d1:=d1) hr hs ht hke
 exact D.op0 (h1 l _ hx hy) (rd_index hx hy) hd1 (D.op0 (h2 _ _ look_hd) (rd_load look_hd) hd2 (next _ _ _))
theorem R.lagAt (hr:RowV et lo hi G w L) (hs:s < L.length) [hk:TyIs CC t k] (ht:k.d = .sl et) [he:TyIs CC et ke] (hke:ke.d.isAgg=true/\ke.sz=4) (hx:lookO l x=some w) (hy:lookO l y=some (.imm (.int .i64 s))) (hd1:Nat.ble (d1+1) nt=true) (hd2:Nat.ble (d2+1) nt=true)
  (next:∀ a,R CC nt ol base (i+1+1) r ((d2, .imm (L.getD s Lg.z).iv)::(d1,a)::l) G nx df pk Φ) :
  R CC nt ol base i (⟨some d1, .indexAddr t x y,ty1,pos1,af1,none⟩::⟨some d2, .load et (.tmp d1),ty2,pos2,af2,none⟩::r) l G nx df pk Φ:=by
 obtain ⟨a,h1,h2⟩:=lag_at (t:=t) (nx:=nx) (df:=df) (pk:=pk) (x:=x) (y:=y) (d1:=d1) hr hs ht hke
 exact R.op0 (h1 l _ hx hy) hd1 (R.op0 (h2 _ _ look_hd) hd2 (next _))
theorem D.rowAt (hr:RowsV et rt lo hi G w E) (hL:E[s]? = some L) [hk:TyIs CC t k] (ht:k.d = .sl rt) [he:TyIs CC rt ke] (hke:ke.d.isAgg=false/\ke.sz=1) (hx:lookO l x=some w) (hy:lookO l y=some (.imm (.int .i64 s))) (hd1:Nat.ble (d1+1) nt=true) (hd2:Nat.ble (d2+1) nt=true)
  (next:∀ a v rd1 rd2,RowV et lo hi G v L->D CC nt ol base (i+1+1) r ((d2,v)::(d1,a)::l) G nx df pk (⟨i+1,rd2,[],[]⟩::⟨i,rd1,[],[]⟩::fs) Φ) :
  D CC nt ol base i (⟨some d1, .indexAddr t x y,ty1,pos1,af1,none⟩::⟨some d2, .load rt (.tmp d1),ty2,pos2,af2,none⟩::r) l G nx df pk fs Φ:=by
 obtain ⟨a,v,h0,h1,h2⟩:=row_at' (t:=t) (nx:=nx) (df:=df) (pk:=pk) (x:=x) (y:=y) (d1:=d1) hr hL ht hke
 exact D.op0 (h1 l _ hx hy) (rd_index hx hy) hd1 (D.op0 (h2 _ _ look_hd) (rd_load look_hd) hd2 (next _ _ _ _ h0))
end
theorem O.makeL {id:Nat} {l:Env} {G:Nat->Obj} {nx:Nat} {df:List (AV×List AV)} {pk:Pk} {t e:TypeId} {x y:Operand} {k ke:TyI} {m:Int} {n:Nat} (f:Nat->Lg) [hk:TyIs CC t k] (ht:k.d = .sl e) (he:TyIs CC e ke) (hke:ke.zero = .imm Lg.z.iv/\ke.sz=4/\ke.bytes<=4096) (hx:lookO l x=some (.imm (.int .i64 m))) (hy:lookO l y=some (.imm (.int .i64 m))) (hm:m=(n:Int)) (hn:n<=1000) :
  OpV CC id l G nx df pk (.makeSlice t x y) (.row id n) [(id, .set (.row e 4 (((mixL n 0 f fun _=>Lg.z).map Lg.iv).map .imm) false))]:=by
 have h:=O.makeSlice (C:=CC) (t:=t) (e:=e) (id:=id) (G:=G) (nx:=nx) (df:=df) (pk:=pk) ht he hx hy ⟨by omega,Int.le_refl _,by unfold most;omega⟩ hke.2.2 (by rw [hke.1,hke.2.1];rfl) (by rw [hke.2.1];decide)
 rw [hke.1,hke.2.1,hm,Int.toNat_natCast] at h
 rw [mixL_zero,show ((List.range n).map fun _=>Lg.z)=List.replicate n Lg.z from by rw [List.map_const',List.length_range],List.map_replicate,List.map_replicate]
 exact h
end Go.Abs

/- The reference: how an expression depends on each source. -/
open Go Go.Abs
namespace Go.Abs
set_option maxRecDepth 100000
set_option maxHeartbeats 4000000
structure NodeP (p:Pgm) (x:Exp):Prop where
 b:NodeB x
 ref:x.op=2\/x.op=3->0<=x.n/\x.name∈p.defs.map Dfn.name
 src:x.op=1->x.name∈p.srcs
theorem progR_nodeP {p:Pgm} (h:progR p=true) {d:Nat} (hd:d < p.defs.length):∀ x∈allE (expAt p d),NodeP p x:=fun x hx=>
 have:=(progR_node h hd x hx).nodeB
 ⟨this.1,this.2.1,this.2.2⟩
theorem kidsG_snoc (srcs names:List Str) (v:Nat->Lg) (s:Nat) (op n:Int) (x:Exp):∀ (l:List Exp) (i:Nat) (out:Lg),kidsG srcs names v s op n (l++[x]) i out=(kidsG srcs names v s op n l i out).both (kidL op n (i+l.length) (expG srcs names v s x))
 |[],i,out=>by rw [List.nil_append,kidsG,kidsG,kidsG];rfl
 |y::l,i,out=>by
  rw [List.cons_append,kidsG,kidsG,kidsG_snoc srcs names v s op n x l (i+1) _,List.length_cons,Nat.add_right_comm,Nat.add_assoc]
theorem kidsG_take {srcs names:List Str} {v:Nat->Lg} {s:Nat} {op n:Int} {l:List Exp} {i:Nat} {x:Exp} (h:l[i]? = some x):kidsG srcs names v s op n (l.take (i+1)) 0 Lg.z=(kidsG srcs names v s op n (l.take i) 0 Lg.z).both (kidL op n i (expG srcs names v s x)):=by
 have hlt:=(List.getElem?_eq_some_iff.1 h).1
 rw [List.take_add_one,h]
 simp only [Option.toList]
 rw [kidsG_snoc,List.length_take,Nat.zero_add,Nat.min_eq_left (by omega)]
theorem colD_at {D:List (List Lg)} {d:Nat} {r:List Lg} (h:D[d]? = some r) (s:Nat):r.getD s Lg.z=colD D s d:=by
 unfold colD;rw [List.getD_eq_getElem?_getD (l:=D),h];rfl
end Go.Abs

/- The reference: the lags of all definitions. -/
open Go Go.Abs
namespace Go.Abs
set_option maxRecDepth 100000
set_option maxHeartbeats 4000000
theorem rep_at {α:Type} {A:List α} {x:α} {n:Nat} (h:A.length < n):(A++List.replicate (n-A.length) x)[A.length]? = some x:=by
 rw [List.getElem?_append_right (Nat.le_refl _),Nat.sub_self,List.getElem?_replicate,if_pos (by omega)]
theorem rep_set {α:Type} {A:List α} {x v:α} {n:Nat} (h:A.length < n):(A++List.replicate (n-A.length) x).set A.length v=(A++[v])++List.replicate (n-(A++[v]).length) x:=by
 rw [List.set_append_right _ _ (Nat.le_refl _),Nat.sub_self,List.length_append,List.append_assoc]
 congr 1
 rw [show n-A.length=(n-(A.length+[v].length))+1 by simp only [List.length_cons,List.length_nil];omega]
 rfl
theorem rndL_take {p:Pgm} {ring:Bool} {g:List Nat} {k d:Nat} (h:g[k]? = some d) (E:List (List Lg)):rndL p ring (g.take (k+1)) E=setL p ring (rndL p ring (g.take k) E) d:=by
 unfold rndL
 rw [List.take_add_one,h,List.foldl_append];rfl
noncomputable def lags3 (p:Pgm) (gs:List (List Nat)) (g i k:Nat):List (List Lg):=rndL p (ringB (tosR p) (gs.getD g [])) ((gs.getD g []).take k) (rndsL p (ringB (tosR p) (gs.getD g [])) (gs.getD g []) i (lagsTo p (gs.take g)))
theorem order_small {p:Pgm} (hp:progR p=true):(orderR (tosR p)).length<=6/\∀ g∈orderR (tosR p),g.length<=6/\(∀ d∈g,d < p.defs.length)/\GrpIs (tosR p) g:=by
 have hg:=progR_good hp
 have htl:(tosR p).length=p.defs.length:=hg.steps.2.1
 refine ⟨?_,fun g hg2=>?_⟩
 ·have:=order_len (tos:=tosR p) (tosR p).length (done:=[])
  have h6:=hg.defs
  unfold orderR;omega
 ·have h1:=order_grp hg2
  have h2:=nodup_lt h1.nodup h1.lt
  have h6:=hg.defs
  exact ⟨by omega,fun d hd=>by rw [<-htl];exact h1.lt d hd,h1⟩
theorem lags_so {p:Pgm} (hp:progR p=true) (g:Nat):SoFar p ((orderR (tosR p)).take g) (lagsTo p ((orderR (tosR p)).take g)):=by
 have h:=lagsTo_far (progR_small hp) ((orderR (tosR p)).take g) [] (fun x hx=>by
  have:=(order_small hp).2 x (List.mem_of_mem_take hx)
  exact ⟨this.1,this.2.1⟩) (SoFar.zero p)
 rw [List.nil_append] at h
 exact h
theorem lags3_wide {p:Pgm} (hp:progR p=true) (g i k:Nat):Wide p (lags3 p (orderR (tosR p)) g i k):=((lags_so hp g).wide.rnds _ _ i).rnd _
theorem lags3_in {p:Pgm} (hp:progR p=true) {g i k:Nat} (hg:g < (orderR (tosR p)).length) (hi:i<=7):InL 40000000 (lags3 p (orderR (tosR p)) g i k):=by
 obtain ⟨h1,h2⟩:=order_small hp
 have hgm:(orderR (tosR p)).getD g []∈orderR (tosR p):=by rw [List.getD_eq_getElem?_getD,List.getElem?_eq_getElem hg];exact List.getElem_mem hg
 have h3:=h2 _ hgm
 have h4:=(lags_so hp g).low
 have h5:=h4.rnds (progR_small hp) (ring:=ringB (tosR p) ((orderR (tosR p)).getD g [])) h3.1 (by omega) h3.2.1 i
 have h6:=h5.rnd (progR_small hp) (ring:=ringB (tosR p) ((orderR (tosR p)).getD g [])) (((orderR (tosR p)).getD g []).take k) (by omega) fun d hd=>h3.2.1 d (List.mem_of_mem_take hd)
 refine h6.mono ?_
 have h7:((orderR (tosR p)).take g).length<=6:=by rw [List.length_take];omega
 have h8:(((orderR (tosR p)).getD g []).take k).length<=6:=by rw [List.length_take];have:=h3.1;omega
 omega
theorem lags3_next {p:Pgm} {gs:List (List Nat)} {g i k d:Nat} (h:(gs.getD g [])[k]? = some d):lags3 p gs g i (k+1)=setL p (ringB (tosR p) (gs.getD g [])) (lags3 p gs g i k) d:=by
 unfold lags3;exact rndL_take h _
theorem lags3_round {p:Pgm} {gs:List (List Nat)} {g i:Nat}:lags3 p gs g i (gs.getD g []).length=lags3 p gs g (i+1) 0:=by
 unfold lags3;rw [List.take_length,List.take_zero];rfl
theorem lags3_group {p:Pgm} {gs:List (List Nat)} {g:Nat} (h:g < gs.length):lags3 p gs g (p.defs.length+1) 0=lagsTo p (gs.take (g+1)):=by
 unfold lags3
 have e:gs.getD g []=gs[g]:=by rw [List.getD_eq_getElem?_getD,List.getElem?_eq_getElem h];rfl
 rw [List.take_zero,List.take_add_one,List.getElem?_eq_getElem h,e]
 simp only [Option.toList]
 rw [lagsTo_append];rfl
theorem lags3_zero {p:Pgm} {gs:List (List Nat)} {g:Nat}:lags3 p gs g 0 0=lagsTo p (gs.take g):=by
 unfold lags3;rw [List.take_zero];rfl
end Go.Abs

/- Whether lags are the same. -/
open Go Go.Abs
namespace Go.Abs
set_option maxRecDepth 100000
set_option maxHeartbeats 4000000
instance fnis442:FnIs CC 142:=⟨rfl,fun _=>rfl⟩
instance fnis332:FnIs CC 32:=⟨rfl,fun _=>rfl⟩
instance fnis331:FnIs CC 31:=⟨rfl,fun _=>rfl⟩
def Lg.same (a b:Lg):Bool:=(a.on==b.on)&&((a.ever==b.ever)&&((decide (IntKind.i64=IntKind.i64)&&decide (a.back=b.back))&&((decide (IntKind.i64=IntKind.i64)&&decide (a.ahead=b.ahead))&&true)))
theorem Lg.same_iff {a b:Lg}:a.same b=true↔a=b:=by
 obtain ⟨o,e,x,y⟩:=a
 obtain ⟨o',e',x',y'⟩:=b
 unfold Lg.same
 simp only [Bool.and_eq_true,beq_iff_eq,decide_eq_true_eq,Lg.mk.injEq,and_true,true_and]
def fsOf (P:Program) (t:TypeId):Array Field:=match P.underlying t with
 |some (.struct fs)=>fs
 |_ => #[]
theorem keyI {P:Program} {t:TypeId} {d:Nat} {n:Int} (h:P.underlying t=some (.int .i64)) (hw:(Lit.int .i64 n).wf=true):P.keyLits (d+1) t [.int .i64 n]=some [.int .i64 n]:=by
 unfold Program.keyLits;rw [h];simp [hw]
theorem keyB {P:Program} {t:TypeId} {d:Nat} {b:Bool} (h:P.underlying t=some .bool):P.keyLits (d+1) t [.bool b]=some [.bool b]:=by
 unfold Program.keyLits;rw [h]
theorem Lg.In.wf {a:Lg} (h:a.In 4294967296):(Lit.int .i64 a.back).wf=true/\(Lit.int .i64 a.ahead).wf=true:=by
 have h1:=h.back;have h2:=h.ahead
 refine ⟨?_,?_⟩
 ·show (decide (IntKind.i64.min<=_)&&decide (_<=IntKind.i64.max))=true
  rw [Bool.and_eq_true,decide_eq_true_eq,decide_eq_true_eq,show IntKind.i64.min = -9223372036854775808 from rfl,show IntKind.i64.max=9223372036854775807 from rfl];omega
 ·show (decide (IntKind.i64.min<=_)&&decide (_<=IntKind.i64.max))=true
  rw [Bool.and_eq_true,decide_eq_true_eq,decide_eq_true_eq,show IntKind.i64.min = -9223372036854775808 from rfl,show IntKind.i64.max=9223372036854775807 from rfl];omega
theorem litsLag {t : TypeId} (h1 : CC.P.underlying t = some (.struct (fsOf CC.P t))) (h2 : (fsOf CC.P t).toList.map (fun f => (f.type, f.offset)) = [(4, 0), (4, 1), (3, 2), (3, 3)]) (h3 : (fsOf CC.P t).all (·.name != "_") = true) (h4 : CC.P.cellsOf t = 4) {a : Lg} (hw : a.In 4294967296) :
  litsOf CC.P t [.bool a.on, .bool a.ever, .int .i64 a.back, .int .i64 a.ahead]=some [.bool a.on, .bool a.ever, .int .i64 a.back, .int .i64 a.ahead]:=by
 have e3:CC.P.underlying 3=some (.int .i64):=by kernel_rfl
 have e4:CC.P.underlying 4=some .bool:=by kernel_rfl
 have c3:CC.P.cellsOf 3=1:=by kernel_rfl
 have c4:CC.P.cellsOf 4=1:=by kernel_rfl
 unfold litsOf
 simp only [vsOf,vOf]
 unfold Program.keyLits
 rw [h1]
 simp only [List.length_cons,List.length_nil,h4,h3,and_self,if_true]
 generalize (fsOf CC.P t).toList=fs at *
 obtain ⟨f1,r1,rfl,e1,h2⟩:=List.map_eq_cons_iff.1 h2
 obtain ⟨f2,r2,rfl,e2,h2⟩:=List.map_eq_cons_iff.1 h2
 obtain ⟨f5,r3,rfl,e5,h2⟩:=List.map_eq_cons_iff.1 h2
 obtain ⟨f6,r4,rfl,e6,h2⟩:=List.map_eq_cons_iff.1 h2
 obtain rfl:=List.map_eq_nil_iff.1 h2
 simp only [Prod.mk.injEq] at e1 e2 e5 e6
 simp [e1.1,e1.2,e2.1,e2.2,e5.1,e5.2,e6.1,e6.2,c3,c4,keyB e4,keyI e3 hw.wf.1,keyI e3 hw.wf.2]
theorem eqLag {t : TypeId} (h1 : CC.P.underlying t = some (.struct (fsOf CC.P t))) (h2 : (fsOf CC.P t).toList.map (fun f => (f.type, f.offset)) = [(4, 0), (4, 1), (3, 2), (3, 3)]) (h3 : (fsOf CC.P t).all (·.name != "_") = true) (h4 : CC.P.cellsOf t = 4) (h5 : CC.P.keyTypeAt 10 t = true) (h6 : CC.P.eqGuardType CC.P.depth t = false)
  {a b:Lg} (ha:a.In 4294967296) (hb:b.In 4294967296):eqSt CC.P t [.bool a.on, .bool a.ever, .int .i64 a.back, .int .i64 a.ahead] [.bool b.on, .bool b.ever, .int .i64 b.back, .int .i64 b.ahead]=some (a.same b):=by
 unfold eqSt
 rw [if_pos ⟨h5,h6⟩,litsLag h1 h2 h3 h4 ha,litsLag h1 h2 h3 h4 hb]
 rfl
theorem eqLag453 {a b:Lg} (ha:a.In 4294967296) (hb:b.In 4294967296):eqSt CC.P 153 [.bool a.on, .bool a.ever, .int .i64 a.back, .int .i64 a.ahead] [.bool b.on, .bool b.ever, .int .i64 b.back, .int .i64 b.ahead]=some (a.same b):=
 eqLag (by kernel_rfl) (by kernel_rfl) (by kernel_rfl) (by kernel_rfl) (by kernel_rfl) (by kernel_rfl) ha hb
theorem eqLag447 {a b:Lg} (ha:a.In 4294967296) (hb:b.In 4294967296):eqSt CC.P 147 [.bool a.on, .bool a.ever, .int .i64 a.back, .int .i64 a.ahead] [.bool b.on, .bool b.ever, .int .i64 b.back, .int .i64 b.ahead]=some (a.same b):=
 eqLag (by kernel_rfl) (by kernel_rfl) (by kernel_rfl) (by kernel_rfl) (by kernel_rfl) (by kernel_rfl) ha hb
section
variable {id:Nat} {l:Env} {G:Nat->Obj} {nx:Nat} {df:List (AV×List AV)} {pk:Pk} {x y:Operand} {t2:TypeId} {a b:Lg}
theorem O.lagNe (ha:a.In 4294967296) (hb:b.In 4294967296) (hx:lookO l x=some (.imm a.iv)) (hy:lookO l y=some (.imm b.iv)):OpV CC id l G nx df pk (.binOp .neq 153 x y t2) (.imm (.bool !(a.same b))) []:=
 O.of fun t L ht=>by
  simp only [opA,ht.ev hx,ht.ev hy,Lg.iv,binA,eqAV,(inferInstance:TyIs CC 153 ty453).is,ty453,eqLag453 ha hb,Option.map_some]
theorem O.lagNe' (ha:a.In 4294967296) (hb:b.In 4294967296) (hx:lookO l x=some (.imm a.iv)) (hy:lookO l y=some (.imm b.iv)):OpV CC id l G nx df pk (.binOp .neq 147 x y t2) (.imm (.bool !(a.same b))) []:=
 O.of fun t L ht=>by
  simp only [opA,ht.ev hx,ht.ev hy,Lg.iv,binA,eqAV,(inferInstance:TyIs CC 147 ty447).is,ty447,eqLag447 ha hb,Option.map_some]
end
end Go.Abs

/- Whether lists of lags are the same. -/
open Go Go.Abs
namespace Go.Abs
set_option maxRecDepth 100000
set_option maxHeartbeats 4000000
def lagsEq (a b:List Lg):Bool:=a.length==b.length&&(List.range a.length).all fun i=>(a.getD i Lg.z).same (b.getD i Lg.z)
theorem lagsEq_iff {a b:List Lg}:lagsEq a b=true↔a=b:=by
 unfold lagsEq
 rw [Bool.and_eq_true,beq_iff_eq,List.all_eq_true]
 constructor
 ·rintro ⟨h1,h2⟩
  rw [<-getD_range (L:=a) rfl,<-getD_range (L:=b) rfl,<-h1]
  exact List.map_congr_left fun i hi=>Lg.same_iff.1 (h2 i hi)
 ·rintro rfl
  exact ⟨rfl,fun i _=>Lg.same_iff.2 rfl⟩
theorem all_range_succ {f:Nat->Bool} {i:Nat}:(List.range (i+1)).all f=((List.range i).all f&&f i):=by rw [List.range_succ,List.all_append];simp
theorem all_range_end {f:Nat->Bool} {n i:Nat} (hi:i < n) (h:f i=false):(List.range n).all f=false:=by
 rw [Bool.eq_false_iff,ne_eq,List.all_eq_true]
 exact fun hc=>by rw [hc i (List.mem_range.2 hi)] at h;cases h
theorem lag_ivat {a:List Lg} {i:Nat} (h:i < a.length):(a.map Lg.iv)[(i:Int).toNat]? = some (a.getD i Lg.z).iv:=by
 rw [Int.toNat_natCast,List.getElem?_map,List.getD_eq_getElem?_getD,List.getElem?_eq_getElem h];rfl
theorem getD_in {K:Int} (hK:0<=K) {a:List Lg} (h:∀ x∈a,x.In K) (i:Nat):(a.getD i Lg.z).In K:=by
 rw [List.getD_eq_getElem?_getD]
 cases hs:a[i]? with
 |none=>exact Lg.inz hK
 |some x=>exact h x (List.mem_of_getElem? hs)
theorem ret442 {a b:List Lg} (ha:∀ x∈a,x.In 4294967296) (hb:∀ x∈b,x.In 4294967296) (hl:a.length<=1000):Ret CC 142 [lagsIV a,lagsIV b] (.bool (lagsEq a b)):=by
 have hal:(a.map Lg.iv).length=a.length:=List.length_map ..
 have hbl:(b.map Lg.iv).length=b.length:=List.length_map ..
 have hai:=getD_in (by omega) ha
 have hbi:=getD_in (by omega) hb
 refine Ret.of (fn:=Go.Proofs.Tryz.f142) (by kernel_rfl) rfl rfl ?_
 by_cases hne:a.length=b.length
 ·have hc:(((a.map Lg.iv).length:Int) != ((b.map Lg.iv).length:Int))=false:=by rw [hal,hbl,hne];simp
  have hq:lagsEq a b=(List.range a.length).all fun i=>(a.getD i Lg.z).same (b.getD i Lg.z):=by unfold lagsEq;rw [hne];simp
  refine BN ?_
  refine W.loop (X:=Nat) (fun i=>[(0, .imm (lagsIV a)),(1, .imm (lagsIV b)),(12, .imm (.int .i64 (a.map Lg.iv).length)),(13, .imm (.int .i64 i))])
   (fun i _ _=>i<=a.length/\((List.range i).all fun i=>(a.getD i Lg.z).same (b.getD i Lg.z))=true) (fun i=>a.length-i) 0 .auto ⟨Nat.zero_le _,rfl⟩ ?_
  rintro i nx G ⟨hi,hst⟩
  refine BN ?_
  refine W.cond rfl (fun h1=>?_) (fun h1=>?_)
  ·have hlt:i < a.length:=by have:=of_decide_eq_true h1;rw [hal] at this;omega
   have h2:=lag_ivat hlt
   have h3:=lag_ivat (a:=b) (i:=i) (by omega)
   have hmu:a.length-(i+1) < a.length-i:=by omega
   have hsu:=all_range_succ (f:=fun i=>(a.getD i Lg.z).same (b.getD i Lg.z)) (i:=i)
   rw [hst,Bool.true_and] at hsu
   have hend:=all_range_end (f:=fun i=>(a.getD i Lg.z).same (b.getD i Lg.z)) hlt
   refine BN ?_
   refine D.op0 (O.lagNe (hai i) (hbi i) rfl rfl) rfl rfl ?_
   cases hs:(a.getD i Lg.z).same (b.getD i Lg.z) with
   |true=>
    refine BN ?_
    exact W.skipLop (i+1) hmu .auto ⟨hlt,hsu.trans hs⟩
   |false=>
    refine BN ?_
    exact W.retFin1 rfl ⟨[],by rw [hq,hend hs];rfl⟩
  ·have hge:i=a.length:=by have:=of_decide_eq_false h1;rw [hal] at this;omega
   subst hge
   refine BN ?_
   exact W.retFin1 rfl ⟨[],by rw [hq,hst];rfl⟩
 ·have hc:(((a.map Lg.iv).length:Int) != ((b.map Lg.iv).length:Int))=true:=by rw [hal,hbl,bne_iff_ne];omega
  have hq:lagsEq a b=false:=by
   cases h:lagsEq a b with
   |false=>rfl
   |true=>rw [lagsEq_iff.1 h] at hne;exact absurd rfl hne
  refine BN ?_
  exact W.retFin1 rfl ⟨[],by rw [hq];rfl⟩
theorem ret332 {a b:List Lg} (ha:∀ x∈a,x.In 4294967296) (hb:∀ x∈b,x.In 4294967296) (hl:a.length<=1000):Ret CC 32 [lagsIV a,lagsIV b] (.bool (lagsEq a b)):=by
 have hal:(a.map Lg.iv).length=a.length:=List.length_map ..
 have hbl:(b.map Lg.iv).length=b.length:=List.length_map ..
 have hai:=getD_in (by omega) ha
 have hbi:=getD_in (by omega) hb
 refine Ret.of (fn:=Go.Proofs.Tryz.f32) (by kernel_rfl) rfl rfl ?_
 by_cases hne:a.length=b.length
 ·have hc:(((a.map Lg.iv).length:Int) != ((b.map Lg.iv).length:Int))=false:=by rw [hal,hbl,hne];simp
  have hq:lagsEq a b=(List.range a.length).all fun i=>(a.getD i Lg.z).same (b.getD i Lg.z):=by unfold lagsEq;rw [hne];simp
  refine BN ?_
  refine W.loop (X:=Nat) (fun i=>[(0, .imm (lagsIV a)),(1, .imm (lagsIV b)),(5, .imm (.int .i64 i))])
   (fun i _ _=>i<=a.length/\((List.range i).all fun i=>(a.getD i Lg.z).same (b.getD i Lg.z))=true) (fun i=>a.length-i) 0 .auto ⟨Nat.zero_le _,rfl⟩ ?_
  rintro i nx G ⟨hi,hst⟩
  refine BN ?_
  refine W.cond rfl (fun h1=>?_) (fun h1=>?_)
  ·have hlt:i < a.length:=by have:=of_decide_eq_true h1;rw [hal] at this;omega
   have h2:=lag_ivat hlt
   have h3:=lag_ivat (a:=b) (i:=i) (by omega)
   have hmu:a.length-(i+1) < a.length-i:=by omega
   have hsu:=all_range_succ (f:=fun i=>(a.getD i Lg.z).same (b.getD i Lg.z)) (i:=i)
   rw [hst,Bool.true_and] at hsu
   have hend:=all_range_end (f:=fun i=>(a.getD i Lg.z).same (b.getD i Lg.z)) hlt
   refine BN ?_
   refine D.op0 (O.lagNe' (hai i) (hbi i) rfl rfl) rfl rfl ?_
   cases hs:(a.getD i Lg.z).same (b.getD i Lg.z) with
   |true=>
    refine BN ?_
    exact W.skipLop (i+1) hmu .auto ⟨hlt,hsu.trans hs⟩
   |false=>
    refine BN ?_
    exact W.retFin1 rfl ⟨[],by rw [hq,hend hs];rfl⟩
  ·have hge:i=a.length:=by have:=of_decide_eq_false h1;rw [hal] at this;omega
   subst hge
   refine BN ?_
   exact W.retFin1 rfl ⟨[],by rw [hq,hst];rfl⟩
 ·have hc:(((a.map Lg.iv).length:Int) != ((b.map Lg.iv).length:Int))=true:=by rw [hal,hbl,bne_iff_ne];omega
  have hq:lagsEq a b=false:=by
   cases h:lagsEq a b with
   |false=>rfl
   |true=>rw [lagsEq_iff.1 h] at hne;exact absurd rfl hne
  refine BN ?_
  exact W.retFin1 rfl ⟨[],by rw [hq];rfl⟩
theorem rows_ivat {a:List (List Lg)} {i:Nat} (h:i < a.length):(a.map lagsIV)[(i:Int).toNat]? = some (lagsIV (a.getD i [])):=by
 rw [Int.toNat_natCast,List.getElem?_map,List.getD_eq_getElem?_getD,List.getElem?_eq_getElem h];rfl
def rowsEq (a b:List (List Lg)):Bool:=a.length==b.length&&(List.range a.length).all fun i=>lagsEq (a.getD i []) (b.getD i [])
theorem rowsEq_iff {a b:List (List Lg)}:rowsEq a b=true↔a=b:=by
 unfold rowsEq
 rw [Bool.and_eq_true,beq_iff_eq,List.all_eq_true]
 constructor
 ·rintro ⟨h1,h2⟩
  refine List.ext_getElem h1 fun i hi hi'=>?_
  have:=lagsEq_iff.1 (h2 i (List.mem_range.2 hi))
  simpa [List.getD_eq_getElem?_getD,hi,hi'] using this
 ·rintro rfl
  exact ⟨rfl,fun i _=>lagsEq_iff.2 rfl⟩
theorem rows_in {K:Int} {a:List (List Lg)} (h:InL K a) (i:Nat):∀ x∈a.getD i [],x.In K:=by
 rw [List.getD_eq_getElem?_getD]
 cases hs:a[i]? with
 |none=>exact fun x hx=>absurd hx List.not_mem_nil
 |some r=>exact h r (List.mem_of_getElem? hs)
theorem ret331 {a b:List (List Lg)} (ha:InL 4294967296 a) (hb:InL 4294967296 b) (hl:a.length<=1000) (hr:∀ i,(a.getD i []).length<=1000):Ret CC 31 [.lst (a.map lagsIV), .lst (b.map lagsIV)] (.bool (rowsEq a b)):=by
 have hal:(a.map lagsIV).length=a.length:=List.length_map ..
 have hbl:(b.map lagsIV).length=b.length:=List.length_map ..
 have h332:=fun i=>ret332 (rows_in ha i) (rows_in hb i) (hr i)
 refine Ret.of (fn:=Go.Proofs.Tryz.f31) (by kernel_rfl) rfl rfl ?_
 by_cases hne:a.length=b.length
 ·have hc:(((a.map lagsIV).length:Int) != ((b.map lagsIV).length:Int))=false:=by rw [hal,hbl,hne];simp
  have hq:rowsEq a b=(List.range a.length).all fun i=>lagsEq (a.getD i []) (b.getD i []):=by unfold rowsEq;rw [hne];simp
  refine BN ?_
  refine W.loop (X:=Nat) (fun i=>[(0, .imm (.lst (a.map lagsIV))),(1, .imm (.lst (b.map lagsIV))),(5, .imm (.int .i64 i))])
   (fun i _ _=>i<=a.length/\((List.range i).all fun i=>lagsEq (a.getD i []) (b.getD i []))=true) (fun i=>a.length-i) 0 .auto ⟨Nat.zero_le _,rfl⟩ ?_
  rintro i nx G ⟨hi,hst⟩
  refine BN ?_
  refine W.cond rfl (fun h1=>?_) (fun h1=>?_)
  ·have hlt:i < a.length:=by have:=of_decide_eq_true h1;rw [hal] at this;omega
   have h2:=rows_ivat hlt
   have h3:=rows_ivat (a:=b) (i:=i) (by omega)
   have hmu:a.length-(i+1) < a.length-i:=by omega
   have hsu:=all_range_succ (f:=fun i=>lagsEq (a.getD i []) (b.getD i [])) (i:=i)
   rw [hst,Bool.true_and] at hsu
   have hend:=all_range_end (f:=fun i=>lagsEq (a.getD i []) (b.getD i [])) hlt
   have h4:=h332 i
   cases hs:lagsEq (a.getD i []) (b.getD i []) with
   |true=>
    rw [hs] at h4
    refine BN ?_
    exact W.skipLop (i+1) hmu .auto ⟨hlt,hsu.trans hs⟩
   |false=>
    rw [hs] at h4
    refine BN ?_
    exact W.retFin1 rfl ⟨[],by rw [hq,hend hs];rfl⟩
  ·have hge:i=a.length:=by have:=of_decide_eq_false h1;rw [hal] at this;omega
   subst hge
   refine BN ?_
   exact W.retFin1 rfl ⟨[],by rw [hq,hst];rfl⟩
 ·have hc:(((a.map lagsIV).length:Int) != ((b.map lagsIV).length:Int))=true:=by rw [hal,hbl,bne_iff_ne];omega
  have hq:rowsEq a b=false:=by
   cases h:rowsEq a b with
   |false=>rfl
   |true=>rw [rowsEq_iff.1 h] at hne;exact absurd rfl hne
  refine BN ?_
  exact W.retFin1 rfl ⟨[],by rw [hq];rfl⟩
end Go.Abs

/- The program's rounds: when one changes nothing. -/
open Go Go.Abs
namespace Go.Abs
set_option maxRecDepth 100000
theorem rndL_row {p:Pgm} {ring:Bool} {d:Nat}:∀ {g:List Nat} {E:List (List Lg)},d∉g->(rndL p ring g E)[d]? = E[d]?
 |[],_,_=>rfl
 |x::g,E,h=>by
  rw [show rndL p ring (x::g) E=rndL p ring g (setL p ring E x) from rfl,rndL_row fun hc=>h (List.mem_cons_of_mem _ hc)]
  unfold setL
  exact List.getElem?_set_ne (by rintro rfl;exact h (List.mem_cons_self ..))
theorem still_step {p:Pgm} {ring:Bool} {g:List Nat} {k d:Nat} {E:List (List Lg)} (hn:g.Nodup) (hd:g[k]? = some d) (hl:d < (rndL p ring (g.take k) E).length) :
  rndL p ring (g.take (k+1)) E=E↔rndL p ring (g.take k) E=E/\rowL p ring (rndL p ring (g.take k) E) d=(rndL p ring (g.take k) E).getD d []:=by
 have hnd:d∉g.take k:=fun hc=>by
  obtain ⟨hk,rfl⟩:=List.getElem?_eq_some_iff.1 hd
  obtain ⟨j,hj,he⟩:=List.mem_iff_getElem.1 hc
  rw [List.length_take] at hj
  rw [List.getElem_take] at he
  have:=(List.getElem_inj hn).1 he
  omega
 have hrow:=rndL_row (p:=p) (ring:=ring) (E:=E) hnd
 rw [rndL_take hd]
 unfold setL
 generalize rowL p ring (rndL p ring (g.take k) E) d=l at *
 generalize rndL p ring (g.take k) E=F at *
 rw [List.getD_eq_getElem?_getD,List.getElem?_eq_getElem hl]
 constructor
 ·intro h
  have h1:(F.set d l)[d]? = some l:=by rw [List.getElem?_set_self hl]
  rw [h,<-hrow,List.getElem?_eq_getElem hl] at h1
  have h2:F[d]=l:=by simpa using h1
  refine ⟨?_,h2.symm⟩
  rw [<-h,<-h2,List.set_getElem_self]
 ·rintro ⟨rfl,h⟩
  simp only [Option.getD_some] at h
  rw [h,List.set_getElem_self]
theorem order_flat (tos:List (List Nat)):(orderR tos).flatten.Nodup:=by
 have:=order_apart (tos:=tos) tos.length DoneIs.nil
 rw [List.nil_append] at this
 exact this
theorem flat_take {gs:List (List Nat)} (h:gs.flatten.Nodup) {g:Nat} {r:List Nat} (hg:gs[g]? = some r) {d:Nat} (hd:d∈r):d∉(gs.take g).flatten:=fun hc=>by
 have hlt:=(List.getElem?_eq_some_iff.1 hg).1
 have e:gs=gs.take g++(r::gs.drop (g+1)):=by
  have:=List.getElem_cons_drop hlt
  rw [(List.getElem?_eq_some_iff.1 hg).2] at this
  rw [this,List.take_append_drop]
 rw [e,List.flatten_append,List.nodup_append] at h
 exact h.2.2 d hc d (by rw [List.flatten_cons];exact List.mem_append_left _ hd) rfl
theorem lags3_still {p:Pgm} (hp:progR p=true) {g r:Nat} (hg:g < (orderR (tosR p)).length) (h:lags3 p (orderR (tosR p)) g r ((orderR (tosR p)).getD g []).length=lags3 p (orderR (tosR p)) g r 0):lags3 p (orderR (tosR p)) g r 0=lagsTo p ((orderR (tosR p)).take (g+1)):=by
 have hgr:(orderR (tosR p))[g]? = some ((orderR (tosR p)).getD g []):=by rw [List.getD_eq_getElem?_getD,List.getElem?_eq_getElem hg];rfl
 have h1:=(order_small hp).2 _ (List.mem_of_getElem? hgr)
 have h2:=lags_so hp g
 have h3:=(progR_small hp).len
 rw [<-lags3_group hg]
 unfold lags3 at h ⊢
 rw [List.take_zero,List.take_length] at h
 rw [List.take_zero]
 exact grp_still hp h1.2.2 h2.wide (fun d hd=>h2.rest d (flat_take (order_flat _) hgr hd)) (by have:=nodup_lt h1.2.2.nodup h1.2.1;omega) h
theorem lags3_must {p:Pgm} (hp:progR p=true) {g r:Nat} (hg:g < (orderR (tosR p)).length) (hr:((orderR (tosR p)).getD g []).length<=r):lags3 p (orderR (tosR p)) g r ((orderR (tosR p)).getD g []).length=lags3 p (orderR (tosR p)) g r 0:=by
 have hgr:(orderR (tosR p))[g]? = some ((orderR (tosR p)).getD g []):=by rw [List.getD_eq_getElem?_getD,List.getElem?_eq_getElem hg];rfl
 have h1:=(order_small hp).2 _ (List.mem_of_getElem? hgr)
 have h2:=lags_so hp g
 unfold lags3
 rw [List.take_zero,List.take_length]
 exact grp_must hp h1.2.2 h2.wide (fun d hd=>h2.rest d (flat_take (order_flat _) hgr hd)) hr
end Go.Abs

/- The lags fulfil their equations. -/
open Go Go.Abs
namespace Go.Abs
set_option maxRecDepth 100000
theorem rndL_len {p:Pgm} {ring:Bool}:∀ {g:List Nat} {E:List (List Lg)},(rndL p ring g E).length=E.length
 |[],_=>rfl
 |x::g,E=>by
  rw [show rndL p ring (x::g) E=rndL p ring g (setL p ring E x) from rfl,rndL_len]
  unfold setL
  exact List.length_set ..
theorem grp_is {tos:List (List Nat)} {d:Nat} (hd:d < tos.length):GrpIs tos (grpR tos d):=by
 obtain ⟨f,r,hfr⟩:∃ f r,grpR tos d=f::r:=by
  cases hg:grpR tos d with
  |nil=>have:=grp_self hd;rw [hg] at this;cases this
  |cons f r=>exact ⟨f,r,rfl⟩
 have hring:∀ k∈grpR tos d,reachB tos k k=reachB tos d d:=fun k hk=>by
  obtain ⟨_,h⟩:=(mem_grp hd).1 hk
  rcases h with rfl|⟨h1,h2⟩
  ·rfl
  ·rw [reachB_iff.2 (h1.trans h2),reachB_iff.2 (h2.trans h1)]
 have hr:ringB tos (grpR tos d)=reachB tos d d:=by
  rw [<-hring f (hfr▸List.mem_cons_self ..),hfr];rfl
 refine ⟨fun k hk=>grp_lt hk,⟨f,r,hfr⟩,grp_nodup d,fun k hk=>by rw [hr];exact hring k hk,fun h=>?_⟩
 rw [hr] at h
 exact ⟨d,grp_alone hd fun hc=>by rw [reachB_iff.2 hc] at h;cases h⟩
theorem ref_reach {p:Pgm} (hp:progR p=true) {d:Nat} (hd:d < p.defs.length) {x:Exp} (hx:x∈allE (expAt p d)) (hop:x.op=2\/x.op=3):Reach (tosR p) d (idxN (p.defs.map Dfn.name) x.name):=by
 have hgd:=progR_good hp
 refine .one ?_
 obtain ⟨y,hy⟩:=at_lt hd
 rw [hgd.tos.at' d y hy]
 unfold stepsN
 rw [List.mem_map]
 refine ⟨x,List.mem_filter.2 ⟨by rwa [expAt_at hy] at hx,?_⟩,?_⟩
 ·unfold namesDef
  rcases hop with h|h<;>rw [h]<;>rfl
 ·rw [(countR_parts (progR_count hp)).2.2.1]
theorem ref_lt {p:Pgm} (hp:progR p=true) {d:Nat} (hd:d < p.defs.length) {x:Exp} (hx:x∈allE (expAt p d)) (hop:x.op=2\/x.op=3):idxN (p.defs.map Dfn.name) x.name < p.defs.length:=by
 have:=((progR_node hp hd x hx).nodeB.2.1 hop).2
 have h2:=idxN_lt this
 rwa [List.length_map] at h2
theorem still_all {p:Pgm} {ring:Bool} {g:List Nat} {E:List (List Lg)} (hn:g.Nodup) (hl:∀ d∈g,d < E.length) (h:rndL p ring g E=E):∀ d∈g,setL p ring E d=E:=by
 have hall:∀ j k,k+j=g.length->rndL p ring (g.take k) E=E:=by
  intro j
  induction j with
  |zero=>intro k hk;rw [List.take_of_length_le (by omega)];exact h
  |succ j ih=>
   intro k hk
   obtain ⟨d,hd⟩:=at_lt (l:=g) (i:=k) (by omega)
   have h1:=ih (k+1) (by omega)
   refine ((still_step hn hd ?_).1 h1).1
   have h2:=rndL_len (p:=p) (ring:=ring) (g:=g.take k) (E:=E)
   rw [h2]
   exact hl d (List.mem_of_getElem? hd)
 intro d hd
 obtain ⟨k,hk,rfl⟩:=List.mem_iff_getElem.1 hd
 have h1:=hall (g.length-k) k (by omega)
 have h2:=hall (g.length-(k+1)) (k+1) (by omega)
 have h3:=((still_step hn (List.getElem?_eq_getElem hk) (by rw [h1];exact hl _ hd)).1 h2).2
 rw [h1] at h3
 unfold setL
 rw [h3,List.getD_eq_getElem?_getD,List.getElem?_eq_getElem (hl _ hd)]
 exact List.set_getElem_self ..
def EqAt (p:Pgm) (D:List (List Lg)) (d:Nat):Prop:=∀ s,s < p.srcs.length->colD D s d=ringL (reachB (tosR p) d d) (expG p.srcs (p.defs.map Dfn.name) (colD D s) s (expAt p d))
structure LagInv (p:Pgm) (done:List Nat) (D:List (List Lg)):Prop where
 wide:Wide p D
 zero:∀ d,d∉done->∀ s,colD D s d=Lg.z
 is:DoneIs (tosR p) done
 down:∀ d∈done,∀ k,k < p.defs.length->Reach (tosR p) d k->k∈done
 eq:∀ d∈done,EqAt p D d
theorem LagInv.step {p:Pgm} (hp:progR p=true) {done:List Nat} {D:List (List Lg)} (h:LagInv p done D) {d:Nat} (hd:d < p.defs.length) (hr:readyR (tosR p) done d=true) :
  LagInv p (done++grpR (tosR p) d) (rndsL p (ringB (tosR p) (grpR (tosR p) d)) (grpR (tosR p) d) (p.defs.length+1) D):=by
 have htl:(tosR p).length=p.defs.length:=(progR_good hp).steps.2.1
 obtain ⟨hn,hk⟩:=ready_iff.1 hr
 have hgi:GrpIs (tosR p) (grpR (tosR p) d):=grp_is (by omega)
 have hap:∀ k∈grpR (tosR p) d,k∉done:=fun k hk=>h.is.apart (by omega) hn hk
 have hz:∀ e∈grpR (tosR p) d,∀ s,colD D s e=Lg.z:=fun e he s=>h.zero e (hap e he) s
 have hgl:(grpR (tosR p) d).length<=p.defs.length+1:=by
  have:=nodup_lt hgi.nodup hgi.lt
  omega
 have hstill:=grp_must hp hgi h.wide hz hgl
 have hw:Wide p (rndsL p (ringB (tosR p) (grpR (tosR p) d)) (grpR (tosR p) d) (p.defs.length+1) D):=h.wide.rnds _ _ _
 have hdn:∀ e∈done++grpR (tosR p) d,∀ k,k < p.defs.length->Reach (tosR p) e k->k∈done++grpR (tosR p) d:=fun e he k hkl hrk=>by
  rcases List.mem_append.1 he with he|he
  ·exact List.mem_append_left _ (h.down e he k hkl hrk)
  ·obtain ⟨_,h2⟩:=(mem_grp (by omega)).1 he
   have h3:Reach (tosR p) d k:=by
    rcases h2 with rfl|⟨h2,_⟩
    ·exact hrk
    ·exact h2.trans hrk
   exact List.mem_append.2 (hk k (by omega) h3)
 refine ⟨hw,fun e he s=>?_,h.is.step (by omega) hn,hdn,fun e he s hs=>?_⟩
 ·rw [List.mem_append,not_or] at he
  rw [colD_rnds he.2]
  exact h.zero e he.1 s
 ·rcases List.mem_append.1 he with hed|heg
  ·have hne:e∉grpR (tosR p) d:=fun hc=>hap e hc hed
   have hel:e < p.defs.length:=by have:=h.is.lt e hed;omega
   rw [colD_rnds hne,h.eq e hed s hs]
   congr 1
   refine expG_cong _ _ s _ fun x hx hop=>?_
   have h1:=h.down e hed _ (ref_lt hp hel hx hop) (ref_reach hp hel hx hop)
   rw [colD_rnds fun hc=>hap _ hc h1]
  ·have h1:=still_all hgi.nodup (fun k hk=>by rw [hw.len];have:=hgi.lt k hk;omega) hstill e heg
   have h2:=col_set hw (ringB (tosR p) (grpR (tosR p) d)) (d:=e) (by have:=hgi.lt e heg;omega) hs e
   rw [h1,if_pos rfl] at h2
   rw [hgi.ring e heg]
   exact h2
theorem lags_inv {p:Pgm} (hp:progR p=true):∀ (f:Nat) (done:List Nat) (D:List (List Lg)),LagInv p done D->(tosR p).length<=done.length+f ->
  ∃ done',(tosR p).length<=done'.length/\LagInv p done' ((orderTo (tosR p) f done).foldl (fun D g=>rndsL p (ringB (tosR p) g) g (p.defs.length+1) D) D)
 |0,done,D,h,hl=>⟨done,by omega,h⟩
 |f+1,done,D,h,hl=>by
  have htl:(tosR p).length=p.defs.length:=(progR_good hp).steps.2.1
  by_cases hfull:(tosR p).length<=done.length
  ·rw [orderTo_end h.is hfull]
   exact ⟨done,hfull,h⟩
  ·obtain ⟨d,hx,hd,hn⟩:=next_some (tos:=tosR p) (done:=done) (by omega)
   obtain ⟨_,hr,_⟩:=next_inv hx
   rw [orderTo,hx]
   simp only [List.foldl_cons]
   refine lags_inv hp f _ _ (h.step hp (by omega) hr) ?_
   have:1<=(grpR (tosR p) d).length:=List.length_pos_of_mem (grp_self hd)
   rw [List.length_append];omega
theorem lags_eq {p:Pgm} (hp:progR p=true) {d:Nat} (hd:d < p.defs.length):EqAt p (lagsR p) d:=by
 have htl:(tosR p).length=p.defs.length:=(progR_good hp).steps.2.1
 obtain ⟨done,h1,h2⟩:=lags_inv hp (tosR p).length [] (zeroL p) ⟨Wide.zero p,fun d _ s=>colD_zero p s d, .nil,(fun d h=>by cases h),(fun d h=>by cases h)⟩ (by simp)
 exact h2.eq d (h2.is.all h1 (by omega))
end Go.Abs

/- Lags of expressions: whether there are any, from the beginning or not; and what is put in place. -/
open Go Go.Abs
namespace Go.Abs
set_option maxRecDepth 100000
theorem NodeIs.leaf {srcs defs:List Str} {ahead:Nat} {x:Exp} (h:NodeIs srcs defs ahead x):(x.op=1\/x.op=2\/x.op=3->x.kids=[])/\(x.op=2->x.n=0):=by
 obtain ⟨s,h1,h2⟩:=h
 unfold headIs at h2
 simp only [Bool.and_eq_true,beq_iff_eq,inR,decide_eq_true_eq] at h2
 obtain ⟨⟨⟨⟨⟨_,h4⟩,_⟩,h6⟩,_⟩,_⟩:=h2
 refine ⟨fun hop=>?_,fun hop=>?_⟩
 ·have hk:x.kids.length=0:=by
   rcases hop with h|h|h
   all_goals
    simp [shapeR,h] at h1
    subst h1
    exact h4
  exact List.length_eq_zero_iff.1 hk
 ·simp [shapeR,hop] at h1
  subst h1
  simp only at h6
  omega
theorem Lg.thru_on {a:Lg} {ev:Bool} {bk ah:Int}:(a.thru ev bk ah).on=a.on:=by
 unfold Lg.thru
 cases h:a.on
 ·rw [if_neg (by simp)];exact h
 ·rw [if_pos rfl]
theorem kidL_on {op n:Int} {i:Nat} {a:Lg}:(kidL op n i a).on=a.on:=by
 unfold kidL
 repeat' split
 all_goals first|exact Lg.thru_on|rfl
def Lg.full (a:Lg):Bool:=a.on&&a.ever
theorem Lg.thru_full {a:Lg} {ev:Bool} {bk ah:Int} (h:a.full=true):(a.thru ev bk ah).full=true:=by
 unfold Lg.full at h ⊢
 rw [Bool.and_eq_true] at h
 unfold Lg.thru
 rw [if_pos h.1,h.2];rfl
theorem Lg.both_full {a b:Lg} (h:a.full=true\/b.full=true):(a.both b).full=true:=by
 unfold Lg.full at h ⊢
 rw [Bool.and_eq_true,Bool.and_eq_true] at h
 unfold Lg.both
 cases ha:a.on<;>cases hb:b.on<;>simp [ha,hb] at h ⊢
 ·exact h
 ·exact h
 ·rcases h with h|h<;>simp [h]
theorem kidL_full {op n:Int} {i:Nat} {a:Lg} (h:a.full=true):(kidL op n i a).full=true:=by
 unfold kidL
 repeat' split
 all_goals first|exact Lg.thru_full h|exact h
def onE (srcs names:List Str) (v:Nat->Lg) (s:Nat) (x:Exp):Bool:=(x.op==1&&idxN srcs x.name==s)||((x.op==2||x.op==3)&&(v (idxN names x.name)).on)
def Leafy (l:List Exp):Prop:=∀ x∈l,(x.op=1\/x.op=2\/x.op=3->x.kids=[])/\(x.op=2->x.n=0)
theorem Leafy.kids {op n fold:Int} {name:Str} {calcs:List Trm} {kids:List Exp} (h:Leafy (allE (.mk op name n fold calcs kids))):(op=1\/op=2\/op=3->kids=[])/\(op=2->n=0)/\Leafy (allEs kids):=by
 rw [allE] at h
 exact ⟨(h _ (List.mem_cons_self ..)).1,(h _ (List.mem_cons_self ..)).2,fun x hx=>h x (List.mem_cons_of_mem _ hx)⟩
theorem Leafy.cons {x:Exp} {r:List Exp} (h:Leafy (allEs (x::r))):Leafy (allE x)/\Leafy (allEs r):=by
 rw [allEs] at h
 exact ⟨fun y hy=>h y (List.mem_append_left _ hy),fun y hy=>h y (List.mem_append_right _ hy)⟩
mutual
theorem expG_on (srcs names:List Str) (v:Nat->Lg) (s:Nat):∀ e,Leafy (allE e)->(expG srcs names v s e).on=(allE e).any (onE srcs names v s)
 | .mk op name n fold calcs kids,h=>by
  obtain ⟨h1,h2,h3⟩:=h.kids
  rw [expG,allE,List.any_cons]
  by_cases o1:op=1
  ·rw [h1 (.inl o1),if_pos o1,allEs,List.any_nil,Bool.or_false]
   unfold onE
   simp only [Exp.op,Exp.name,o1]
   by_cases hs:idxN srcs name=s
   ·rw [if_pos hs];simp [hs]
   ·rw [if_neg hs];simp [hs,Lg.z]
  ·rw [if_neg o1]
   by_cases o2:op=2\/op=3
   ·rw [h1 (.inr o2),if_pos o2,allEs,List.any_nil,Bool.or_false,Lg.thru_on]
    unfold onE
    simp only [Exp.op,Exp.name]
    rcases o2 with o2|o2<;>simp [o2]
   ·rw [if_neg o2,kidsG_on srcs names v s op n kids 0 Lg.z h3]
    unfold onE
    simp only [Exp.op,Exp.name]
    rw [not_or] at o2
    simp [o1,o2.1,o2.2,Lg.z]
theorem kidsG_on (srcs names:List Str) (v:Nat->Lg) (s:Nat) (op n:Int):∀ (l:List Exp) (i:Nat) (a:Lg),Leafy (allEs l)->(kidsG srcs names v s op n l i a).on=(a.on||(allEs l).any (onE srcs names v s))
 |[],_,_,_=>by rw [kidsG,allEs];simp
 |x::r,i,a,h=>by
  obtain ⟨h1,h2⟩:=h.cons
  rw [kidsG,kidsG_on srcs names v s op n r (i+1) _ h2,Lg.both_on,kidL_on,expG_on srcs names v s x h1,allEs,List.any_append,Bool.or_assoc]
end
theorem kidsG_keep (srcs names:List Str) (v:Nat->Lg) (s:Nat) (op n:Int):∀ (l:List Exp) (i:Nat) {a:Lg},a.full=true->(kidsG srcs names v s op n l i a).full=true
 |[],_,_,h=>by rw [kidsG];exact h
 |x::r,i,_,h=>by rw [kidsG];exact kidsG_keep srcs names v s op n r (i+1) (Lg.both_full (.inl h))
mutual
theorem expG_full (srcs names:List Str) (v:Nat->Lg) (s:Nat):∀ e,Leafy (allE e)->∀ y∈allE e,y.op=2\/y.op=3->(v (idxN names y.name)).full=true->(expG srcs names v s e).full=true
 | .mk op name n fold calcs kids,h,y,hy,hop,hv=>by
  obtain ⟨h1,h2,h3⟩:=h.kids
  rw [allE] at hy
  rw [expG]
  rcases List.mem_cons.1 hy with rfl|hy
  ·simp only [Exp.op,Exp.name] at hop hv
   rw [if_neg (by omega),if_pos hop]
   exact Lg.thru_full hv
  ·by_cases o:op=1\/op=2\/op=3
   ·rw [h1 o,allEs] at hy;cases hy
   ·rw [not_or,not_or] at o
    rw [if_neg o.1,if_neg (by omega)]
    exact kidsG_full srcs names v s op n kids 0 h3 y hy hop hv
theorem kidsG_full (srcs names:List Str) (v:Nat->Lg) (s:Nat) (op n:Int):∀ (l:List Exp) (i:Nat) {a:Lg},Leafy (allEs l)->∀ y∈allEs l,y.op=2\/y.op=3->(v (idxN names y.name)).full=true->(kidsG srcs names v s op n l i a).full=true
 |[],_,_,_,y,hy,_,_=>by rw [allEs] at hy;cases hy
 |x::r,i,_,h,y,hy,hop,hv=>by
  obtain ⟨h1,h2⟩:=h.cons
  rw [allEs] at hy
  rw [kidsG]
  rcases List.mem_append.1 hy with hy|hy
  ·exact kidsG_keep srcs names v s op n r (i+1) (Lg.both_full (.inr (kidL_full (expG_full srcs names v s x h1 y hy hop hv))))
  ·exact kidsG_full srcs names v s op n r (i+1) h2 y hy hop hv
end
structure Rel (F:Lg->Lg->Prop):Prop where
 refl:∀ a,F a a
 both:∀ {a b c d:Lg},F a c->F b d->F (a.both b) (c.both d)
 kid:∀ {a b:Lg},F a b->∀ op n i,F (kidL op n i a) (kidL op n i b)
theorem Rel.le:Rel Lg.Le:=⟨.refl, .both,fun h op n i=>h.kid op n i⟩
theorem Rel.ge:Rel fun a b=>Lg.Le b a:=⟨.refl,fun h k=>Lg.Le.both h k,fun h op n i=>h.kid op n i⟩
mutual
theorem expG_put {F:Lg->Lg->Prop} (hF:Rel F) (srcs np nq:List Str) (vp vq:Nat->Lg) (s:Nat) (nm:Str) (rep e0:Exp) (hr:∀ y∈allE e0,y.op=2/\y.name=nm->F (expG srcs nq vq s rep) ((vp (idxN np nm)).thru false 0 0)):∀ e,(∀ y∈allE e,y∈allE e0)->Leafy (allE e) ->
  (∀ y∈allE e,(y.op=2/\y.name≠nm)\/y.op=3->vq (idxN nq y.name)=vp (idxN np y.name))->F (expG srcs nq vq s (putE nm rep e)) (expG srcs np vp s e)
 | .mk op name n fold calcs kids,hin,h,hv=>by
  obtain ⟨h1,h2,h3⟩:=h.kids
  rw [putE]
  by_cases hc:op=2/\name=nm
  ·have hr:=hr _ (hin (.mk op name n fold calcs kids) (by rw [allE];exact List.mem_cons_self ..)) hc
   rw [if_pos (by simp [hc.1,hc.2]),expG,if_neg (by omega),if_pos (.inl hc.1),hc.2,h2 hc.1]
   exact hr
  ·rw [if_neg (by simpa using hc),expG,expG]
   have hself:=hv (.mk op name n fold calcs kids) (by rw [allE];exact List.mem_cons_self ..)
   simp only [Exp.op,Exp.name] at hself
   by_cases o1:op=1
   ·rw [if_pos o1,if_pos o1];exact hF.refl _
   ·rw [if_neg o1,if_neg o1]
    by_cases o2:op=2\/op=3
    ·rw [if_pos o2,if_pos o2,hself (by
      rcases o2 with o2|o2
      ·exact .inl ⟨o2,fun he=>hc ⟨o2,he⟩⟩
      ·exact .inr o2)]
     exact hF.refl _
    ·rw [if_neg o2,if_neg o2]
     exact kidsG_put hF srcs np nq vp vq s nm rep e0 hr op n kids 0 (fun y hy=>hin y (by rw [allE];exact List.mem_cons_of_mem _ hy)) h3 (fun y hy=>hv y (by rw [allE];exact List.mem_cons_of_mem _ hy)) (hF.refl _)
theorem kidsG_put {F:Lg->Lg->Prop} (hF:Rel F) (srcs np nq:List Str) (vp vq:Nat->Lg) (s:Nat) (nm:Str) (rep e0:Exp) (hr:∀ y∈allE e0,y.op=2/\y.name=nm->F (expG srcs nq vq s rep) ((vp (idxN np nm)).thru false 0 0)) (op n:Int):∀ (l:List Exp) (i:Nat) {a b:Lg},(∀ y∈allEs l,y∈allE e0)->Leafy (allEs l) ->
  (∀ y∈allEs l,(y.op=2/\y.name≠nm)\/y.op=3->vq (idxN nq y.name)=vp (idxN np y.name))->F a b->F (kidsG srcs nq vq s op n (putL nm rep l) i a) (kidsG srcs np vp s op n l i b)
 |[],_,_,_,_,_,_,hab=>by rw [putL,kidsG,kidsG];exact hab
 |x::r,i,_,_,hin,h,hv,hab=>by
  obtain ⟨h1,h2⟩:=h.cons
  rw [putL,kidsG,kidsG]
  exact kidsG_put hF srcs np nq vp vq s nm rep e0 hr op n r (i+1) (fun y hy=>hin y (by rw [allEs];exact List.mem_append_right _ hy)) h2 (fun y hy=>hv y (by rw [allEs];exact List.mem_append_right _ hy)) (hF.both hab (hF.kid (expG_put hF srcs np nq vp vq s nm rep e0 hr x (fun y hy=>hin y (by rw [allEs];exact List.mem_append_left _ hy)) h1 fun y hy=>hv y (by rw [allEs];exact List.mem_append_left _ hy)) op n i))
end
mutual
theorem expG_names (srcs np nq:List Str) {vp vq:Nat->Lg} (s:Nat):∀ e,(∀ y∈allE e,y.op=2\/y.op=3->vq (idxN nq y.name)=vp (idxN np y.name))->expG srcs nq vq s e=expG srcs np vp s e
 | .mk op name n fold calcs kids,h=>by
  rw [expG,expG]
  by_cases o1:op=1
  ·rw [if_pos o1,if_pos o1]
  ·rw [if_neg o1,if_neg o1]
   by_cases o2:op=2\/op=3
   ·rw [if_pos o2,if_pos o2]
    have:=h (.mk op name n fold calcs kids) (by rw [allE];exact List.mem_cons_self ..) o2
    simp only [Exp.name] at this
    rw [this]
   ·rw [if_neg o2,if_neg o2]
    exact kidsG_names srcs np nq s op n kids 0 Lg.z fun y hy=>h y (by rw [allE];exact List.mem_cons_of_mem _ hy)
theorem kidsG_names (srcs np nq:List Str) {vp vq:Nat->Lg} (s:Nat) (op n:Int):∀ (l:List Exp) (i:Nat) (a:Lg),(∀ y∈allEs l,y.op=2\/y.op=3->vq (idxN nq y.name)=vp (idxN np y.name))->kidsG srcs nq vq s op n l i a=kidsG srcs np vp s op n l i a
 |[],_,_,_=>by rw [kidsG,kidsG]
 |x::r,i,a,h=>by
  rw [kidsG,kidsG,expG_names srcs np nq s x fun y hy=>h y (by rw [allEs];exact List.mem_append_left _ hy)]
  exact kidsG_names srcs np nq s op n r (i+1) _ fun y hy=>h y (by rw [allEs];exact List.mem_append_right _ hy)
end
end Go.Abs

/- What is put in place: nodes, numbers, steps. -/
open Go Go.Abs
namespace Go.Abs
set_option maxRecDepth 100000
def isRef (y:Exp):Prop:=y.op=2\/y.op=3
mutual
theorem put_keep {nm:Str} {rep:Exp}:∀ e,Leafy (allE e)->∀ y∈allE e,isRef y->¬ (y.op=2/\y.name=nm)->y∈allE (putE nm rep e)
 | .mk op name n fold calcs kids,h,y,hy,ho,hne=>by
  obtain ⟨h1,h2,h3⟩:=h.kids
  rw [allE] at hy
  rw [putE]
  rcases List.mem_cons.1 hy with rfl|hy
  ·simp only [isRef,Exp.op,Exp.name] at ho hne
   rw [if_neg (by simpa using hne),h1 (.inr ho),putL,allE]
   exact List.mem_cons_self ..
  ·by_cases o:op=1\/op=2\/op=3
   ·rw [h1 o,allEs] at hy;cases hy
   ·rw [not_or,not_or] at o
    rw [if_neg (by simp [o.2.1]),allE]
    exact List.mem_cons_of_mem _ (putL_keep kids h3 y hy ho hne)
theorem putL_keep {nm:Str} {rep:Exp}:∀ l,Leafy (allEs l)->∀ y∈allEs l,isRef y->¬ (y.op=2/\y.name=nm)->y∈allEs (putL nm rep l)
 |[],_,y,hy,_,_=>by rw [allEs] at hy;cases hy
 |e::r,h,y,hy,ho,hne=>by
  obtain ⟨h1,h2⟩:=h.cons
  rw [allEs] at hy
  rw [putL,allEs]
  rcases List.mem_append.1 hy with hy|hy
  ·exact List.mem_append_left _ (put_keep e h1 y hy ho hne)
  ·exact List.mem_append_right _ (putL_keep r h2 y hy ho hne)
end
mutual
theorem put_rep {nm:Str} {rep:Exp}:∀ e,Leafy (allE e)->∀ y∈allE e,y.op=2/\y.name=nm->∀ z∈allE rep,z∈allE (putE nm rep e)
 | .mk op name n fold calcs kids,h,y,hy,ho,z,hz=>by
  obtain ⟨h1,h2,h3⟩:=h.kids
  rw [allE] at hy
  rw [putE]
  rcases List.mem_cons.1 hy with rfl|hy
  ·simp only [Exp.op,Exp.name] at ho
   rw [if_pos (by simp [ho.1,ho.2])]
   exact hz
  ·by_cases o:op=1\/op=2\/op=3
   ·rw [h1 o,allEs] at hy;cases hy
   ·rw [not_or,not_or] at o
    rw [if_neg (by simp [o.2.1]),allE]
    exact List.mem_cons_of_mem _ (putL_rep kids h3 y hy ho z hz)
theorem putL_rep {nm:Str} {rep:Exp}:∀ l,Leafy (allEs l)->∀ y∈allEs l,y.op=2/\y.name=nm->∀ z∈allE rep,z∈allEs (putL nm rep l)
 |[],_,y,hy,_,_,_=>by rw [allEs] at hy;cases hy
 |e::r,h,y,hy,ho,z,hz=>by
  obtain ⟨h1,h2⟩:=h.cons
  rw [allEs] at hy
  rw [putL,allEs]
  rcases List.mem_append.1 hy with hy|hy
  ·exact List.mem_append_left _ (put_rep e h1 y hy ho z hz)
  ·exact List.mem_append_right _ (putL_rep r h2 y hy ho z hz)
end
mutual
theorem put_from {nm:Str} {rep:Exp}:∀ e,Leafy (allE e)->∀ z∈allE (putE nm rep e),isRef z->(z∈allE e/\¬ (z.op=2/\z.name=nm))\/(z∈allE rep/\∃ y∈allE e,y.op=2/\y.name=nm)
 | .mk op name n fold calcs kids,h,z,hz,ho=>by
  obtain ⟨h1,h2,h3⟩:=h.kids
  rw [putE] at hz
  by_cases hc:op=2/\name=nm
  ·rw [if_pos (by simp [hc.1,hc.2])] at hz
   exact .inr ⟨hz, .mk op name n fold calcs kids,by rw [allE];exact List.mem_cons_self ..,hc⟩
  ·rw [if_neg (by simpa using hc),allE] at hz
   rcases List.mem_cons.1 hz with rfl|hz
   ·simp only [isRef,Exp.op,Exp.name] at ho ⊢
    refine .inl ⟨?_,hc⟩
    rw [h1 (.inr ho),putL,allE]
    exact List.mem_cons_self ..
   ·rcases putL_from kids h3 z hz ho with ⟨h4,h5⟩|⟨h4,y,h5,h6⟩
    ·exact .inl ⟨by rw [allE];exact List.mem_cons_of_mem _ h4,h5⟩
    ·exact .inr ⟨h4,y,by rw [allE];exact List.mem_cons_of_mem _ h5,h6⟩
theorem putL_from {nm:Str} {rep:Exp}:∀ l,Leafy (allEs l)->∀ z∈allEs (putL nm rep l),isRef z->(z∈allEs l/\¬ (z.op=2/\z.name=nm))\/(z∈allE rep/\∃ y∈allEs l,y.op=2/\y.name=nm)
 |[],_,z,hz,_=>by rw [putL,allEs] at hz;cases hz
 |e::r,h,z,hz,ho=>by
  obtain ⟨h1,h2⟩:=h.cons
  rw [putL,allEs] at hz
  rcases List.mem_append.1 hz with hz|hz
  ·rcases put_from e h1 z hz ho with ⟨h4,h5⟩|⟨h4,y,h5,h6⟩
   ·exact .inl ⟨by rw [allEs];exact List.mem_append_left _ h4,h5⟩
   ·exact .inr ⟨h4,y,by rw [allEs];exact List.mem_append_left _ h5,h6⟩
  ·rcases putL_from r h2 z hz ho with ⟨h4,h5⟩|⟨h4,y,h5,h6⟩
   ·exact .inl ⟨by rw [allEs];exact List.mem_append_right _ h4,h5⟩
   ·exact .inr ⟨h4,y,by rw [allEs];exact List.mem_append_right _ h5,h6⟩
end
/-! Numbers without one of them. -/
def upN (d j:Nat):Nat:=if j < d then j else j+1
def dnN (d e:Nat):Nat:=if e < d then e else e-1
theorem dn_up (d j:Nat):dnN d (upN d j)=j:=by unfold dnN upN;(repeat' split)<;>omega
theorem up_dn {d e:Nat} (h:e≠d):upN d (dnN d e)=e:=by unfold dnN upN;(repeat' split)<;>omega
theorem up_ne (d j:Nat):upN d j≠d:=by unfold upN;split<;>omega
theorem erase_up {α:Type} {l:List α} {d j:Nat}:(l.eraseIdx d)[j]? = l[upN d j]? := by
 rw [List.getElem?_eraseIdx]
 unfold upN
 split<;>rfl
theorem idxN_get {l:List Str} {s:Str} (hn:l.Nodup) (h:s∈l):l[idxN l s]? = some s:=by
 obtain ⟨i,hi,rfl⟩:=List.mem_iff_getElem.1 h
 rw [idxN_at hn (List.getElem?_eq_getElem hi)]
 exact List.getElem?_eq_getElem hi
theorem nodup_erase {l:List Str} (hn:l.Nodup) (d:Nat):(l.eraseIdx d).Nodup:=List.Sublist.nodup (List.eraseIdx_sublist l d) hn
theorem idxN_erase {l:List Str} {s:Str} {d:Nat} (hn:l.Nodup) (h:s∈l) (hd:idxN l s≠d):idxN (l.eraseIdx d) s=dnN d (idxN l s):=by
 refine idxN_at (nodup_erase hn d) ?_
 rw [erase_up,up_dn hd]
 exact idxN_get hn h
end Go.Abs

/- A program without a definition whose expression stands in its place: its steps. -/
open Go Go.Abs
namespace Go.Abs
set_option maxRecDepth 100000
theorem map_erase {α β:Type} (f:α->β):∀ (l:List α) (d:Nat),(l.eraseIdx d).map f=(l.map f).eraseIdx d
 |[],_=>rfl
 |_::_,0=>rfl
 |a::l,d+1=>by
  show f a::(l.eraseIdx d).map f=f a::(l.map f).eraseIdx d
  rw [map_erase f l d]
def nmsP (p:Pgm):List Str:=p.defs.map Dfn.name
theorem step_iff {p:Pgm} (hp:progR p=true) {e:Nat} (he:e < p.defs.length) {k:Nat}:k∈(tosR p).getD e []↔∃ y∈allE (expAt p e),isRef y/\idxN (nmsP p) y.name=k:=by
 obtain ⟨w,hw⟩:=at_lt he
 rw [(progR_good hp).tos.at' e w hw,expAt_at hw]
 unfold stepsN
 rw [(countR_parts (progR_count hp)).2.2.1,List.mem_map]
 constructor
 ·rintro ⟨y,hy,hk⟩
  obtain ⟨h1,h2⟩:=List.mem_filter.1 hy
  refine ⟨y,h1,?_,hk⟩
  unfold namesDef at h2
  unfold isRef
  simpa using h2
 ·rintro ⟨y,hy,ho,hk⟩
  refine ⟨y,List.mem_filter.2 ⟨hy,?_⟩,hk⟩
  unfold namesDef
  unfold isRef at ho
  simpa using ho
structure InlIs (p:Pgm) (d:Nat) (x:Dfn):Prop where
 at':p.defs[d]? = some x
 hp:progR p=true
 hq:progR (inlP p d x)=true
 na:∀ e,e < p.defs.length->∀ y∈allE (expAt p e),¬ (y.op=3/\y.name=x.name)
section
variable {p:Pgm} {d:Nat} {x:Dfn}
theorem InlIs.lt (I:InlIs p d x):d < p.defs.length:=(List.getElem?_eq_some_iff.1 I.at').1
theorem InlIs.names (_I:InlIs p d x):nmsP (inlP p d x)=(nmsP p).eraseIdx d:=by
 unfold nmsP inlP
 simp only [List.map_map]
 rw [<-map_erase]
 rfl
theorem InlIs.len (I:InlIs p d x):(inlP p d x).defs.length+1=p.defs.length:=by
 unfold inlP
 simp only [List.length_map]
 rw [List.length_eraseIdx_of_lt I.lt]
 have:=I.lt
 omega
theorem InlIs.up (I:InlIs p d x) {j:Nat} (hj:j < (inlP p d x).defs.length):upN d j < p.defs.length:=by
 have:=I.len
 unfold upN
 split<;>omega
theorem InlIs.dn (I:InlIs p d x) {e:Nat} (he:e < p.defs.length) (hne:e≠d):dnN d e < (inlP p d x).defs.length:=by
 have:=I.len
 have:=I.lt
 unfold dnN
 split<;>omega
theorem InlIs.exp (I:InlIs p d x) {j:Nat} (hj:j < (inlP p d x).defs.length):expAt (inlP p d x) j=putE x.name x.exp (expAt p (upN d j)):=by
 obtain ⟨w,hw⟩:=at_lt (I.up hj)
 rw [expAt_at hw]
 have h:(inlP p d x).defs[j]? = some (putD x.name x.exp w):=by
  unfold inlP
  simp only [List.getElem?_map]
  rw [erase_up,hw];rfl
 rw [expAt_at h];rfl
theorem InlIs.expd (I:InlIs p d x):expAt p d=x.exp:=expAt_at I.at'
theorem leafy_at {p:Pgm} (hp:progR p=true) {e:Nat} (he:e < p.defs.length):Leafy (allE (expAt p e)):=fun y hy=>(progR_node hp he y hy).leaf
theorem nms_nodup {p:Pgm} (hp:progR p=true):(nmsP p).Nodup:=by
 have h:=countR_parts (progR_count hp)
 have h1:=diff_nodup h.2.1
 rw [h.2.2.1] at h1
 exact (List.nodup_append.1 h1).2.1
theorem ref_name {p:Pgm} (hp:progR p=true) {e:Nat} (he:e < p.defs.length) {y:Exp} (hy:y∈allE (expAt p e)) (ho:isRef y):y.name∈nmsP p:=((progR_node hp he y hy).nodeB.2.1 ho).2
theorem InlIs.nmd (I:InlIs p d x):idxN (nmsP p) x.name=d:=idxN_at (nms_nodup I.hp) (by unfold nmsP;rw [List.getElem?_map,I.at'];rfl)
theorem InlIs.ref_d (I:InlIs p d x) {e:Nat} (he:e < p.defs.length) {y:Exp} (hy:y∈allE (expAt p e)) (ho:isRef y):idxN (nmsP p) y.name=d↔(y.op=2/\y.name=x.name):=by
 constructor
 ·intro h
  have h1:=idxN_get (nms_nodup I.hp) (ref_name I.hp he hy ho)
  rw [h] at h1
  have h2:(nmsP p)[d]? = some x.name:=by unfold nmsP;rw [List.getElem?_map,I.at'];rfl
  rw [h2] at h1
  have h3:y.name=x.name:=(Option.some.inj h1).symm
  rcases ho with ho|ho
  ·exact ⟨ho,h3⟩
  ·exact absurd ⟨ho,h3⟩ (I.na e he y hy)
 ·rintro ⟨_,h⟩
  rw [h,I.nmd]
theorem InlIs.ref_q (I:InlIs p d x) {e:Nat} (he:e < p.defs.length) {y:Exp} (hy:y∈allE (expAt p e)) (ho:isRef y) (hne:idxN (nmsP p) y.name≠d):idxN (nmsP (inlP p d x)) y.name=dnN d (idxN (nmsP p) y.name):=by
 rw [I.names]
 exact idxN_erase (nms_nodup I.hp) (ref_name I.hp he hy ho) hne
theorem InlIs.step (I:InlIs p d x) {e k:Nat} (he:e < p.defs.length) (hed:e≠d) (hk:k∈(tosR p).getD e []) (hkd:k≠d):dnN d k∈(tosR (inlP p d x)).getD (dnN d e) []:=by
 obtain ⟨y,hy,ho,rfl⟩:=(step_iff I.hp he).1 hk
 have hj:=I.dn he hed
 refine (step_iff I.hq hj).2 ⟨y,?_,ho,I.ref_q he hy ho hkd⟩
 rw [I.exp hj,up_dn hed]
 exact put_keep _ (leafy_at I.hp he) y hy ho fun hc=>hkd ((I.ref_d he hy ho).2 hc)
theorem InlIs.step2 (I:InlIs p d x) {e k:Nat} (he:e < p.defs.length) (hed:e≠d) (hd:d∈(tosR p).getD e []) (hk:k∈(tosR p).getD d []) (hkd:k≠d):dnN d k∈(tosR (inlP p d x)).getD (dnN d e) []:=by
 obtain ⟨y,hy,ho,hyd⟩:=(step_iff I.hp he).1 hd
 obtain ⟨z,hz,hoz,rfl⟩:=(step_iff I.hp I.lt).1 hk
 have hj:=I.dn he hed
 refine (step_iff I.hq hj).2 ⟨z,?_,hoz,I.ref_q I.lt hz hoz hkd⟩
 rw [I.exp hj,up_dn hed]
 exact put_rep _ (leafy_at I.hp he) y hy ((I.ref_d he hy ho).1 hyd) z (by rw [<-I.expd];exact hz)
theorem step_lt {p:Pgm} (hp:progR p=true) {e k:Nat} (he:e < p.defs.length) (hk:k∈(tosR p).getD e []):k < p.defs.length:=by
 obtain ⟨y,hy,ho,rfl⟩:=(step_iff hp he).1 hk
 exact ref_lt hp he hy ho
theorem reach_lt {p:Pgm} (hp:progR p=true) {e k:Nat} (he:e < p.defs.length) (h:Reach (tosR p) e k):k < p.defs.length:=by
 induction h with
 |one h=>exact step_lt hp he h
 |more _ hj ih=>exact step_lt hp ih hj
theorem InlIs.reach (I:InlIs p d x) {e k:Nat} (he:e < p.defs.length) (hed:e≠d) (h:Reach (tosR p) e k) :
  (k≠d->Reach (tosR (inlP p d x)) (dnN d e) (dnN d k))/\(k=d->∃ a,a < p.defs.length/\a≠d/\(a=e\/Reach (tosR (inlP p d x)) (dnN d e) (dnN d a))/\d∈(tosR p).getD a []):=by
 induction h with
 |one h=>exact ⟨fun hk => .one (I.step he hed h hk),fun hk=>⟨e,he,hed, .inl rfl,hk▸h⟩⟩
 |@more m k hm hj ih=>
  have hml:=reach_lt I.hp he hm
  by_cases hmd:m=d
  ·obtain ⟨a,ha,had,h1,h2⟩:=ih.2 hmd
   rw [hmd] at hj
   refine ⟨fun hk=>?_,fun _=>⟨a,ha,had,h1,h2⟩⟩
   have h3:=I.step2 ha had h2 hj hk
   rcases h1 with rfl|h1
   ·exact .one h3
   ·exact .more h1 h3
  ·have h1:=ih.1 hmd
   exact ⟨fun hk => .more h1 (I.step hml hmd hj hk),fun hk=>⟨m,hml,hmd, .inr h1,hk▸hj⟩⟩
theorem InlIs.step_from (I:InlIs p d x) {j k:Nat} (hj:j < (inlP p d x).defs.length) (hk:k∈(tosR (inlP p d x)).getD j []):upN d k∈(tosR p).getD (upN d j) []\/(d∈(tosR p).getD (upN d j) []/\upN d k∈(tosR p).getD d []):=by
 obtain ⟨z,hz,ho,rfl⟩:=(step_iff I.hq hj).1 hk
 have hu:=I.up hj
 have hzn:z.name∈nmsP (inlP p d x):=ref_name I.hq hj hz ho
 rw [I.exp hj] at hz
 have hup:∀ {e:Nat},e < p.defs.length->z∈allE (expAt p e)->upN d (idxN (nmsP (inlP p d x)) z.name)∈(tosR p).getD e []:=fun {e} he hze=>by
  have hne:idxN (nmsP p) z.name≠d:=fun hc=>by
   have h1:=idxN_get (nms_nodup I.hp) (ref_name I.hp he hze ho)
   rw [I.names] at hzn
   obtain ⟨i,hi,hie⟩:=List.mem_iff_getElem.1 hzn
   have h2:((nmsP p).eraseIdx d)[i]? = some z.name:=by rw [List.getElem?_eq_getElem hi,hie]
   rw [erase_up] at h2
   have h3:=idxN_at (nms_nodup I.hp) h2
   exact up_ne d i (h3.symm.trans hc)
  refine (step_iff I.hp he).2 ⟨z,hze,ho,?_⟩
  rw [I.ref_q he hze ho hne,up_dn hne]
 rcases put_from _ (leafy_at I.hp hu) z hz ho with ⟨h1,_⟩|⟨h1,y,hy,h2⟩
 ·exact .inl (hup hu h1)
 ·refine .inr ⟨(step_iff I.hp hu).2 ⟨y,hy, .inl h2.1,(I.ref_d hu hy (.inl h2.1)).2 h2⟩,hup I.lt (by rw [I.expd];exact h1)⟩
theorem InlIs.reach_from (I:InlIs p d x) {j k:Nat} (hj:j < (inlP p d x).defs.length) (h:Reach (tosR (inlP p d x)) j k):Reach (tosR p) (upN d j) (upN d k):=by
 induction h with
 |one h=>
  rcases I.step_from hj h with h1|⟨h1,h2⟩
  ·exact .one h1
  ·exact .more (.one h1) h2
 |more hm hk ih=>
  rcases I.step_from (reach_lt I.hq hj hm) hk with h1|⟨h1,h2⟩
  ·exact .more ih h1
  ·exact .more (.more ih h1) h2
end
end Go.Abs

/- What the kinds of expressions do with the lags of their Kids. -/
open Go Go.Abs
namespace Go.Abs
set_option maxRecDepth 100000
set_option maxHeartbeats 4000000
instance fnis476:FnIs CC 176:=⟨rfl,fun _=>rfl⟩
instance fnis477:FnIs CC 177:=⟨rfl,fun _=>rfl⟩
instance fnis478:FnIs CC 178:=⟨rfl,fun _=>rfl⟩
instance fnis479:FnIs CC 179:=⟨rfl,fun _=>rfl⟩
instance fnis480:FnIs CC 180:=⟨rfl,fun _=>rfl⟩
instance fnis481:FnIs CC 181:=⟨rfl,fun _=>rfl⟩
instance fnis482:FnIs CC 182:=⟨rfl,fun _=>rfl⟩
instance fnis391:FnIs CC 91:=⟨rfl,fun _=>rfl⟩
theorem Lg.thru0 {a:Lg} (h:a.Ok):a.thru false 0 0=a:=by
 have h1:=h.back
 obtain ⟨on,e,b,f⟩:=a
 unfold Lg.thru
 cases on
 ·rfl
 ·cases e
  ·simp
  ·simp only at h1;simp [h1]
theorem Lg.In.wide {a:Lg} (h:a.In 4294967295):a.In 4294967296:=⟨⟨by have:=h.back;omega,by have:=h.back;omega⟩,⟨by have:=h.ahead;omega,by have:=h.ahead;omega⟩⟩
section
variable {a:Lg} {n:Int} {i:Nat}
theorem ret476:Ret CC 176 [a.iv, .int .i64 n,natIV i] a.iv:=by
 obtain ⟨on,e,b,f⟩:=a
 refine Ret.of (fn:=Go.Proofs.Tryz.f176) (by kernel_rfl) rfl rfl ?_
 refine BB ?_
 exact W.retFinCA rfl rfl rfl rfl ⟨[],rfl⟩
theorem ret477 (hk:a.Ok) (h:a.In 4294967295) (hn : -50<=n/\n<=50):Ret CC 177 [a.iv, .int .i64 n,natIV i] (a.thru false n (-n)).iv:=by
 have h1:=ret451 (bk:=n) (ah := -n) hk h.wide (by omega) (by omega)
 generalize a.thru=A at *
 obtain ⟨on,e,b,f⟩:=a
 refine Ret.of (fn:=Go.Proofs.Tryz.f177) (by kernel_rfl) rfl rfl ?_
 refine BB ?_
 exact W.retFinCA rfl rfl rfl rfl ⟨[],rfl⟩
theorem ret478 (hk:a.Ok) (h:a.In 4294967295) (hn : -50<=n/\n<=50):Ret CC 178 [a.iv, .int .i64 n,natIV i] (a.thru false (n-1) 0).iv:=by
 have h1:=ret451 (bk:=n-1) (ah:=0) hk h.wide (by omega) (by omega)
 generalize a.thru=A at *
 obtain ⟨on,e,b,f⟩:=a
 refine Ret.of (fn:=Go.Proofs.Tryz.f178) (by kernel_rfl) rfl rfl ?_
 refine BB ?_
 exact W.retFinCA rfl rfl rfl rfl ⟨[],rfl⟩
theorem ret479 (hk:a.Ok) (h:a.In 4294967295) (hn : -50<=n/\n<=50):Ret CC 179 [a.iv, .int .i64 n,natIV i] (a.thru false n 0).iv:=by
 have h1:=ret451 (bk:=n) (ah:=0) hk h.wide (by omega) (by omega)
 generalize a.thru=A at *
 obtain ⟨on,e,b,f⟩:=a
 refine Ret.of (fn:=Go.Proofs.Tryz.f179) (by kernel_rfl) rfl rfl ?_
 refine BB ?_
 exact W.retFinCA rfl rfl rfl rfl ⟨[],rfl⟩
theorem ret480:Ret CC 180 [a.iv, .int .i64 n,natIV i] (a.thru true 0 0).iv:=by
 have h1:=ret441 (a:=a)
 generalize a.thru=A at *
 obtain ⟨on,e,b,f⟩:=a
 refine Ret.of (fn:=Go.Proofs.Tryz.f180) (by kernel_rfl) rfl rfl ?_
 refine BB ?_
 exact W.retFinCA rfl rfl rfl rfl ⟨[],rfl⟩
theorem ret481 (hk:a.Ok) (hi:i<=1):Ret CC 181 [a.iv, .int .i64 n,natIV i] (a.thru (i==1) 0 0).iv:=by
 have h1:=ret441 (a:=a)
 have h0:=Lg.thru0 hk
 have hi:i=0\/i=1:=by omega
 rcases hi with rfl|rfl
 ·rw [show (0==1)=false from rfl,h0]
  obtain ⟨on,e,b,f⟩:=a
  refine Ret.of (fn:=Go.Proofs.Tryz.f181) (by kernel_rfl) rfl rfl ?_
  refine BB ?_
  exact W.retFinCA rfl rfl rfl rfl ⟨[],rfl⟩
 ·rw [show (1==1)=true from rfl]
  clear h0
  generalize a.thru=A at *
  obtain ⟨on,e,b,f⟩:=a
  refine Ret.of (fn:=Go.Proofs.Tryz.f181) (by kernel_rfl) rfl rfl ?_
  refine BB ?_
  exact W.retFinCA rfl rfl rfl rfl ⟨[],rfl⟩
theorem ret482 (hk:a.Ok) (h:a.In 4294967295) (hn : -50<=n/\n<=50) (hi:i<=1):Ret CC 182 [a.iv, .int .i64 n,natIV i] (a.thru false (n*i) (n*i)).iv:=by
 have hi:i=0\/i=1:=by omega
 rcases hi with rfl|rfl
 all_goals
  have h1:=fun x=>ret451 (bk:=x) (ah:=x) hk h.wide
 ·have h1:=h1 (n*((0:Nat):Int)) (by omega) (by omega)
  generalize a.thru=A at *
  obtain ⟨on,e,b,f⟩:=a
  refine Ret.of (fn:=Go.Proofs.Tryz.f182) (by kernel_rfl) rfl rfl ?_
  refine BB ?_
  exact W.retFinCA rfl rfl rfl rfl ⟨[],rfl⟩
 ·have h1:=h1 (n*((1:Nat):Int)) (by omega) (by omega)
  generalize a.thru=A at *
  obtain ⟨on,e,b,f⟩:=a
  refine Ret.of (fn:=Go.Proofs.Tryz.f182) (by kernel_rfl) rfl rfl ?_
  refine BB ?_
  exact W.retFinCA rfl rfl rfl rfl ⟨[],rfl⟩
def wayF (op:Int):FuncId:=if op=7 then 177 else if op=8 then 178 else if op=9\/op=12 then 179 else if op=10\/op=11 then 180 else if op=13 then 181 else if op=14 then 182 else 176
theorem retWay {op:Int} (hk:a.Ok) (h:a.In 4294967295) (hn : -50<=n/\n<=50) (hi:i<=1):Ret CC (wayF op) [a.iv, .int .i64 n,natIV i] (kidL op n i a).iv:=by
 unfold wayF kidL
 repeat' split
 ·exact ret477 hk h hn
 ·exact ret478 hk h hn
 ·exact ret479 hk h hn
 ·exact ret480
 ·exact ret481 hk hi
 ·exact ret482 hk h hn hi
 ·exact ret476
instance fnisWay {op:Int}:FnIs CC (wayF op):=by
 unfold wayF
 repeat' split
 all_goals infer_instance
def mnI (a b:Int):Int:=if b < a then b else a
theorem mnI_eq (a b:Int):mnI a b=min a b:=by unfold mnI;split<;>omega
def needN (a:Lg) (t:Int):Int:=if a.on then mxI 0 (mnI (t+a.ahead) 200+1) else 0
theorem ret391 {t:Int} (h:a.In 4294967296) (ht:0<=t/\t<=201):Ret CC 91 [a.iv, .int .i64 t] (.int .i64 (needN a t)):=by
 have h2:=h.ahead
 obtain ⟨on,e,b,f⟩:=a
 simp only at h2
 rw [Lg.iv_mk]
 refine Ret.of (fn:=Go.Proofs.Tryz.f91) (by kernel_rfl) rfl rfl ?_
 cases on
 ·refine BB ?_
  exact W.retFin1 rfl ⟨[],rfl⟩
 ·have hm : -9223372036854775808<=mnI (t+f) 200+1/\mnI (t+f) 200+1<=9223372036854775807:=by rw [mnI_eq];omega
  unfold mnI at hm
  refine BB ?_
  exact W.retFin1 rfl ⟨[],rfl⟩
end
end Go.Abs
