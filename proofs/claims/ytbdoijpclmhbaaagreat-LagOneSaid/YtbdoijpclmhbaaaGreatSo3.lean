/- The abstract interpreter: maps. -/
import Derived.Test.YtbdoijpclmhbaaaGreatSo2
import Derived.DeepKeys
import Derived.Laws.BytesString
import Derived.Maps.RangeRun
import Derived.AtR
import Derived.Defers
import Derived.RangeFuncIn
import Derived.RangeFuncLeaves
namespace Go.Abs
variable {id:Nat}
variable {M M':Mem} {ρ ρ':Ref} {G G':Nat->Obj} {w w':World} {nx:Nat} {Q:Nat->Prop} {P:Program} {C:Cfg}
theorem getD_entry (es:Array MapEntry) (i:Nat) (h:i < es.size):es.getD i default=es[i]:=by simp [Array.getD_eq_getD_getElem?,h]
def KeysOf (M:Mem) (ks:List IV) (es:List MapEntry):Prop:=ks.length=es.length/\∀ (i:Nat) x e,ks[i]? = some x->es[i]? = some e->VI M x e.key
theorem KeysOf.of {ks:List IV} {es:Array MapEntry} (hl:ks.length=es.size) (h:∀ (i:Nat) x,ks[i]? = some x->VI M x (es.getD i default).key):KeysOf M ks es.toList:=by
 refine ⟨by simpa using hl,fun i x e hx he=>?_⟩
 have:=h i x hx
 have hi:=(List.getElem?_eq_some_iff.1 hx).1
 rw [getD_entry es i (by omega)] at this
 rw [List.getElem?_eq_getElem (by simp;omega)] at he
 cases he
 simpa using this
theorem sameNow_ok {d:TypeDesc} {k x:IV} {ck cx:Value} {b:Bool} (hd:keyOk (tyd P d) k=true) (hk:VI M k ck) (hx:VI M x cx) (h:scalarEq k x=some b):Instr.sameNow d ck cx=some b:=by
 unfold keyOk at hd
 split at hd
 ·rename_i h1
  cases d<;>simp only [tyd,reduceCtorEq] at h1
  cases hk
  cases hx<;>simp only [scalarEq,reduceCtorEq] at h
  simpa [Instr.sameNow] using h
 ·rename_i h1
  cases d<;>simp only [tyd,reduceCtorEq] at h1
  cases hk
  cases hx<;>simp only [scalarEq,reduceCtorEq] at h
  simpa [Instr.sameNow] using h
 ·rename_i h1
  cases d<;>simp only [tyd,reduceCtorEq] at h1
  cases hk
  cases hx<;>simp only [scalarEq,reduceCtorEq] at h
  simpa [Instr.sameNow] using h
 ·cases hd
theorem findNow_ok {d:TypeDesc} {k:IV} {ck:Value} (hd:keyOk (tyd P d) k=true) (hk:VI M k ck):∀ (ks:List IV) (es:List MapEntry) (i0:Nat) (r:Option Nat),KeysOf M ks es->keyFind k ks=some r ->
  (∀ j,r=some j->j < es.length)/\Instr.findNow d ck es i0=some (r.bind fun j=>(es[j]?).map fun e=>(i0+j,e.val))/\(∀ j,r=some j->∃ x,ks[j]? = some x/\scalarEq k x=some true):=by
 intro ks
 induction ks with
 |nil=>
  intro es i0 r hK h
  cases es with
  |nil=>simp only [keyFind,Option.some.injEq] at h;subst h;exact ⟨fun j hj=>(nomatch hj),rfl,fun j hj=>(nomatch hj)⟩
  |cons e es=>simp [KeysOf] at hK
 |cons x ks ih=>
  intro es i0 r hK h
  cases es with
  |nil=>simp [KeysOf] at hK
  |cons e es=>
   have hx:=hK.2 0 x e rfl rfl
   have hK':KeysOf M ks es:=⟨by simpa using hK.1,fun i y e' hy he=>hK.2 (i+1) y e' (by simpa using hy) (by simpa using he)⟩
   simp only [keyFind] at h
   split at h
   ·rename_i hs
    cases h
    have:=sameNow_ok hd hk hx hs
    exact ⟨fun j hj=>by cases hj;simp,by simp [Instr.findNow,this],fun j hj=>by cases hj;exact ⟨x,rfl,hs⟩⟩
   ·rename_i hs
    have:=sameNow_ok hd hk hx hs
    simp only [Option.map_eq_some_iff] at h
    obtain ⟨r',h',rfl⟩:=h
    obtain ⟨h1,h2,h3⟩:=ih es (i0+1) r' hK' h'
    refine ⟨fun j hj=>?_,?_,fun j hj=>?_⟩
    ·cases r' with
     |none=>cases hj
     |some j'=>cases hj;have:=h1 j' rfl;simp;omega
    ·simp only [Instr.findNow,this,h2]
     cases r' with
     |none=>rfl
     |some j'=>simp [Nat.add_assoc,Nat.add_comm 1 j']
    ·cases r' with
     |none=>cases hj
     |some j'=>cases hj;obtain ⟨y,g1,g2⟩:=h3 j' rfl;exact ⟨y,by simpa using g1,g2⟩
   ·cases h
theorem checkKey_ok {d:TypeDesc} {kt:TypeId} {k:IV} {ck:Value} {em:Bool} {n:Nat} (hu:P.underlying kt=some d) (hd:keyOk (tyd P d) k=true):(Instr.checkKey em (n+1) kt ck).run P w = .ok () w:=by
 unfold keyOk at hd
 simp only [Instr.checkKey,Sem.run_bind,run_underlying' hu,Result.andThen_ok]
 split at hd<;>rename_i h1<;>first|(cases d<;>simp only [tyd,reduceCtorEq] at h1<;>rfl)|cases hd
theorem mapKV_ok {m:AV} {c:Value} {ks:List IV} {vs:List AV} (h:mapKV G m=some (ks,vs)) (hI:Inv Q w M ρ G nx) (hm:VA M ρ G m c) :
  (c = .map none/\ks=[]/\vs=[])\/∃ b es clk,c = .map (some b)/\w.heap[b]? = some (.map es clk)/\ks.length=es.size/\vs.length=es.size /\
   (∀ (i:Nat) x,ks[i]? = some x->VI M x (es.getD i default).key)/\(∀ (i:Nat) x,vs[i]? = some x->VA M ρ G x (es.getD i default).val):=by
 unfold mapKV at h
 split at h
 ·cases h
  have hm:=hm.imm_inv
  cases hm
  exact .inl ⟨rfl,rfl,rfl⟩
 ·cases h
  have hm:=hm.imm_inv
  cases hm with
  |fmp _ _ b es clk hM hk hv hks hvs hbn=>
   refine .inr ⟨b,es,clk,rfl,hI.mem _ _ hM,hk,by simpa using hv,hks,fun i x hx=>?_⟩
   obtain ⟨z,rfl,hz⟩:=imm_get hx
   exact .imm _ _ (hvs i z hz)
 ·rename_i o
  split at h
  ·rename_i ks' vs' fr hG
   cases h
   cases hm with
   |map _ b hr=>
    have:=hI.obj o
    unfold ObjOK at this
    rw [hG] at this
    obtain ⟨b',es,clk,g1,g2,g3,g4,g5,g6,g7⟩:=this
    rw [hr] at g1;cases g1
    exact .inr ⟨b,es,clk,rfl,g2,g3,g4,g5,g6⟩
  ·cases h
 ·cases h
theorem VA_pair {a b:AV} {x y:Value} (ha:VA M ρ G a x) (hb:VA M ρ G b y):VA M ρ G (mkTup [a,b]) (.tuple #[x,y]):=by
 refine VA_mkTup ⟨rfl,fun i z hz=>?_⟩
 match i,hz with
 |0,hz=>simp at hz;subst hz;exact ha
 |1,hz=>simp at hz;subst hz;exact hb
 |i+2,hz=>simp at hz
theorem lookA_ok {t:TypeId} {m key v:AV} {ok:Bool} {cm ck:Value} {ups:List (Nat×U)} (h:lookA C t G m key ok=some (.val v ups)) (hI:Inv Q w M ρ G nx) (hm:VA M ρ G m cm) (hk:VA M ρ G key ck) :
  ups=[]/\∃ u,(Instr.lookup t cm ck ok).run C.P w = .ok u w/\VA M ρ G v u:=by
 unfold lookA at h
 split at h
 ·rename_i i hi
  split at h
  ·rename_i kt e hd
   split at h
   ·rename_i key ks vs k hkv hkt
    split at h
    ·rename_i hok
     obtain ⟨info,zv,d,h1,h2,h3,h4,h5,h6,h7,h8⟩:=tyOf_some hi
     rw [hd] at h5
     cases d<;>simp only [tyd,reduceCtorEq,TyD.mp.injEq] at h5
     obtain ⟨rfl,rfl⟩:=h5
     obtain ⟨kinfo,kzv,kd,k1,k2,k3,k4,k5,k6,k7,k8⟩:=tyOf_some hkt
     rw [k5] at hok
     have hk:=hk.imm_inv
     have hsome:∀ (j:Nat) (x:AV) (b:Nat) (es:Array MapEntry) (clk:Nat),keyFind key ks=some (some j)->vs[j]? = some x->cm = .map (some b)->w.heap[b]? = some (.map es clk)->ks.length=es.size->vs.length=es.size ->
       (∀ (i:Nat) x,ks[i]? = some x->VI M x (es.getD i default).key)->(∀ (i:Nat) x,vs[i]? = some x->VA M ρ G x (es.getD i default).val) ->
       ∃ u,(Instr.lookup t cm ck ok).run C.P w = .ok u w/\VA M ρ G (if ok then mkTup [x, .imm (.bool true)] else x) u:=by
      intro j x b es clk hf hx hc hh hl1 hl2 hks hvs
      subst hc
      obtain ⟨g1,g2,_⟩:=findNow_ok hok hk ks es.toList 0 (some j) (KeysOf.of hl1 hks) hf
      have hj:=(List.getElem?_eq_some_iff.1 hx).1
      have hv:=hvs j x hx
      rw [getD_entry es j (by omega)] at hv
      have hj2:es.toList[j]? = some es[j]:=by rw [Array.getElem?_toList];simp
      simp only [Option.bind_some] at g2
      rw [hj2] at g2
      simp only [Option.map_some,Nat.zero_add] at g2
      have hrun:(Instr.lookup t (.map (some b)) ck ok).run C.P w = .ok (if ok then .tuple #[es[j].val, .bool true] else es[j].val) w:=by
       simp only [Instr.lookup,Sem.run_bind,run_underlying' h2,Result.andThen_ok]
       simp [getObj,Sem.run,hh,checkKey_ok k2 hok,Instr.findKey,run_underlying' k2,g2]
      refine ⟨_,hrun,?_⟩
      cases ok
      ·exact hv
      ·exact VA_pair hv (.imm _ _ (.bool _))
     have hnone:∀ (z:TyI),keyFind key ks=some none->C.ty e=some z->∃ u,(Instr.lookup t cm ck ok).run C.P w = .ok u w/\VA M ρ G (if ok then mkTup [z.zero, .imm (.bool false)] else z.zero) u:=by
      intro z hf hz
      obtain ⟨einfo,ezv,ed,e1,e2,e3,e4,e5,e6,e7,e8⟩:=tyOf_some hz
      have hzv:VA M ρ G z.zero ezv:=by rw [e8];exact VA_cv ezv
      have hrun:(Instr.lookup t cm ck ok).run C.P w = .ok (if ok then .tuple #[ezv, .bool false] else ezv) w:=by
       rcases mapKV_ok hkv hI hm with ⟨rfl,rfl,rfl⟩|⟨b,es,clk,rfl,hh,hl1,hl2,hks,hvs⟩
       ·simp only [Instr.lookup,Sem.run_bind,run_underlying' h2,Result.andThen_ok]
        simp [checkKey_ok k2 hok,Instr.findKey,run_underlying' k2,Instr.findNow,run_zeroValue' e1 e3]
       ·obtain ⟨g1,g2,_⟩:=findNow_ok hok hk ks es.toList 0 none (KeysOf.of hl1 hks) hf
        simp only [Option.bind_none] at g2
        simp only [Instr.lookup,Sem.run_bind,run_underlying' h2,Result.andThen_ok]
        simp [getObj,Sem.run,hh,checkKey_ok k2 hok,Instr.findKey,run_underlying' k2,g2,run_zeroValue' e1 e3]
      refine ⟨_,hrun,?_⟩
      cases ok
      ·exact hzv
      ·exact VA_pair hzv (.imm _ _ (.bool _))
     split at h
     ·rename_i j hf
      split at h
      ·rename_i x hx
       cases h
       rcases mapKV_ok hkv hI hm with ⟨rfl,rfl,rfl⟩|⟨b,es,clk,hc,hh,hl1,hl2,hks,hvs⟩
       ·simp at hx
       ·exact ⟨rfl,hsome j x b es clk hf hx hc hh hl1 hl2 hks hvs⟩
      ·cases h
     ·rename_i hf
      split at h
      ·rename_i z hz
       cases h
       exact ⟨rfl,hnone z hf hz⟩
      ·cases h
     ·cases h
    ·cases h
   ·cases h
  ·cases h
 ·cases h
theorem ba_eq (a b:ByteArray):(a==b)=decide (a=b):=by
 have h:(a==b)=(a.data==b.data):=by cases a;cases b;rfl
 rw [h,Bool.eq_iff_iff];simp;cases a;cases b;simp
theorem scalarEq_true {k x:IV} {ck cx:Value} (h:scalarEq k x=some true) (hk:VI M k ck) (hx:VI M x cx):∀ n,Instr.sameBits (n+1) cx ck=true:=by
 intro n
 cases hk<;>cases hx<;>simp only [scalarEq,reduceCtorEq,Option.some.injEq] at h
 ·have:=eq_of_beq h;subst this;simp [Instr.sameBits]
 ·split at h
  ·rename_i hk;subst hk;simp at h;subst h;simp [Instr.sameBits]
  ·cases h
 ·rw [ba_eq] at h;simp at h;subst h;simp [Instr.sameBits,ba_eq]
theorem getD_modify (es:Array MapEntry) (i j:Nat) (f:MapEntry->MapEntry) (h:j < es.size):(es.modify i f).getD j default=if i=j then f (es.getD j default) else es.getD j default:=by
 simp only [Array.getD_eq_getD_getElem?,Array.getElem?_modify]
 by_cases hi:i=j
 ·simp [hi,h]
 ·simp [hi]
theorem Born.push {es:Array MapEntry} {clk:Nat} (h:Born es clk) (k v:Value):Born (es.push { key:=k,val:=v,born:=clk }) (clk+1):=by
 refine ⟨fun x hx=>?_,?_⟩
 ·simp only [Array.toList_push,List.mem_append,List.mem_singleton] at hx
  rcases hx with hx|rfl
  ·have:=h.1 x hx;omega
  ·exact Nat.lt_succ_self _
 ·simp only [Array.toList_push,List.map_append,List.map_cons,List.map_nil]
  rw [List.nodup_append]
  refine ⟨h.2,by simp,?_⟩
  intro a ha b hb
  simp only [List.mem_map] at ha
  obtain ⟨x,hx,rfl⟩:=ha
  have:=h.1 x hx
  simp only [List.mem_singleton] at hb
  subst hb
  omega
theorem Born.modify {es:Array MapEntry} {clk:Nat} (h:Born es clk) (j:Nat) (f:MapEntry->MapEntry) (hf:∀ e,(f e).born=e.born):Born (es.modify j f) clk:=by
 have e:(es.modify j f).toList.map (·.born)=es.toList.map (·.born):=by
  apply List.ext_getElem?
  intro i
  simp only [List.getElem?_map,Array.getElem?_toList,Array.getElem?_modify]
  split
  ·cases es[i]? <;> simp [hf]
  ·rfl
 refine ⟨fun x hx=>?_,by rw [e];exact h.2⟩
 have:x.born∈(es.modify j f).toList.map (·.born):=List.mem_map.2 ⟨x,hx,rfl⟩
 rw [e,List.mem_map] at this
 obtain ⟨y,hy,he⟩:=this
 rw [<-he];exact h.1 y hy
theorem getD_push (es:Array MapEntry) (e:MapEntry) (j:Nat):(es.push e).getD j default=if j=es.size then e else es.getD j default:=by
 simp only [Array.getD_eq_getD_getElem?,Array.getElem?_push]
 split<;>simp_all
theorem setIf_heap (w:World) (b:Nat) (o:Go.Obj) (h:b < w.heap.size):({ w with heap:=w.heap.setIfInBounds b o }:World).heap[b]? = some o:=by simp [h]
theorem setIf_other (w:World) (b k:Nat) (o:Go.Obj) (h:k≠b):({ w with heap:=w.heap.setIfInBounds b o }:World).heap[k]? = w.heap[k]? := by
 simp only [Array.getElem?_setIfInBounds]
 rw [if_neg (fun e=>h e.symm)]
theorem aMapUpdate_ok {s:St} {t:TypeId} {m k x v:AV} {cm ck cx:Value} {ups:List (Nat×U)} (h:aMapUpdate C s t m k x=some (.val v ups)) (hI:Inv Q w M ρ s.G nx) (hm:VA M ρ s.G m cm) (hk:VA M ρ s.G k ck) (hx:VA M ρ s.G x cx) :
  Good id Q M ρ s.G nx w (updL s.G ups) v ((uNext (Instr.mapUpdate t cm ck cx)).run C.P w):=by
 unfold aMapUpdate at h
 split at h
 ·rename_i i q key hi
  split at h
  ·rename_i kt e ks vs hd hG
   split at h
   ·rename_i kk hkt
    split at h
    ·rename_i hok
     obtain ⟨info,zv,d,h1,h2,h3,h4,h5,h6,h7,h8⟩:=tyOf_some hi
     rw [hd] at h5
     cases d<;>simp only [tyd,reduceCtorEq,TyD.mp.injEq] at h5
     obtain ⟨rfl,rfl⟩:=h5
     obtain ⟨kinfo,kzv,kd,k1,k2,k3,k4,k5,k6,k7,k8⟩:=tyOf_some hkt
     rw [k5] at hok
     have hk:=hk.imm_inv
     cases hm with
     |map _ b hr=>
      have hobj:=hI.obj q
      unfold ObjOK at hobj
      rw [hG] at hobj
      obtain ⟨b',es,clk,g1,g2,g3,g4,g5,g6,g7,g8⟩:=hobj
      rw [hr] at g1;cases g1
      have hb:=(Array.getElem?_eq_some_iff.1 g2).1
      have hown:=hI.own q _ b (by rw [hG];rfl) (by rw [hG];rfl) hr rfl
      have hws:∀ o,WS Q w { w with heap:=w.heap.setIfInBounds b o }:=fun o=>⟨rfl,rfl,rfl,by simp,fun k hk=>setIf_other w b k o fun e=>hk (e▸hown.2)⟩
      have hold:∀ o k,k≠b->({ w with heap:=w.heap.setIfInBounds b o }:World).heap[k]? = w.heap[k]? := fun o k hk=>setIf_other w b k o hk
      have hfind:=fun r hf=>findNow_ok hok hk ks es.toList 0 r (KeysOf.of g3 g5) hf
      split at h
      ·rename_i j hf
       cases h
       obtain ⟨f1,f2,f3⟩:=hfind _ hf
       have hj:j < es.size:=by have:=f1 j rfl;simpa using this
       obtain ⟨x0,hx0,hxe⟩:=f3 j rfl
       have hkey0:=g5 j x0 hx0
       rw [getD_entry es j hj] at hkey0
       have hj2:es.toList[j]? = some es[j]:=by rw [Array.getElem?_toList];simp [hj]
       simp only [Option.bind_some] at f2
       rw [hj2] at f2
       simp only [Option.map_some,Nat.zero_add] at f2
       have hsb:=scalarEq_true hxe hk hkey0 9999
       have hrun:(uNext (Instr.mapUpdate t (.map (some b)) ck cx)).run C.P w = .ok .skip { w with heap:=w.heap.setIfInBounds b (.map (es.modify j fun e=>{ e with key:=ck,val:=cx }) clk) }:=by
        apply run_uNext (u:=())
        simp only [Instr.mapUpdate,Sem.run_bind,run_underlying' h2,Result.andThen_ok]
        simp [getObj,setObj,Sem.run,g2,checkKey_ok k2 hok,Instr.findKey,run_underlying' k2,f2,hj,Instr.keyThatStays,hsb]
       refine good_set hI hr rfl (by rw [hG];rfl) (by rw [hG];rfl) (fun _ _ _ _ e=>by cases e) (hws _) (hold _) (fun hE=>?_) (fun _ => .undef _) hrun (.inr ⟨rfl,rfl⟩)
       unfold ObjOK
       simp only [upd,if_true]
       refine ⟨b,_,clk,hr,setIf_heap w b _ hb,by simp;exact g3,by simp;exact g4,fun a y hy=>?_,fun a y hy=>?_,(fun h=>by cases h),g8.modify j _ fun _=>rfl⟩
       ·rw [List.getElem?_set] at hy
        by_cases ha:j=a
        ·subst ha
         rw [if_pos rfl] at hy
         split at hy
         ·cases hy
          rw [getD_modify _ _ _ _ hj,if_pos rfl];exact hk
         ·cases hy
        ·rw [if_neg ha] at hy
         have:=(List.getElem?_eq_some_iff.1 hy).1
         rw [getD_modify _ _ _ _ (by omega),if_neg ha];exact g5 a y hy
       ·rw [List.getElem?_set] at hy
        by_cases ha:j=a
        ·subst ha
         rw [if_pos rfl] at hy
         split at hy
         ·cases hy
          rw [getD_modify _ _ _ _ hj,if_pos rfl];exact hx.mono hE
         ·cases hy
        ·rw [if_neg ha] at hy
         have:=(List.getElem?_eq_some_iff.1 hy).1
         rw [getD_modify _ _ _ _ (by omega),if_neg ha];exact (g6 a y hy).mono hE
      ·rename_i hf
       cases h
       obtain ⟨f1,f2,f3⟩:=hfind _ hf
       simp only [Option.bind_none] at f2
       have hrun:(uNext (Instr.mapUpdate t (.map (some b)) ck cx)).run C.P w = .ok .skip { w with heap:=w.heap.setIfInBounds b (.map (es.push { key:=ck,val:=cx,born:=clk }) (clk+1)) }:=by
        apply run_uNext (u:=())
        simp only [Instr.mapUpdate,Sem.run_bind,run_underlying' h2,Result.andThen_ok]
        simp [getObj,setObj,Sem.run,g2,checkKey_ok k2 hok,Instr.findKey,run_underlying' k2,f2]
       refine good_set hI hr rfl (by rw [hG];rfl) (by rw [hG];rfl) (fun _ _ _ _ e=>by cases e) (hws _) (hold _) (fun hE=>?_) (fun _ => .undef _) hrun (.inr ⟨rfl,rfl⟩)
       unfold ObjOK
       simp only [upd,if_true]
       refine ⟨b,_,clk+1,hr,setIf_heap w b _ hb,by simp;exact g3,by simp;exact g4,fun a y hy=>?_,fun a y hy=>?_,(fun h=>by cases h),g8.push _ _⟩
       ·rw [getD_push]
        rw [List.getElem?_append] at hy
        split at hy
        ·rw [if_neg (by omega)];exact g5 a y hy
        ·have ha:a=es.size:=by
          have:=(List.getElem?_eq_some_iff.1 hy).1;simp at this;omega
         subst ha
         rw [if_pos rfl]
         rw [g3] at hy;simp at hy;subst hy;exact hk
       ·rw [getD_push]
        rw [List.getElem?_append] at hy
        split at hy
        ·rw [if_neg (by omega)];exact (g6 a y hy).mono hE
        ·have ha:a=es.size:=by
          have:=(List.getElem?_eq_some_iff.1 hy).1;simp at this;omega
         subst ha
         rw [if_pos rfl]
         rw [g4] at hy;simp at hy;subst hy;exact hx.mono hE
      ·cases h
    ·cases h
   ·cases h
  ·cases h
 ·cases h
theorem makeMap_ok {id:Nat} {t:TypeId} (hI:Inv Q w M ρ G nx) (hid:ρ id=none) (hlt:id < nx) :
  Good id Q M ρ G nx w (updL G [(id, .set (.mp [] [] false))]) (.map id) ((vNext (Instr.makeMap t none)).run P w):=by
 have hv:Ev M ρ G M (upd ρ id (some (.map (some w.heap.size)))) (upd G id (.mp [] [] false)):=Ev.new hid
 refine ⟨_,_,_,M,upd ρ id (some (.map (some w.heap.size))),run_vNext (w':=w.alloc (.map #[] 0)) (by simp [Instr.makeMap]), .inl rfl,hv,?_, .map id w.heap.size (by simp [upd]),WS.alloc hI.new _,MQ.refl _ _,fun o h e=>by simp [upd,h,e]⟩
 refine hI.put hlt hv (fun b=>?_) (by simp) ?_ (fun b hb=>?_)
 ·rcases Nat.lt_or_ge b w.heap.size with h|h
  ·exact .inl (Go.RowKit.Below.heap_alloc w _ b h)
  ·exact .inr (.inl h)
 ·unfold ObjOK
  simp only [upd,if_true]
  exact ⟨w.heap.size, #[],0,rfl,heap_alloc_new w _,rfl,rfl,fun i x hx=>by simp at hx,fun i x hx=>by simp at hx,(fun h=>by cases h),by simp [Born]⟩
 ·simp [blk] at hb;exact .inl (by omega)
end Go.Abs

/- The abstract interpreter: values as data. -/
namespace Go.Abs
variable {id:Nat}
variable {M M':Mem} {ρ ρ':Ref} {G G':Nat->Obj} {w w':World} {nx:Nat} {Q:Nat->Prop} {P:Program} {C:Cfg}
theorem peekL_some {f:AV->Option (IV×List Nat)}:∀ {l:List AV} {xs:List IV} {ids:List Nat},peekL f l=some (xs,ids) ->
  xs.length=l.length/\∀ (i:Nat) v,l[i]? = some v->∃ x is,f v=some (x,is)/\xs[i]? = some x/\∀ o∈is,o∈ids:=by
 intro l
 induction l with
 |nil=>intro xs ids h;simp only [peekL,Option.some.injEq,Prod.mk.injEq] at h;obtain ⟨rfl,rfl⟩:=h;exact ⟨rfl,fun i v hv=>by simp at hv⟩
 |cons v r ih=>
  intro xs ids h
  simp only [peekL] at h
  split at h
  ·rename_i x i hf
   split at h
   ·rename_i l ids' hl
    cases h
    obtain ⟨h1,h2⟩:=ih hl
    refine ⟨by simp [h1],fun j u hu=>?_⟩
    cases j with
    |zero=>simp at hu;subst hu;exact ⟨x,i,hf,rfl,fun o ho=>by simp [ho]⟩
    |succ j=>
     obtain ⟨y,is,g1,g2,g3⟩:=h2 j u (by simpa using hu)
     exact ⟨y,is,g1,by simpa using g2,fun o ho=>by simp [g3 o ho]⟩
   ·cases h
  ·cases h
theorem peek_cells {k:Nat} {y:AV} {z:IV} {ids:List Nat} {n:Nat} (h:peek G k y=some (z,ids)) (hf:y.fits n=true) :
  z.cells.length=n/\∀ (j:Nat) u,z.cells[j]? = some u->∃ yj is k',y.cells[j]? = some yj/\k'<=k/\peek G k' yj=some (u,is)/\∀ o∈is,o∈ids:=by
 have hn:=AV.fits_len hf
 have single:(∀ l,z ≠ .agg l)->y.cells=[y]->z.cells.length=n/\∀ (j:Nat) u,z.cells[j]? = some u->∃ yj is k',y.cells[j]? = some yj/\k'<=k/\peek G k' yj=some (u,is)/\∀ o∈is,o∈ids:=by
  intro hz hy
  have hzc:z.cells=[z]:=by cases z<;>first|rfl|exact absurd rfl (hz _)
  rw [hy] at hn
  rw [hzc]
  refine ⟨hn,fun j u hu=>?_⟩
  cases j with
  |zero=>simp at hu;subst hu;exact ⟨y,ids,k,by rw [hy];rfl,Nat.le_refl _,h,fun o ho=>ho⟩
  |succ j=>simp at hu
 cases y with
 |imm x=>
  have hx:z=x/\ids=[]:=by cases k<;>simp [peek] at h<;>exact ⟨h.1.symm,h.2⟩
  obtain ⟨rfl,rfl⟩:=hx
  cases z with
  |agg cs=>
   simp only [AV.cells,List.length_map] at hn
   refine ⟨hn,fun j u hu=>⟨.imm u,[],0,by simp [AV.cells];simpa [IV.cells] using hu,Nat.zero_le _,by simp [peek],fun o ho=>ho⟩⟩
  |_=>exact single (fun l e=>by cases e) rfl
 |agg cs=>
  cases k with
  |zero=>simp [peek] at h
  |succ k=>
   simp only [peek] at h
   split at h
   ·rename_i l is hl
    cases h
    obtain ⟨h1,h2⟩:=peekL_some hl
    simp only [AV.cells] at hn
    refine ⟨by simp [IV.cells,h1,hn],fun j u hu=>?_⟩
    simp only [IV.cells] at hu
    have hj:=(List.getElem?_eq_some_iff.1 hu).1
    have hjc:j < cs.length:=by omega
    obtain ⟨x,is',g1,g2,g3⟩:=h2 j cs[j] (List.getElem?_eq_getElem hjc)
    rw [hu] at g2;cases g2
    exact ⟨cs[j],is',k,List.getElem?_eq_getElem hjc,by omega,g1,g3⟩
   ·cases h
 |tup cs=>have:=AV.fits_one hf;simp [AV.cells,AV.one] at this
 |undef=>cases k<;>simp [peek] at h
 |rptr=>cases k<;>simp [peek] at h
 |yld=>cases k<;>simp [peek] at h
 |nils=>refine single (fun l e=>?_) rfl;subst e;cases k<;>simp [peek] at h
 |_=>
  refine single (fun l e=>?_) rfl
  subst e
  cases k with
  |zero=>simp [peek] at h
  |succ k=>
   simp only [peek] at h
   repeat (split at h)
   all_goals first|cases h|(simp at h;done)
open Classical in
/-- Memory that doesn't change from now on: that of some objects, too. -/
noncomputable def memOf (w:World) (M:Mem) (ρ:Ref) (ids:List Nat):Mem:=fun b=>
 match M b with
 |some o=>some o
 |none=>if ∃ o∈ids,∃ v,ρ o=some v/\blk v=some b then w.heap[b]? else none
theorem memOf_le (w:World) (M:Mem) (ρ:Ref) (ids:List Nat):M.le (memOf w M ρ ids):=fun b o h=>by simp [memOf,h]
theorem memOf_mem (hm:∀ b o,M b=some o->w.heap[b]? = some o) {ids:List Nat} {b:Nat} {o:Go.Obj} (h:memOf w M ρ ids b=some o):w.heap[b]? = some o:=by
 unfold memOf at h
 split at h
 ·rename_i o' e;cases h;exact hm b o e
 ·split at h
  ·exact h
  ·cases h
theorem memOf_of {ids:List Nat} {o b:Nat} {v:Value} {ob:Go.Obj} (hm:∀ b o,M b=some o->w.heap[b]? = some o) (ho:o∈ids) (hv:ρ o=some v) (hb:blk v=some b) (hh:w.heap[b]? = some ob):memOf w M ρ ids b=some ob:=by
 unfold memOf
 split
 ·rename_i o' e;have:=hm b o' e;rw [hh] at this;exact this.symm
 ·rw [if_pos ⟨o,ho,v,hv,hb⟩];exact hh
theorem memOf_ne {ids:List Nat} {b:Nat} (h:memOf w M ρ ids b≠none):M b≠none\/∃ o∈ids,∃ v,ρ o=some v/\blk v=some b:=by
 unfold memOf at h
 split at h
 ·rename_i o e;left;rw [e];simp
 ·split at h
  ·right;assumption
  ·exact absurd rfl h
theorem peek_VI (hI:Inv Q w M ρ G nx) {ids:List Nat}:∀ (k:Nat) (v:AV) (x:IV) (is:List Nat) (c:Value),peek G k v=some (x,is)->(∀ o∈is,o∈ids)->VA M ρ G v c->VI (memOf w M ρ ids) x c:=by
 intro k
 induction k using Nat.strongRecOn with
 |_ k ih=>
 have hle:=memOf_le w M ρ ids
 intro v x is c h hin hv
 have list:∀ (k':Nat) (l:List AV) (xs:List IV) (is':List Nat) (vs:Array Value),k' < k->peekL (peek G k') l=some (xs,is')->(∀ o∈is',o∈ids)->l.length=vs.size->(∀ (i:Nat) x,l[i]? = some x->VA M ρ G x (at_ vs i)) ->
   xs.length=vs.size/\∀ (i:Nat) x,xs[i]? = some x->VI (memOf w M ρ ids) x (at_ vs i):=by
  intro k' l xs is' vs hk hp hin' hlen hl
  obtain ⟨h1,h2⟩:=peekL_some hp
  refine ⟨by omega,fun i x hx=>?_⟩
  have hi:=(List.getElem?_eq_some_iff.1 hx).1
  obtain ⟨y,is2,g1,g2,g3⟩:=h2 i l[i] (List.getElem?_eq_getElem (by omega))
  rw [hx] at g2;cases g2
  exact ih k' hk _ _ _ _ g1 (fun o ho=>hin' o (g3 o ho)) (hl i _ (List.getElem?_eq_getElem (by omega)))
 cases hv with
 |imm y c hy=>
  have:x=y:=by cases k<;>simp [peek] at h<;>exact h.1.symm
  subst this;exact hy.mono hle
 |undef=>cases k<;>simp [peek] at h
 |nils=>
  have:x = .lst []:=by cases k<;>simp [peek] at h<;>exact h.1.symm
  subst this;exact .nil
 |rptr=>cases k<;>simp [peek] at h
 |yld=>cases k<;>simp [peek] at h
 |row o n a l cp hb hr=>
  cases k with
  |zero=>simp [peek] at h
  |succ k=>
   simp only [peek] at h
   split at h
   ·rename_i et sz xs fr hG
    split at h
    ·rename_i hn
     split at h
     ·rename_i ys is2 hp
      cases h
      have hr:=(hr et sz xs fr hG).2 hn.symm
      have hobj:=hI.obj o
      unfold ObjOK at hobj
      rw [hG] at hobj
      obtain ⟨h0,v,cs,g1,g2,g3,g4⟩:=hobj
      rw [hr] at g1;cases g1
      obtain ⟨p1,p2⟩:=peekL_some hp
      rcases g2.2 with ⟨g,g'⟩|⟨g,cap,cur,g',_,g5,g6,g7,g8,g9⟩
      ·cases g
       have:ys=[]:=List.eq_nil_of_length_eq_zero (by omega)
       subst this;exact .nil
      ·cases g'
       have hlen:ys.length=xs.length:=p1
       rcases Nat.eq_zero_or_pos ys.length with hy0|hy0
       ·have:ys=[]:=List.eq_nil_of_length_eq_zero hy0
        subst this
        have:xs.length=0:=by omega
        rw [this];exact .empty ⟨g,0,none⟩ cp
       ·rw [<-hlen]
        obtain ⟨_,_,_,_,cur',q1,q2,q3,q4⟩:=row_block hI hG hr
        have hM:=memOf_of (ids:=ids) hI.mem (hin o (by simp)) hr rfl q1
        have hel:∀ (i:Nat) z,ys[i]? = some z->∃ y is3,xs[i]? = some y/\y.fits sz=true/\peek G k y=some (z,is3)/\∀ o∈is3,o∈ids:=by
         intro i z hz
         have hi:=(List.getElem?_eq_some_iff.1 hz).1
         obtain ⟨z',is3,e1,e2,e3⟩:=p2 i xs[i] (List.getElem?_eq_getElem (by omega))
         rw [hz] at e2;cases e2
         exact ⟨_,is3,List.getElem?_eq_getElem (by omega),q3 _ (List.getElem_mem _),e1,fun o ho=>hin o (by simp [e3 o ho])⟩
        refine .lst ys g 0 cp cur' et (0,0) sz (fun e=>by subst e;simp at hy0) (by omega) hM h0 (fun i z hz=>?_) ?_ fun i z j u hz hu=>?_
        ·obtain ⟨y,is3,e1,e2,e3,e4⟩:=hel i z hz
         exact (peek_cells e3 e2).1
        ·rw [q2,Nat.zero_add];exact Nat.mul_le_mul_right _ (by omega)
        ·obtain ⟨y,is3,e1,e2,e3,e4⟩:=hel i z hz
         obtain ⟨yj,is4,k',f1,f2,f3,f4⟩:=(peek_cells e3 e2).2 j u hu
         rw [Nat.zero_add]
         exact ih k' (by omega) _ _ _ _ f3 (fun o ho=>e4 o (f4 o ho)) (q4 i y j yj e1 f1)
     ·cases h
    ·cases h
   ·cases h
 |ptr o off b hr=>
  cases k with
  |zero=>simp [peek] at h
  |succ k=>
   simp only [peek] at h
   split at h
   ·rename_i cs fr hG
    split at h
    ·rename_i l is2 hp
     cases h
     have hobj:=hI.obj o
     unfold ObjOK at hobj
     rw [hG] at hobj
     obtain ⟨b',vs,e',g1,g2,g3,g4⟩:=hobj
     rw [hr] at g1;cases g1
     have hM:=memOf_of (ids:=ids) hI.mem (hin o (by simp)) hr rfl g2
     obtain ⟨q1,q2⟩:=list k cs l is2 vs (by omega) hp (fun o ho=>hin o (by simp [ho])) g3.1 g3.2
     have:=VI.fptr (M:=memOf w M ρ ids) l off b vs e' (0,0) 0 hM (by omega) (fun j y hy=>by rw [Nat.zero_add];exact q2 j y hy)
     rwa [Nat.zero_add] at this
    ·cases h
   ·cases h
 |map o b hr=>
  cases k with
  |zero=>simp [peek] at h
  |succ k=>
   simp only [peek] at h
   split at h
   ·rename_i ks vs fr hG
    split at h
    ·rename_i l is2 hp
     cases h
     have hobj:=hI.obj o
     unfold ObjOK at hobj
     rw [hG] at hobj
     obtain ⟨b',es,clk,g1,g2,g3,g4,g5,g6,g7,g8⟩:=hobj
     rw [hr] at g1;cases g1
     have hM:=memOf_of (ids:=ids) hI.mem (hin o (by simp)) hr rfl g2
     obtain ⟨p1,p2⟩:=peekL_some hp
     refine .fmp ks l b es clk hM g3 (by omega) (fun i x hx=>(g5 i x hx).mono hle) (fun i x hx=>?_) g8
     have hi:=(List.getElem?_eq_some_iff.1 hx).1
     obtain ⟨x',is3,e1,e2,e3⟩:=p2 i vs[i] (List.getElem?_eq_getElem (by omega))
     rw [hx] at e2;cases e2
     exact ih k (by omega) _ _ _ _ e1 (fun o ho=>hin o (by simp [e3 o ho])) (g6 i _ (List.getElem?_eq_getElem (by omega)))
    ·cases h
   ·cases h
 |fn f cap vs h1 h2=>
  cases k with
  |zero=>simp [peek] at h
  |succ k=>
   simp only [peek] at h
   split at h
   ·rename_i l is2 hp
    cases h
    obtain ⟨q1,q2⟩:=list k cap l _ vs (by omega) hp hin h1 h2
    exact .fn f l vs q1 q2
   ·cases h
 |agg xs vs h1 h2=>
  cases k with
  |zero=>simp [peek] at h
  |succ k=>
   simp only [peek] at h
   split at h
   ·rename_i l is2 hp
    cases h
    obtain ⟨q1,q2⟩:=list k xs l _ vs (by omega) hp hin h1 h2
    exact .agg l vs q1 q2
   ·cases h
 |tup xs vs h1 h2=>
  cases k with
  |zero=>simp [peek] at h
  |succ k=>
   simp only [peek] at h
   split at h
   ·rename_i l is2 hp
    cases h
    obtain ⟨q1,q2⟩:=list k xs l _ vs (by omega) hp hin h1 h2
    exact .tup l vs q1 q2
   ·cases h
def _root_.Go.Abs.Obj.data:Obj->Bool
 | .box .. | .row .. | .mp .. => true
 |_=>false
theorem data_live {x:Obj} (h:x.data=true):x.live=true:=by cases x<;>simp_all [Obj.data,Obj.live]
theorem peek_live:∀ (k:Nat) (v:AV) (x:IV) (is:List Nat),peek G k v=some (x,is)->∀ o∈is,(G o).data=true:=by
 intro k
 induction k with
 |zero=>
  intro v x is h
  cases v<;>simp [peek] at h
  ·obtain ⟨_,rfl⟩:=h;intro o ho;simp at ho
  ·obtain ⟨_,rfl⟩:=h;intro o ho;simp at ho
 |succ k ih=>
  have list:∀ (l:List AV) (xs:List IV) (is':List Nat),peekL (peek G k) l=some (xs,is')->∀ o∈is',(G o).data=true:=by
   intro l
   induction l with
   |nil=>intro xs is' h;simp [peekL] at h;obtain ⟨_,rfl⟩:=h;intro o ho;simp at ho
   |cons v r ihl=>
    intro xs is' h
    simp only [peekL] at h
    split at h
    ·rename_i x i hf
     split at h
     ·rename_i l' ids' hl
      cases h
      intro o ho
      rcases List.mem_append.1 ho with ho|ho
      ·exact ih _ _ _ hf o ho
      ·exact ihl _ _ hl o ho
     ·cases h
    ·cases h
  intro v x is h
  cases v with
  |imm y=>simp [peek] at h;obtain ⟨_,rfl⟩:=h;intro o ho;simp at ho
  |nils=>simp [peek] at h;obtain ⟨_,rfl⟩:=h;intro o ho;simp at ho
  |undef=>simp [peek] at h
  |rptr=>simp [peek] at h
  |yld=>simp [peek] at h
  |row q n=>
   simp only [peek] at h
   split at h
   ·rename_i hG
    split at h
    ·split at h
     ·rename_i hp
      cases h
      intro o ho
      rcases List.mem_cons.1 ho with rfl|ho
      ·rw [hG];rfl
      ·exact list _ _ _ hp o ho
     ·cases h
    ·cases h
   ·cases h
  |map q=>
   simp only [peek] at h
   split at h
   ·rename_i hG
    split at h
    ·rename_i hp
     cases h
     intro o ho
     rcases List.mem_cons.1 ho with rfl|ho
     ·rw [hG];rfl
     ·exact list _ _ _ hp o ho
    ·cases h
   ·cases h
  |ptr q off=>
   simp only [peek] at h
   split at h
   ·rename_i hG
    split at h
    ·rename_i hp
     cases h
     intro o ho
     rcases List.mem_cons.1 ho with rfl|ho
     ·rw [hG];rfl
     ·exact list _ _ _ hp o ho
    ·cases h
   ·cases h
  |fn f cap=>
   simp only [peek] at h
   split at h
   ·rename_i hp;cases h;exact list _ _ _ hp
   ·cases h
  |agg cs=>
   simp only [peek] at h
   split at h
   ·rename_i hp;cases h;exact list _ _ _ hp
   ·cases h
  |tup cs=>
   simp only [peek] at h
   split at h
   ·rename_i hp;cases h;exact list _ _ _ hp
   ·cases h
/-! ### freezing -/
theorem freeze_freeze (x:Obj):x.freeze.freeze=x.freeze:=by cases x<;>rfl
theorem freeze_live (x:Obj):x.freeze.live=x.live:=by cases x<;>rfl
theorem updL_frz (ids:List Nat):∀ (G:Nat->Obj) (o:Nat),updL G (frz ids) o=if o∈ids then (G o).freeze else G o:=by
 induction ids with
 |nil=>intro G o;simp [frz,updL]
 |cons i r ih=>
  intro G o
  have:updL G (frz (i::r))=updL (upd G i (G i).freeze) (frz r):=rfl
  rw [this,ih]
  by_cases h:o=i
  ·subst h
   simp [upd,freeze_freeze]
  ·by_cases h2:o∈r<;>simp [upd,h,h2]
theorem updL_append (G:Nat->Obj) (a b:List (Nat×U)):updL G (a++b)=updL (updL G a) b:=by
 induction a generalizing G with
 |nil=>rfl
 |cons x r ih=>obtain ⟨o,u⟩:=x;exact ih _
theorem Ev.frz (w:World) (M:Mem) (ρ:Ref) (G:Nat->Obj) (ids:List Nat):Ev M ρ G (memOf w M ρ ids) ρ (updL G (frz ids)):=by
 refine ⟨memOf_le w M ρ ids,fun o v h => .inl h,fun o hb et sz xs fr h=>?_⟩
 rw [updL_frz] at h
 split at h
 ·cases e:G o<;>rw [e] at h<;>simp only [Obj.freeze,reduceCtorEq,Obj.row.injEq] at h
  obtain ⟨rfl,rfl,rfl,rfl⟩:=h
  exact ⟨_,_,rfl,Nat.le_refl _,fun _=>rfl⟩
 ·exact ⟨xs,fr,h,Nat.le_refl _,fun _=>rfl⟩
theorem Inv.frz (hI:Inv Q w M ρ G nx) {ids:List Nat} (hl:∀ o∈ids,(G o).data=true):Inv Q w (memOf w M ρ ids) ρ (updL G (frz ids)) nx:=by
 have hE:=Ev.frz w M ρ G ids
 have hlive:∀ o,(updL G (Go.Abs.frz ids) o).live=(G o).live:=fun o=>by rw [updL_frz];split<;>simp [freeze_live]
 refine ⟨fun b o h=>memOf_mem hI.mem h,fun o=>?_,hI.free,fun o ho=>?_,fun o o' v v' b h1 h2=>hI.sep o o' v v' b (by rw [hlive] at h1;exact h1) (by rw [hlive] at h2;exact h2),fun o v b h1 h2 h3 h4=>?_,hI.new⟩
 ·by_cases ho:o∈ids
  ·have hobj:=hI.obj o
   unfold ObjOK at *
   rw [updL_frz,if_pos ho]
   cases e:G o with
   |gone=>trivial
   |box cs fr=>
    rw [e] at hobj
    obtain ⟨b,vs,e',g1,g2,g3,g4⟩:=hobj
    exact ⟨b,vs,e',g1,g2,g3.imp fun _ _=>VA.mono hE,fun _=>by rw [memOf_of hI.mem ho g1 rfl g2];simp⟩
   |row et sz xs fr=>
    rw [e] at hobj
    obtain ⟨h0,v,cs,g1,g2,g3,g4⟩:=hobj
    refine ⟨h0,v,cs,g1,g2,g3.mono hE,fun _ b hb=>?_⟩
    rcases g2.2 with ⟨rfl,_⟩|⟨g,cap,cur,rfl,_,g5,_⟩
    ·simp [blk] at hb
    ·simp [blk] at hb;subst hb;rw [memOf_of hI.mem ho g1 rfl g5];simp
   |mp ks vs fr=>
    rw [e] at hobj
    obtain ⟨b,es,clk,g1,g2,g3,g4,g5,g6,g7,g8⟩:=hobj
    exact ⟨b,es,clk,g1,g2,g3,g4,fun i x hx=>(g5 i x hx).mono hE.mem,fun i x hx=>(g6 i x hx).mono hE,(fun _=>by rw [memOf_of hI.mem ho g1 rfl g2];simp),g8⟩
   |it ks vs done=>have:=hl o ho;rw [e] at this;cases this
   |lp tmps nt params assign body fn st pending=>
    rw [e] at hobj
    obtain ⟨l,r,g1,g2,g3⟩:=hobj
    exact ⟨l,r,g1,g2,{ g3 with tmps:=fun t=>(g3.tmps t).mono hE }⟩
  ·exact (hI.obj o).mono (by rw [updL_frz,if_neg ho]) rfl hE fun _ _ _ _=>rfl
 ·rw [updL_frz,hI.gone o ho];split<;>rfl
 ·have hnin:o∉ids:=by
   intro ho
   rw [updL_frz,if_pos ho] at h2
   have hd:=hl o ho
   cases e:G o<;>rw [e] at hd h2<;>simp [Obj.freeze,Obj.frozen,Obj.data] at hd h2
  rw [updL_frz,if_neg hnin] at h1 h2
  obtain ⟨g1,g2⟩:=hI.own o v b h1 h2 h3 h4
  refine ⟨?_,g2⟩
  cases e:memOf w M ρ ids b with
  |none=>rfl
  |some x=>
   rcases memOf_ne (by rw [e];simp) with h|⟨o',ho',v',hv',hb'⟩
   ·exact absurd g1 h
   ·exact absurd (hI.sep o o' v v' b h1 (data_live (hl o' ho')) h3 hv' h4 hb') (fun e=>hnin (e▸ho'))
theorem MQ.memOf (hI:Inv Q w M ρ G nx) {ids:List Nat} (hl:∀ o∈ids,(G o).data=true):MQ Q M (Go.Abs.memOf w M ρ ids):=by
 intro b hb
 rcases memOf_ne hb with h|⟨o,ho,v,hv,hb'⟩
 ·exact .inl h
 ·by_cases hfr:(G o).frozen=true
  ·left
   have hobj:=hI.obj o
   unfold ObjOK at hobj
   cases e:G o with
   |gone=>rw [e] at hfr;cases hfr
   |box cs fr=>
    rw [e] at hobj hfr
    obtain ⟨b',vs,e',g1,g2,g3,g4⟩:=hobj
    rw [hv] at g1;cases g1
    simp [blk] at hb';subst hb'
    exact g4 hfr
   |row et sz xs fr=>
    rw [e] at hobj hfr
    obtain ⟨h0,v',cs,g1,g2,g3,g4⟩:=hobj
    rw [hv] at g1;cases g1
    exact g4 hfr b hb'
   |mp ks vs fr=>
    rw [e] at hobj hfr
    obtain ⟨b',es,clk,g1,g2,g3,g4,g5,g6,g7,g8⟩:=hobj
    rw [hv] at g1;cases g1
    simp [blk] at hb';subst hb'
    exact g7 hfr
   |it=>rw [e] at hfr;cases hfr
   |lp=>rw [e] at hfr;cases hfr
  ·exact .inr (hI.own o v b (data_live (hl o ho)) (by simpa using hfr) hv hb').2
theorem good_give {ids:List Nat} {small:Bool} {x:IV} {c:Value} {v':AV} {ups:List (Nat×U)} {r:Result Next} (hI:Inv Q w M ρ G nx) (hl:∀ o∈ids,(G o).data=true)
  (hg:give ids small (.imm x) = .val v' ups) (hs:small=true->x.scalar=true) (hx:VI (memOf w M ρ ids) x c) (hr:r = .ok (.value c) w):Good id Q M ρ G nx w (updL G ups) v' r:=by
 unfold give at hg
 split at hg
 ·rename_i h
  cases hg
  exact Good.pure hI hr (.imm _ _ (hx.any (hs h) M))
 ·cases hg
  exact ⟨_,c,w,memOf w M ρ ids,ρ,hr, .inl rfl,Ev.frz w M ρ G ids,hI.frz hl, .imm _ _ hx,WS.refl _ _,MQ.memOf hI hl,fun _ _ e=>e⟩
end Go.Abs

/- The abstract interpreter: operations on values alone. -/
namespace Go.Abs
variable {id:Nat}
variable {M M':Mem} {ρ ρ':Ref} {G G':Nat->Obj} {w w':World} {nx:Nat} {Q:Nat->Prop} {P:Program} {C:Cfg}
theorem intOp_ok {op:BinOp} {k:IntKind} {a b:Int} {x:IV} {t:TypeId} (h:intOp op k a b=some x):∃ u,(binOp op t (.int k a) (.int k b)).run P w = .ok u w/\VI M x u:=by
 cases op<;>simp only [intOp,reduceCtorEq,Option.some.injEq] at h
 case quo=>
       split at h
       ·cases h
       ·rename_i hb;cases h;exact ⟨_,by simp [binOp,Op.intDiv,hb], .int _ _⟩
 case rem=>
       split at h
       ·cases h
       ·rename_i hb;cases h;exact ⟨_,by simp [binOp,Op.intDiv,hb], .int _ _⟩
 all_goals
  subst h
  first
  |exact ⟨_,by simp [binOp,Op.intArith], .int _ _⟩
  |exact ⟨_,by simp [binOp,Op.intCmp], .bool _⟩
theorem strOp_ok {op:BinOp} {a b:ByteArray} {x:IV} {t:TypeId} (h:strOp op a b=some x):∃ u,(binOp op t (.string a) (.string b)).run P w = .ok u w/\VI M x u:=by
 cases op<;>simp only [strOp,reduceCtorEq,Option.some.injEq] at h
 case add=>
  split at h
  ·rename_i hb
   cases h
   have hb':¬ (9223372036854775807 < (a.size:Int)+(b.size:Int)):=by omega
   exact ⟨_,by simp [binOp,Op.stringOp,hb'], .str _⟩
  ·cases h
 all_goals
  subst h
  exact ⟨_,by simp [binOp,Op.stringOp], .bool _⟩
theorem equal_step (t:TypeId) (x y:Value):Op.equal t x y=Op.equalIn (9999+1) t x y:=rfl
theorem run_equal_bool {t:TypeId} {a b:Bool} (h:P.underlying t=some .bool):(Op.equal t (.bool a) (.bool b)).run P w = .ok (a==b) w:=by
 rw [equal_step,Op.equalIn];simp only [Sem.run_bind,run_underlying' h,Result.andThen_ok,Sem.run_pure]
theorem run_equal_nilp {t e:TypeId} {b:Option _} (h:P.underlying t=some (.pointer e)):(Op.equal t (.pointer none) (.pointer b)).run P w = .ok b.isNone w:=by
 rw [equal_step,Op.equalIn];simp only [Sem.run_bind,run_underlying' h,Result.andThen_ok,Sem.run_pure]
theorem run_equal_pnil {t e:TypeId} {a:Addr} (h:P.underlying t=some (.pointer e)):(Op.equal t (.pointer (some a)) (.pointer none)).run P w = .ok false w:=by
 rw [equal_step,Op.equalIn];simp only [Sem.run_bind,run_underlying' h,Result.andThen_ok,Sem.run_pure]
theorem run_equal_slnn {t e:TypeId} (h:P.underlying t=some (.slice e)):(Op.equal t (.slice none 0 0) (.slice none 0 0)).run P w = .ok true w:=by
 rw [equal_step,Op.equalIn];simp only [Sem.run_bind,run_underlying' h,Result.andThen_ok,Sem.run_pure];rfl
theorem run_equal_slpn {t e:TypeId} {a:Addr} {n c:Nat} (h:P.underlying t=some (.slice e)):(Op.equal t (.slice (some a) n c) (.slice none 0 0)).run P w = .ok false w:=by
 rw [equal_step,Op.equalIn];simp only [Sem.run_bind,run_underlying' h,Result.andThen_ok,Sem.run_pure]
theorem run_equal_ifnn {t:TypeId} {ms} (h:P.underlying t=some (.interface ms)):(Op.equal t .nilIface .nilIface).run P w = .ok true w:=by
 rw [equal_step,Op.equalIn];simp only [Sem.run_bind,run_underlying' h,Result.andThen_ok,Sem.run_pure]
theorem run_equal_ifni {t:TypeId} {ms u v} (h:P.underlying t=some (.interface ms)):(Op.equal t .nilIface (.iface u v)).run P w = .ok false w:=by
 rw [equal_step,Op.equalIn];simp only [Sem.run_bind,run_underlying' h,Result.andThen_ok,Sem.run_pure]
theorem run_equal_ifin {t:TypeId} {ms u v} (h:P.underlying t=some (.interface ms)):(Op.equal t (.iface u v) .nilIface).run P w = .ok false w:=by
 rw [equal_step,Op.equalIn];simp only [Sem.run_bind,run_underlying' h,Result.andThen_ok,Sem.run_pure]
theorem vsOf_ok {M:Mem}:∀ {xs:List IV} {vs:Array Value} {us:List Value},vsOf xs=some us->xs.length=vs.size->(∀ (i:Nat) x,xs[i]? = some x->VI M x (at_ vs i))->vs.toList=us:=by
 intro xs vs us h hl hx
 have key:∀ (xs:List IV) (us:List Value) (l:List Value),vsOf xs=some us->xs.length=l.length->(∀ (i:Nat) x,xs[i]? = some x->VI M x (l.getD i Go.undef))->l=us:=by
  intro xs
  induction xs with
  |nil=>
   intro us l h hl _
   cases h
   exact List.eq_nil_of_length_eq_zero (by simpa using hl.symm)
  |cons x r ih=>
   intro us l h hl hx
   unfold vsOf at h
   split at h
   ·rename_i v l' hv hl'
    cases h
    cases l with
    |nil=>simp at hl
    |cons c l=>
     have h0:=hx 0 x rfl
     have hr:=ih l' l hl' (by simpa using hl) fun i y hy=>by simpa using hx (i+1) y (by simpa using hy)
     subst hr
     congr 1
     have h0:VI M x c:=h0
     cases x<;>simp only [vOf,Option.some.injEq,reduceCtorEq] at hv
     all_goals
      subst hv
      cases h0
      rfl
   ·cases h
 refine key xs us vs.toList h (by simpa using hl) fun i x hi=>?_
 have:=hx i x hi
 simpa [at_,Array.getD_eq_getD_getElem?,List.getD_eq_getElem?_getD] using this
theorem keyLits_len {P:Program} {n:Nat} {t:TypeId} {fs:Array Field} {cs:List Value} {l:List Lit} (hu:P.underlying t=some (.struct fs)) (h:P.keyLits (n+1) t cs=some l):cs.length=P.cellsOf t:=by
 unfold Program.keyLits at h
 simp only [hu] at h
 split at h
 ·rename_i hc;exact hc.1
 ·cases h
theorem litEq_iff:∀ {a b:Lit} {r:Bool},litEq a b=some r->(r=true↔a=b):=by
 intro a b r h
 cases a<;>cases b<;>simp only [litEq,Option.some.injEq,reduceCtorEq] at h
 all_goals
  subst h
  simp
theorem litsEq_iff:∀ {a b:List Lit} {r:Bool},litsEq a b=some r->(r=true↔a=b)
 |[],[],r,h=>by cases h;simp
 |[],_::_,_,h=>by cases h
 |_::_,[],_,h=>by cases h
 |x::a,y::b,r,h=>by
  unfold litsEq at h
  split at h
  ·rename_i p q h1 h2
   cases h
   rw [Bool.and_eq_true,litEq_iff h1,litsEq_iff h2]
   simp
  ·cases h
theorem eqSt_ok {P:Program} {M:Mem} {w:World} {t:TypeId} {fs:Array Field} {xs ys:List IV} {cx cy:Value} {b:Bool} {ox oy:Operand} (h:eqSt P t xs ys=some b) (hu:P.underlying t=some (.struct fs)) (hx:VI M (.agg xs) cx) (hy:VI M (.agg ys) cy) (op:BinOp) :
  (Op.equal t cx cy).run P w = .ok b w/\(eqGuard op t ox oy cx cy).run P w = .ok () w/\(∀ k n,cx ≠ .int k n)/\(∀ s,cx ≠ .string s)/\(∀ k n,cx ≠ .float k n)/\(∀ k n m,cx ≠ .complex k n m):=by
 cases hx with
 |agg _ vs hl1 hx=>
 cases hy with
 |agg _ us hl2 hy=>
 unfold eqSt at h
 split at h
 ·rename_i hc
  unfold litsOf at h
  split at h
  ·rename_i la lb h1 h2
   have hab:=litsEq_iff h
   split at h1
   ·rename_i l1 e1
    split at h2
    ·rename_i l2 e2
     have a1:=vsOf_ok e1 hl1 hx
     have a2:=vsOf_ok e2 hl2 hy
     rw [<-a1] at h1
     rw [<-a2] at h2
     have f1:(Value.agg vs).formed P t=true:=by
      have:=keyLits_len hu h1
      simp [Value.formed,hu]
      simpa using this
     have f2:(Value.agg us).formed P t=true:=by
      have:=keyLits_len hu h2
      simp [Value.formed,hu]
      simpa using this
     obtain ⟨r,hr,hiff⟩:=run_equalIn_deep 9990 10 t hc.1 w 12 12 (.agg vs) (.agg us) la lb f1 f2 (by simpa [Value.cells] using h1) (by simpa [Value.cells] using h2)
     have hr':(Op.equal t (.agg vs) (.agg us)).run P w = .ok r w:=hr
     have hb:r=b:=by rw [Bool.eq_iff_iff,hiff,hab]
     refine ⟨by rw [hr',hb],?_,by simp,by simp,by simp,by simp⟩
     have hg:P.eqGuardType P.depth t=false:=hc.2
     unfold eqGuard
     cases op<;>first|rfl|(show (if (!P.eqGuardType P.depth t)=true then (pure ():Sem Unit) else _).run P w=_;rw [hg];rfl)
    ·cases h2
   ·cases h1
  ·cases h
 ·cases h
theorem eqAV_ok {t:TypeId} {x y:AV} {cx cy:Value} {b:Bool} {ox oy:Operand} (h:eqAV C (isNilC ox||isNilC oy) t x y=some b) (hx:VA M ρ G x cx) (hy:VA M ρ G y cy) (op:BinOp) :
  (Op.equal t cx cy).run C.P w = .ok b w/\(eqGuard op t ox oy cx cy).run C.P w = .ok () w/\(∀ k n,cx ≠ .int k n)/\(∀ s,cx ≠ .string s)/\(∀ k n,cx ≠ .float k n)/\(∀ k n m,cx ≠ .complex k n m):=by
 unfold eqAV at h
 split at h
 ·rename_i i hi
  obtain ⟨info,zv,d,h1,h2,h3,h4,h5,h6,h7,h8⟩:=tyOf_some hi
  rw [h5] at h
  split at h
  ·rename_i hd
   cases d<;>simp only [tyd,reduceCtorEq] at hd
   split at h
   ·exact eqSt_ok h h2 hx.imm_inv hy.imm_inv op
   ·cases h
  unfold eqOp at h
  split at h
  ·rename_i hd
   cases d<;>simp only [tyd,reduceCtorEq] at hd
   split at h
   ·cases h
    obtain rfl:=hx.bool_inv
    obtain rfl:=hy.bool_inv
    refine ⟨by simp [run_equal_bool h2],by cases op<;>rfl,by simp,by simp,by simp,by simp⟩
   ·cases h
  ·rename_i hd
   cases d<;>simp only [tyd,reduceCtorEq] at hd
   have hptr:∀ z:AV,∀ cz,VA M ρ G z cz->(z = .imm .nilp->cz = .pointer none)/\((∃ o off,z = .ptr o off)\/(∃ cs off,z = .imm (.fptr cs off))->∃ a,cz = .pointer (some a)):=by
    intro z cz hz
    refine ⟨fun e=>by subst e;have:=hz.imm_inv;cases this;rfl,fun e=>?_⟩
    rcases e with ⟨o,off,rfl⟩|⟨cs,off,rfl⟩
    ·cases hz;exact ⟨_,rfl⟩
    ·have:=hz.imm_inv;cases this;exact ⟨_,rfl⟩
   split at h
   ·cases h
    obtain rfl:=(hptr _ _ hx).1 rfl
    obtain rfl:=(hptr _ _ hy).1 rfl
    refine ⟨by first|exact run_equal_nilp h2|exact run_equal_pnil h2,by cases op<;>rfl,by simp,by simp,by simp,by simp⟩
   ·cases h
    obtain rfl:=(hptr _ _ hx).1 rfl
    obtain ⟨a,rfl⟩:=(hptr _ _ hy).2 (.inl ⟨_,_,rfl⟩)
    refine ⟨by first|exact run_equal_nilp h2|exact run_equal_pnil h2,by cases op<;>rfl,by simp,by simp,by simp,by simp⟩
   ·cases h
    obtain ⟨a,rfl⟩:=(hptr _ _ hx).2 (.inl ⟨_,_,rfl⟩)
    obtain rfl:=(hptr _ _ hy).1 rfl
    refine ⟨by first|exact run_equal_nilp h2|exact run_equal_pnil h2,by cases op<;>rfl,by simp,by simp,by simp,by simp⟩
   ·cases h
    obtain rfl:=(hptr _ _ hx).1 rfl
    obtain ⟨a,rfl⟩:=(hptr _ _ hy).2 (.inr ⟨_,_,rfl⟩)
    refine ⟨by first|exact run_equal_nilp h2|exact run_equal_pnil h2,by cases op<;>rfl,by simp,by simp,by simp,by simp⟩
   ·cases h
    obtain ⟨a,rfl⟩:=(hptr _ _ hx).2 (.inr ⟨_,_,rfl⟩)
    obtain rfl:=(hptr _ _ hy).1 rfl
    refine ⟨by first|exact run_equal_nilp h2|exact run_equal_pnil h2,by cases op<;>rfl,by simp,by simp,by simp,by simp⟩
   ·cases h
  ·rename_i hd
   cases d<;>simp only [tyd,reduceCtorEq] at hd
   have hnil:∀ z:AV,∀ cz,VA M ρ G z cz->(z = .imm .niliface->cz = .nilIface)/\((∃ u v,z = .imm (.iface u v))->∃ u v,cz = .iface u v):=by
    intro z cz hz
    refine ⟨fun e=>by subst e;have:=hz.imm_inv;cases this;rfl,fun e=>?_⟩
    obtain ⟨u,v,rfl⟩:=e
    have:=hz.imm_inv;cases this;exact ⟨_,_,rfl⟩
   split at h
   ·split at h
    ·rename_i hc
     cases h
     obtain rfl:=(hnil _ _ hx).1 rfl
     obtain rfl:=(hnil _ _ hy).1 rfl
     refine ⟨by first|exact run_equal_ifnn h2|exact run_equal_ifni h2|exact run_equal_ifin h2,?_,by simp,by simp,by simp,by simp⟩
     have hcc:(∃ v,ox = .const v)\/(∃ v,oy = .const v):=by
      simp only [Bool.or_eq_true] at hc
      rcases hc with hc|hc
      ·left;cases ox<;>simp [isNilC] at hc ⊢
      ·right;cases oy<;>simp [isNilC] at hc ⊢
     rcases hcc with ⟨v,rfl⟩|⟨v,rfl⟩
     ·rw [eqGuard_nil_constL];rfl
     ·rw [eqGuard_nil_constR];rfl
    ·cases h
   ·cases h
    obtain rfl:=(hnil _ _ hx).1 rfl
    obtain ⟨u,v,rfl⟩:=(hnil _ _ hy).2 ⟨_,_,rfl⟩
    refine ⟨by first|exact run_equal_ifnn h2|exact run_equal_ifni h2|exact run_equal_ifin h2,by cases op<;>rfl,by simp,by simp,by simp,by simp⟩
   ·cases h
    obtain ⟨u,v,rfl⟩:=(hnil _ _ hx).2 ⟨_,_,rfl⟩
    obtain rfl:=(hnil _ _ hy).1 rfl
    refine ⟨by first|exact run_equal_ifnn h2|exact run_equal_ifni h2|exact run_equal_ifin h2,by cases op<;>rfl,by simp,by simp,by simp,by simp⟩
   ·cases h
  ·rename_i hd
   cases d<;>simp only [tyd,reduceCtorEq] at hd
   split at h
   ·cases h
    cases hx
    cases hy
    exact ⟨run_equal_slnn h2,by cases op<;>rfl,by simp,by simp,by simp,by simp⟩
   ·cases h
    have hx:=hx.imm_inv
    cases hx with
    |lst _ b off c cs e fr sz h0 hc hm hs h3 h4 h5=>
     cases hy
     exact ⟨run_equal_slpn h2,by cases op<;>rfl,by simp,by simp,by simp,by simp⟩
   ·cases h
  ·cases h
 ·cases h
theorem binA_ok {op:BinOp} {t:TypeId} {x y v:AV} {cx cy:Value} {ox oy:Operand} (h:binA C op (isNilC ox||isNilC oy) t x y=some v) (hx:VA M ρ G x cx) (hy:VA M ρ G y cy) :
  ∃ u,(do eqGuard op t ox oy cx cy;binOp op t cx cy:Sem Value).run C.P w = .ok u w/\VA M ρ G v u:=by
 unfold binA at h
 split at h
 ·rename_i k a k' b
  split at h
  ·rename_i hk
   subst hk
   simp only [Option.map_eq_some_iff] at h
   obtain ⟨z,hz,rfl⟩:=h
   obtain rfl:=hx.int_inv
   obtain rfl:=hy.int_inv
   obtain ⟨u,h1,h2⟩:=intOp_ok (P:=C.P) (w:=w) (M:=M) (t:=t) hz
   exact ⟨u,by rw [eqGuard_at_int];simpa using h1, .imm _ _ h2⟩
  ·cases h
 ·rename_i a b
  simp only [Option.map_eq_some_iff] at h
  obtain ⟨z,hz,rfl⟩:=h
  obtain rfl:=hx.str_inv
  obtain rfl:=hy.str_inv
  obtain ⟨u,h1,h2⟩:=strOp_ok (P:=C.P) (w:=w) (M:=M) (t:=t) hz
  exact ⟨u,by rw [eqGuard_at_string];simpa using h1, .imm _ _ h2⟩
 ·split at h
  ·simp only [Option.map_eq_some_iff] at h
   obtain ⟨b,hb,rfl⟩:=h
   obtain ⟨h1,h2,h3,h4,h5,h6⟩:=eqAV_ok (w:=w) hb hx hy .eql
   refine ⟨.bool b,?_, .imm _ _ (.bool _)⟩
   have:binOp .eql t cx cy=(do pure (.bool (<-Op.equal t cx cy)):Sem Value):=by
    cases cx<;>first|rfl|exact absurd rfl (h3 _ _)|exact absurd rfl (h4 _)|exact absurd rfl (h5 _ _)|exact absurd rfl (h6 _ _ _)
   simp only [Sem.run_bind,h2,Result.andThen_ok,this,h1,Sem.run_pure]
  ·simp only [Option.map_eq_some_iff] at h
   obtain ⟨b,hb,rfl⟩:=h
   obtain ⟨h1,h2,h3,h4,h5,h6⟩:=eqAV_ok (w:=w) hb hx hy .neq
   refine ⟨.bool !b,?_, .imm _ _ (.bool _)⟩
   have:binOp .neq t cx cy=(do pure (.bool (!(<-Op.equal t cx cy))):Sem Value):=by
    cases cx<;>first|rfl|exact absurd rfl (h3 _ _)|exact absurd rfl (h4 _)|exact absurd rfl (h5 _ _)|exact absurd rfl (h6 _ _ _)
   simp only [Sem.run_bind,h2,Result.andThen_ok,this,h1,Sem.run_pure]
  ·cases h
theorem unA_ok {op:UnOp} {x v:AV} {cx:Value} (h:unA op x=some v) (hx:VA M ρ G x cx):∃ u,(Op.unary op cx).run P w = .ok u w/\VA M ρ G v u:=by
 unfold unA at h
 split at h
 ·cases h;obtain rfl:=hx.int_inv;exact ⟨_,by simp [Op.unary,Op.intArith], .imm _ _ (.int _ _)⟩
 ·cases h;obtain rfl:=hx.bool_inv;exact ⟨_,by simp [Op.unary], .imm _ _ (.bool _)⟩
 ·cases h
theorem aMakeInterface_ok {t:TypeId} {x v:AV} {cx:Value} {ups:List (Nat×U)} (h:aMakeInterface C t x=some (.val v ups)) (hx:VA M ρ G x cx):ups=[]/\∃ u,(Instr.makeInterface t cx).run C.P w = .ok u w/\VA M ρ G v u:=by
 unfold aMakeInterface at h
 split at h
 ·rename_i i y hi
  obtain ⟨info,zv,d,h1,h2,h3,h4,h5,h6,h7,h8⟩:=tyOf_some hi
  have hx:=hx.imm_inv
  split at h
  ·cases h
  ·cases h
  ·rename_i n1 n2
   cases h
   refine ⟨rfl,_,?_, .imm _ _ (.iface t _ _ hx)⟩
   simp only [Instr.makeInterface,Sem.run_bind,run_underlying' h2,Result.andThen_ok]
   cases d<;>first|rfl|(exact absurd (by rw [h5];rfl) n1)
 ·cases h
theorem aIndex_ok {t:TypeId} {x ix v:AV} {cx ci:Value} {ups:List (Nat×U)} (h:aIndex C t x ix=some (.val v ups)) (hx:VA M ρ G x cx) (hix:VA M ρ G ix ci):ups=[]/\∃ u,(Instr.index t cx ci).run C.P w = .ok u w/\VA M ρ G v u:=by
 unfold aIndex at h
 split at h
 ·rename_i k s kk n hk
  obtain rfl:=hx.str_inv
  obtain rfl:=hix.int_inv
  obtain ⟨info,zv,d,h1,h2,h3,h4,h5,h6,h7,h8⟩:=tyOf_some hk
  split at h
  ·rename_i hd
   rw [hd] at h5
   cases d<;>simp only [tyd,reduceCtorEq] at h5
   split at h
   ·rename_i hn
    cases h
    refine ⟨rfl,_,?_, .imm _ _ (.int _ _)⟩
    have hlt:n.toNat < s.size:=by omega
    have hlt2:n.toNat < s.data.size:=hlt
    have e:s[n.toNat]? = some (s.data[n.toNat]):=by rw [getElem?_pos s n.toNat hlt];rfl
    simp only [Instr.index,asIntOf,pure_bind,Sem.run_bind,run_underlying' h2,Result.andThen_ok,hn.1,if_true,e]
    simp [Array.getD_eq_getD_getElem?,getElem?_pos s.data n.toNat hlt2]
   ·cases h
  ·cases h
 ·cases h
theorem aExtract_ok {x v:AV} {i:Nat} {cx:Value} {ups:List (Nat×U)} (h:aExtract x i=some (.val v ups)) (hx:VA M ρ G x cx):ups=[]/\∃ u,(Instr.extract cx i).run P w = .ok u w/\VA M ρ G v u:=by
 unfold aExtract at h
 split at h
 ·rename_i vs
  split at h
  ·rename_i y hy
   cases h
   have hx:=hx.imm_inv
   cases hx with
   |tup _ cs hl hc=>
    have hi:=(List.getElem?_eq_some_iff.1 hy).1
    have hlt:i < cs.size:=by omega
    refine ⟨rfl,cs[i],by simp [Instr.extract,hlt], .imm _ _ ?_⟩
    have:=hc i _ hy
    simpa [at_,Array.getD_eq_getD_getElem?,hlt] using this
  ·cases h
 ·rename_i vs
  split at h
  ·rename_i y hy
   cases h
   cases hx with
   |tup _ cs hl hc=>
    have hi:=(List.getElem?_eq_some_iff.1 hy).1
    have hlt:i < cs.size:=by omega
    refine ⟨rfl,cs[i],by simp [Instr.extract,hlt],?_⟩
    have:=hc i _ hy
    simpa [at_,Array.getD_eq_getD_getElem?,hlt] using this
  ·cases h
 ·cases h
theorem aTypeAssert_ok {t xt:TypeId} {x v:AV} {ok:Bool} {cx:Value} {ups:List (Nat×U)} (h:aTypeAssert C x t ok=some (.val v ups)) (hx:VA M ρ G x cx):ups=[]/\∃ u,(Instr.typeAssert cx xt t ok).run C.P w = .ok u w/\VA M ρ G v u:=by
 unfold aTypeAssert at h
 split at h
 ·rename_i i hi
  obtain ⟨info,zv,d,h1,h2,h3,h4,h5,h6,h7,h8⟩:=tyOf_some hi
  split at h
  ·cases h
  ·cases h
  ·rename_i n1 n2
   have hd:∀ ms,d ≠ .interface ms:=fun ms e=>by subst e;exact n1 h5
   have hz:VA M ρ G i.zero zv:=by rw [h8];exact VA_cv zv
   split at h
   ·split at h
    ·rename_i hok
     cases h
     have hx:=hx.imm_inv
     cases hx
     refine ⟨rfl, .tuple #[zv, .bool false],?_,VA_pair hz (.imm _ _ (.bool _))⟩
     simp only [Instr.typeAssert,Sem.run_bind,run_underlying' h2,Result.andThen_ok]
     cases d<;>first|(exact absurd rfl (hd _))|simp [hok,run_zeroValue' h1 h3]
    ·cases h
   ·rename_i u y
    have hx:=hx.imm_inv
    cases hx with
    |iface _ _ cy hy=>
    split at h
    ·rename_i hu
     cases h
     refine ⟨rfl,if ok then .tuple #[cy, .bool true] else cy,?_,?_⟩
     ·simp only [Instr.typeAssert,Sem.run_bind,run_underlying' h2,Result.andThen_ok]
      cases d<;>first|(exact absurd rfl (hd _))|simp [hu]
     ·cases ok
      ·exact .imm _ _ hy
      ·exact .imm _ _ (.tup _ _ rfl fun i z hz=>by
        match i,hz with
        |0,hz=>simp at hz;subst hz;exact hy
        |1,hz=>simp at hz;subst hz;exact .bool _
        |i+2,hz=>simp at hz)
    ·rename_i hu
     split at h
     ·rename_i hok
      cases h
      refine ⟨rfl, .tuple #[zv, .bool false],?_,VA_pair hz (.imm _ _ (.bool _))⟩
      simp only [Instr.typeAssert,Sem.run_bind,run_underlying' h2,Result.andThen_ok]
      cases d<;>first|(exact absurd rfl (hd _))|simp [hu,hok,run_zeroValue' h1 h3]
     ·cases h
   ·cases h
 ·cases h
/-! ### conversions -/
theorem bytesOf_ok:∀ {l:List AV} {bs:List UInt8},bytesOf l=some bs->∃ ns:List Int,l=ns.map (fun n=>AV.imm (.int .u8 n))/\bs=ns.map fun n=>UInt8.ofNat n.toNat
 |[],bs,h=>by cases h;exact ⟨[],rfl,rfl⟩
 | .imm (.int .u8 n)::r,bs,h=>by
  simp only [bytesOf,Option.map_eq_some_iff] at h
  obtain ⟨b',hb,rfl⟩:=h
  obtain ⟨ns,rfl,rfl⟩:=bytesOf_ok hb
  exact ⟨n::ns,rfl,rfl⟩
 | .imm (.int .i8 n)::r,bs,h=>by simp [bytesOf] at h
 | .imm (.int .i16 n)::r,bs,h=>by simp [bytesOf] at h
 | .imm (.int .i32 n)::r,bs,h=>by simp [bytesOf] at h
 | .imm (.int .i64 n)::r,bs,h=>by simp [bytesOf] at h
 | .imm (.int .u16 n)::r,bs,h=>by simp [bytesOf] at h
 | .imm (.int .u32 n)::r,bs,h=>by simp [bytesOf] at h
 | .imm (.int .u64 n)::r,bs,h=>by simp [bytesOf] at h
 | .imm (.bool _)::r,bs,h=>by simp [bytesOf] at h
 | .imm (.str _)::r,bs,h=>by simp [bytesOf] at h
 | .imm (.lst _)::r,bs,h=>by simp [bytesOf] at h
 | .imm (.agg _)::r,bs,h=>by simp [bytesOf] at h
 | .imm (.tup _)::r,bs,h=>by simp [bytesOf] at h
 | .imm (.fptr _ _)::r,bs,h=>by simp [bytesOf] at h
 | .imm (.eptr _ _ _)::r,bs,h=>by simp [bytesOf] at h
 | .imm .nilp::r,bs,h=>by simp [bytesOf] at h
 | .imm .nilfn::r,bs,h=>by simp [bytesOf] at h
 | .imm .nilmap::r,bs,h=>by simp [bytesOf] at h
 | .imm .niliface::r,bs,h=>by simp [bytesOf] at h
 | .imm (.iface _ _)::r,bs,h=>by simp [bytesOf] at h
 | .imm (.fn _ _)::r,bs,h=>by simp [bytesOf] at h
 | .imm (.fmp _ _)::r,bs,h=>by simp [bytesOf] at h
 | .undef::r,bs,h=>by simp [bytesOf] at h
 | .nils::r,bs,h=>by simp [bytesOf] at h
 | .ptr _ _::r,bs,h=>by simp [bytesOf] at h
 | .rptr _ _ _ _::r,bs,h=>by simp [bytesOf] at h
 | .row _ _::r,bs,h=>by simp [bytesOf] at h
 | .map _::r,bs,h=>by simp [bytesOf] at h
 | .fn _ _::r,bs,h=>by simp [bytesOf] at h
 | .agg _::r,bs,h=>by simp [bytesOf] at h
 | .tup _::r,bs,h=>by simp [bytesOf] at h
 | .yld _::r,bs,h=>by simp [bytesOf] at h
theorem foldl_push (ns:List Int):∀ b:ByteArray,ns.foldl (fun r n=>r.push (UInt8.ofNat n.toNat)) b=⟨b.data++(ns.map fun n=>UInt8.ofNat n.toNat).toArray⟩:=by
 induction ns with
 |nil=>intro b;simp
 |cons n r ih=>intro b;simp only [List.foldl_cons,ih];simp [ByteArray.push]
theorem aConvert_ok {a b:TypeId} {x v:AV} {cx:Value} {ups:List (Nat×U)} (h:aConvert C G a b x=some (.val v ups)) (hI:Inv Q w M ρ G nx) (hx:VA M ρ G x cx) :
  ups=[]/\∃ u,(convert a b cx).run C.P w = .ok u w/\VA M ρ G v u:=by
 unfold aConvert at h
 split at h
 ·rename_i i j hi hj
  obtain ⟨info,zv,d,h1,h2,h3,h4,h5,h6,h7,h8⟩:=tyOf_some hi
  obtain ⟨info',zv',d',k1,k2,k3,k4,k5,k6,k7,k8⟩:=tyOf_some hj
  split at h
  ·rename_i k kk n hd
   cases h
   rw [hd] at k5
   cases d'<;>simp only [tyd,reduceCtorEq,TyD.int.injEq] at k5
   subst k5
   obtain rfl:=hx.int_inv
   refine ⟨rfl,_,?_, .imm _ _ (.int _ _)⟩
   simp only [convert,Sem.run_bind,run_underlying' h2,run_underlying' k2,Result.andThen_ok]
   rfl
  ·rename_i s hd
   cases h
   rw [hd] at k5
   cases d'<;>simp only [tyd,reduceCtorEq] at k5
   obtain rfl:=hx.str_inv
   refine ⟨rfl,_,?_, .imm _ _ (.str _)⟩
   simp only [convert,Sem.run_bind,run_underlying' h2,run_underlying' k2,Result.andThen_ok]
   rfl
  ·rename_i hd _
   split at h
   ·rename_i e hde
    split at h
    ·rename_i k hk
     obtain ⟨info2,zv2,d2,l1,l2,l3,l4,l5,l6,l7,l8⟩:=tyOf_some hk
     split at h
     ·rename_i xs hkd hel
      split at h
      ·rename_i l hl
       cases h
       rw [hd] at k5
       cases d'<;>simp only [tyd,reduceCtorEq] at k5
       rw [hde] at h5
       cases d<;>simp only [tyd,reduceCtorEq,TyD.sl.injEq] at h5
       subst h5
       rw [hkd] at l5
       cases d2<;>simp only [tyd,reduceCtorEq,TyD.int.injEq] at l5
       subst l5
       refine ⟨rfl, .string ⟨l.toArray⟩,?_, .imm _ _ (.str _)⟩
       have hcv:∀ s:Value,(∀ k n,s ≠ .int k n)->(∀ s',s ≠ .string s')->(∀ k b,s ≠ .float k b)->(∀ k b c,s ≠ .complex k b c)->(convert a b s).run C.P w=(Conv.bytesToString s).run C.P w:=by
        intro s n1 n2 n3 n4
        simp only [convert,Sem.run_bind,run_underlying' h2,run_underlying' k2,Result.andThen_ok]
        cases s<;>first|(exact absurd rfl (n1 _ _))|(exact absurd rfl (n2 _))|(exact absurd rfl (n3 _ _))|(exact absurd rfl (n4 _ _ _))|simp only [run_underlying' l2,Result.andThen_ok]
       rcases elems_ok hel hI hx with ⟨rfl,rfl⟩|⟨ad,cp,rfl,hrest⟩
       ·cases hl
        rw [hcv _ (by simp) (by simp) (by simp) (by simp)]
        rfl
       ·rw [hcv _ (by simp) (by simp) (by simp) (by simp)]
        obtain ⟨ns,rfl,rfl⟩:=bytesOf_ok hl
        have hload:(loadCells ad (ns.map (fun n=>AV.imm (.int .u8 n))).length).run C.P w = .ok (ns.map (Value.int .u8)).toArray w:=by
         have:=run_loadCells_list (P:=C.P) w ad (ns.map (Value.int .u8)) (fun jx vx hvx=>?_)
         ·simpa using this
         ·rcases hrest with h0|⟨bb,off,cs,e',fr,sz,rfl,g1,g2,g3,g4,g5⟩
          ·simp at h0;subst h0;simp at hvx
          ·rw [List.getElem?_map,Option.map_eq_some_iff] at hvx
           obtain ⟨n,hn,rfl⟩:=hvx
           have hj:=(List.getElem?_eq_some_iff.1 hn).1
           have hs1:sz=1:=by rw [<-g3 (.imm (.int .u8 n)) (List.mem_map.2 ⟨n,List.mem_of_getElem? hn,rfl⟩)];rfl
           subst hs1
           have:=g5 jx (.imm (.int .u8 n)) 0 (.imm (.int .u8 n)) (by simp [hn]) rfl
           have e1:=this.int_inv
           rw [add_none,cell_at g1 (by simp at g4;omega)]
           simpa using e1
        rw [run_bytesToString w _ _ _ ns hload,foldl_push]
        simp
      ·cases h
     ·cases h
    ·cases h
   ·cases h
  ·cases h
 ·cases h
/-! ### slices -/
def OVA (M:Mem) (ρ:Ref) (G:Nat->Obj):Option AV->Option Value->Prop
 |none,none=>True
 |some a,some c=>VA M ρ G a c
 |_,_=>False
theorem bound_ok {n d m:Nat} {o:Option AV} {oc:Option Value} (h:bound n d o=some m) (ho:OVA M ρ G o oc) :
  (oc=none/\m=d)\/∃ k i,oc=some (.int k i)/\0<=i/\i<=n/\m=i.toNat:=by
 unfold bound at h
 split at h
 ·cases oc with
  |some c=>exact absurd ho (by simp [OVA])
  |none=>cases h;exact .inl ⟨rfl,rfl⟩
 ·rename_i k i
  cases oc with
  |none=>exact absurd ho (by simp [OVA])
  |some c=>
   have ho:VA M ρ G (.imm (.int k i)) c:=ho
   obtain rfl:=ho.int_inv
   split at h
   ·rename_i hi;cases h;exact .inr ⟨k,i,rfl,hi.1,hi.2,rfl⟩
   ·cases h
 ·cases h
theorem ovl {tmps:Nat->AV} {arr:Array Value} (hT:TR M ρ G tmps arr) (o:Option Operand):OVA M ρ G (o.map (Go.Abs.ev tmps)) (o.map (evV arr)):=by
 cases o with
 |none=>trivial
 |some x=>exact hT.ev x
theorem sb_run {k:IntKind} {i:Int} {n:Nat} {code:BoundsCode} (h0:0<=i) (h1:i<=n):(Instr.sliceBound (.int k i) n code).run P w = .ok i.toNat w:=by
 simp [Instr.sliceBound,asIntOf,h0,h1]
theorem sliceBounds_run {sl:Bool} {len cap l h:Nat} {lo hi:Option AV} {clo chi:Option Value} (hh:bound len len hi=some h) (hl:bound h 0 lo=some l) (h1:OVA M ρ G hi chi) (h2:OVA M ρ G lo clo) (hc:len<=cap) :
  (Instr.sliceBounds sl len cap clo chi none).run P w = .ok (l,h,cap) w:=by
 rcases bound_ok hh h1 with ⟨rfl,rfl⟩|⟨k,i,rfl,i0,i1,rfl⟩<;>rcases bound_ok hl h2 with ⟨rfl,rfl⟩|⟨k',i',rfl,j0,j1,rfl⟩
 ·simp [Instr.sliceBounds]
 ·simp [Instr.sliceBounds,sb_run j0 j1]
 ·have:i<=(cap:Int):=by omega
  simp [Instr.sliceBounds,sb_run i0 this]
 ·have:i<=(cap:Int):=by omega
  simp [Instr.sliceBounds,sb_run i0 this,sb_run j0 j1]
theorem drop_take_get {α:Type} {l:List α} {a b i:Nat} {x:α} (h:((l.take b).drop a)[i]? = some x):l[a+i]? = some x/\a+i < b:=by
 rw [List.getElem?_drop,List.getElem?_take] at h
 split at h
 ·rename_i hlt;exact ⟨h,hlt⟩
 ·cases h
theorem VI_sub {sz:Nat} {xs:List IV} {c:Value} {l h:Nat} (hv:VI M (.lst xs) c) (hsz:∀ y∈xs,y.cells.length=sz) (hlh:l<=h) (hh:h<=xs.length) :
  ∃ a n cp,c = .slice a n cp/\n=xs.length/\n<=cp/\VI M (.lst ((xs.take h).drop l)) (.slice (if cp=l then a else a.map (·.add (l*sz))) (h-l) (cp-l)):=by
 cases hv with
 |nil=>
  refine ⟨_,_,_,rfl,rfl,Nat.le_refl _,?_⟩
  obtain rfl:h=0:=by simpa using hh
  obtain rfl:l=0:=by omega
  simpa using VI.nil
 |empty ad cp=>
  refine ⟨_,_,_,rfl,rfl,Nat.zero_le _,?_⟩
  obtain rfl:h=0:=by simpa using hh
  obtain rfl:l=0:=by omega
  have:(if cp=0 then some ad else (some ad).map (·.add (0*sz)))=some ad:=by
   split
   ·rfl
   ·cases ad with
    |mk b o s=>simp [Addr.add]
  simp only [this,Nat.sub_zero,List.take_zero,List.drop_nil]
  exact .empty _ _
 |lst _ b off cp cs e fr sz' h0 hc hM hs h1 h2 hl=>
  refine ⟨_,_,_,rfl,rfl,hc,?_⟩
  have hlen:((xs.take h).drop l).length=h-l:=by simp;omega
  rcases Nat.lt_or_ge l h with hlt|hge
  ·have hszz:sz'=sz:=by
    cases xs with
    |nil=>exact absurd rfl h0
    |cons x0 r=>rw [<-h1 0 x0 rfl];exact hsz x0 (by simp)
   subst hszz
   have hne:(xs.take h).drop l≠[]:=fun e=>by rw [e] at hlen;simp at hlen;omega
   have ha:(if cp=l then some (⟨b,off,none⟩:Addr) else (some (⟨b,off,none⟩:Addr)).map (·.add (l*sz')))=some ⟨b,off+l*sz',none⟩:=by
    rw [if_neg (by omega)];simp [add_none]
   rw [ha,<-hlen]
   refine .lst _ b _ _ cs e fr sz' hne (by omega) hM hs (fun i x hx=>h1 _ x (drop_take_get hx).1) ?_ (fun i x j y hx hy=>?_)
   ·have:(l+(h-l))*sz'<=xs.length*sz':=Nat.mul_le_mul_right _ (by omega)
    rw [Nat.add_mul] at this
    rw [hlen];omega
   ·have:=hl (l+i) x j y (drop_take_get hx).1 hy
    rw [Nat.add_mul] at this
    rw [show off+l*sz'+i*sz'+j=off+(l*sz'+i*sz')+j by omega]
    exact this
  ·obtain rfl:l=h:=by omega
   have:(xs.take l).drop l=[]:=by apply List.eq_nil_of_length_eq_zero;omega
   rw [this,Nat.sub_self]
   split
   ·exact .empty _ _
   ·simp only [Option.map_some,add_none]
    exact .empty _ _
theorem bound_le {n d m:Nat} {o:Option AV} (h:bound n d o=some m) (hd:d<=n):m<=n:=by
 unfold bound at h
 split at h
 ·cases h;exact hd
 ·split at h
  ·cases h;omega
  ·cases h
 ·cases h
theorem VI_lst_slice {xs:List IV} {c:Value} (h:VI M (.lst xs) c):∃ a cp,c = .slice a xs.length cp/\xs.length<=cp:=by
 cases h with
 |nil=>exact ⟨_,_,rfl,Nat.le_refl _⟩
 |empty=>exact ⟨_,_,rfl,Nat.zero_le _⟩
 |lst _ _ _ _ _ _ _ _ _ hc=>exact ⟨_,_,rfl,hc⟩
theorem aSlice_ok {s:St} {arr:Array Value} {t:TypeId} {x:Operand} {lo hi:Option Operand} {v:AV} {ups:List (Nat×U)} (h:aSlice C s t (Go.Abs.ev s.tmps x) (lo.map (Go.Abs.ev s.tmps)) (hi.map (Go.Abs.ev s.tmps))=some (.val v ups)) (hI:Inv Q w M ρ s.G nx)
  (hT:TR M ρ s.G s.tmps arr):Good id Q M ρ s.G nx w (updL s.G ups) v ((vNext (Instr.sliceAt t (evV arr x) (lo.map (evV arr)) (hi.map (evV arr)) none)).run C.P w):=by
 have hx:=hT.ev x
 have hlo:=ovl hT lo
 have hhi:=ovl hT hi
 generalize Go.Abs.ev s.tmps x=ax at h hx
 generalize evV arr x=cx at hx ⊢
 generalize lo.map (Go.Abs.ev s.tmps)=alo at h hlo
 generalize lo.map (evV arr)=clo at hlo ⊢
 generalize hi.map (Go.Abs.ev s.tmps)=ahi at h hhi
 generalize hi.map (evV arr)=chi at hhi ⊢
 unfold aSlice at h
 split at h
 ·rename_i i hi'
  obtain ⟨info,zv,d,h1,h2,h3,h4,h5,h6,h7,h8⟩:=tyOf_some hi'
  split at h
  ·rename_i hd
   rw [hd] at h5
   cases d<;>simp only [tyd,reduceCtorEq] at h5
   split at h
   ·rename_i s'
    obtain rfl:=hx.str_inv
    split at h
    ·rename_i hh hhv
     split at h
     ·rename_i l hlv
      cases h
      refine Good.pure hI (run_vNext (c := .string (s'.extract l hh)) ?_) (.imm _ _ (.str _))
      simp only [Instr.sliceAt,Instr.slice,Sem.run_bind,run_underlying' h2,Result.andThen_ok,Option.isSome_none,Bool.false_eq_true,if_false,sliceBounds_run hhv hlv hhi hlo (Nat.le_refl _),Sem.run_pure]
     ·cases h
    ·cases h
   ·cases h
  ·rename_i et hd
   rw [hd] at h5
   cases d<;>simp only [tyd,reduceCtorEq,TyD.sl.injEq] at h5
   rename_i et'
   subst h5
   split at h
   ·rename_i xs ids k hpk hk
    obtain ⟨info2,zv2,d2,l1,l2,l3,l4,l5,l6,l7,l8⟩:=tyOf_some hk
    split at h
    ·rename_i hh hhv
     split at h
     ·rename_i l hlv
      split at h
      ·rename_i hall
       injection h with h
       have hV:=peek_VI hI pkDepth ax (.lst xs) ids cx hpk (fun o h=>h) hx
       obtain ⟨a,cp,rfl,hcp⟩:=VI_lst_slice hV
       have hhle:=bound_le hhv (Nat.le_refl _)
       have hlle:=bound_le hlv (Nat.zero_le _)
       obtain ⟨a',n',cp',e, -, -,hsub⟩:=VI_sub hV (by simpa using hall) hlle hhle
       cases e
       refine good_give hI (peek_live _ _ _ _ hpk) h (by simp) hsub (run_vNext ?_)
       simp only [Instr.sliceAt,Instr.slice,Sem.run_bind,run_underlying' h2,Result.andThen_ok,sliceBounds_run hhv hlv hhi hlo hcp,run_sizeOf' l1,<-l6,Sem.run_pure]
      ·cases h
     ·cases h
    ·cases h
   ·cases h
  ·cases h
 ·cases h
end Go.Abs

/- The abstract interpreter: walks over maps of at most one entry. -/
namespace Go.Abs
variable {M M':Mem} {ρ ρ':Ref} {G G':Nat->Obj} {w w':World} {nx:Nat} {Q:Nat->Prop} {P:Program} {C:Cfg}
theorem good_new {id:Nat} {x:Obj} {o:Go.Obj} (hI:Inv Q w M ρ G nx) (hid:ρ id=none) (hlt:id < nx) (_hrow:∀ et sz xs fr,x ≠ .row et sz xs fr) {s:Sem Value}
  (hx:Ev M ρ G M (upd ρ id (some (.pointer (some ⟨w.heap.size,0,none⟩)))) (upd G id x)->ObjOK (w.alloc o) M (upd ρ id (some (.pointer (some ⟨w.heap.size,0,none⟩)))) (upd G id x) id)
  (hs:s.run P w = .ok (.pointer (some ⟨w.heap.size,0,none⟩)) (w.alloc o)) :
  Good id Q M ρ G nx w (updL G [(id, .set x)]) (.ptr id 0) ((vNext s).run P w):=by
 have hv:Ev M ρ G M (upd ρ id (some (.pointer (some ⟨w.heap.size,0,none⟩)))) (upd G id x):=Ev.new hid
 refine ⟨_,_,_,M,upd ρ id (some (.pointer (some ⟨w.heap.size,0,none⟩))),run_vNext hs, .inl rfl,hv,?_,?_,WS.alloc hI.new _,MQ.refl _ _,fun o h e=>by simp [upd,h,e]⟩
 ·refine hI.put hlt hv (fun b=>?_) (by simp) (hx hv) (fun b hb=>?_)
  ·rcases Nat.lt_or_ge b w.heap.size with h|h
   ·exact .inl (Go.RowKit.Below.heap_alloc w _ b h)
   ·exact .inr (.inl h)
  ·simp [blk] at hb;exact .inl (by omega)
 ·exact .ptr id 0 w.heap.size (by simp [upd])
theorem aRange_ok {id:Nat} {t:TypeId} {x v:AV} {c:Value} {ups:List (Nat×U)} (h:aRange C id t x=some (.val v ups)) (hI:Inv Q w M ρ G nx) (hid:ρ id=none) (hlt:id < nx) (hx:VA M ρ G x c) :
  Good id Q M ρ G nx w (updL G ups) v ((vNext (Instr.range t c)).run C.P w):=by
 unfold aRange at h
 split at h
 ·rename_i i hi
  obtain ⟨info,zv,d,h1,h2,h3,h4,h5,h6,h7,h8⟩:=tyOf_some hi
  split at h
  ·rename_i k e hd
   rw [hd] at h5
   cases d<;>simp only [tyd,reduceCtorEq,TyD.mp.injEq] at h5
   obtain ⟨rfl,rfl⟩:=h5
   split at h
   ·cases h
    have hx:=hx.imm_inv
    cases hx
    refine good_new hI hid hlt (fun _ _ _ _ e=>by cases e) (fun _=>?_) (run_range_nilMap w t _ _ h2)
    unfold ObjOK
    simp only [upd,if_true]
    exact ⟨w.heap.size,rfl, .inl ⟨heap_alloc_new w _,trivial⟩⟩
   ·rename_i ks vs
    split at h
    ·rename_i hle
     cases h
     have hx:=hx.imm_inv
     cases hx with
     |fmp _ _ b es clk hM hk hv hks hvs hbn=>
      refine good_new hI hid hlt (fun _ _ _ _ e=>by cases e) (fun _=>?_) (run_range_map w t _ _ b es clk h2 (hI.mem _ _ hM))
      unfold ObjOK
      simp only [upd,if_true]
      exact ⟨w.heap.size,rfl, .inr ⟨b,es,clk, #[],heap_alloc_new w _,hM,hbn,hk,hv,by omega,hks,hvs,fun _=>rfl,fun e=>by cases e⟩⟩
    ·cases h
   ·cases h
  ·cases h
 ·cases h
theorem run_next_nil_at {w:World} {r:Nat} {a b:Nat} {s:Array Nat} (hr:w.heap[r]? = some (.mapIter none a s b)) (ty:TypeId):(Instr.next (.pointer (some ⟨r,0,none⟩)) false ty).run P w = .ok (.tuple #[.bool false]) w:=by
 simp only [Instr.next,getObj,Sem.run_bind,Sem.run,hr,Result.andThen]
 rfl
theorem size_one {es:Array MapEntry} (h:es.size=1):∃ e,es = #[e]:=by
 refine ⟨es[0],?_⟩
 apply Array.ext
 ·simpa using h
 ·intro i h1 h2
  obtain rfl:i=0:=by simp at h2;omega
  rfl
theorem VI_tup1 {b:Bool}:VI M (.tup [.bool b]) (.tuple #[.bool b]) := .tup _ _ rfl fun i x hx=>by
 match i,hx with
 |0,hx=>simp at hx;subst hx;exact .bool _
 |i+1,hx=>simp at hx
theorem aNext_ok {s:St} {id:Nat} {x v:AV} {isStr:Bool} {c:Value} {ty:TypeId} {ups:List (Nat×U)} (h:aNext s x isStr=some (.val v ups)) (hI:Inv Q w M ρ s.G nx) (hx:VA M ρ s.G x c) :
  Good id Q M ρ s.G nx w (updL s.G ups) v ((vNext (Instr.next c isStr ty)).run C.P w):=by
 unfold aNext at h
 split at h
 ·rename_i q
  cases hx with
  |ptr _ _ r hr=>
   have hobj:=hI.obj q
   unfold ObjOK at hobj
   split at h
   ·rename_i vs done hG
    cases h
    rw [hG] at hobj
    obtain ⟨r',h1,h2⟩:=hobj
    rw [hr] at h1;cases h1
    refine Good.pure hI (run_vNext (c := .tuple #[.bool false]) ?_) (.imm _ _ VI_tup1)
    rcases h2 with ⟨h2,_⟩|⟨bm,es,clk,seen,h2,h3,h4,h6,h7,h8,h9,h10,h11,h12⟩
    ·exact run_next_nil_at h2 ty
    ·have hes:es = #[]:=Array.eq_empty_of_size_eq_zero (by simpa using h6.symm)
     rcases run_next_at (P:=C.P) w ty r bm clk clk seen es clk h2 (hI.mem _ _ h3) h4.1 (Nat.le_refl _) with ⟨_,h⟩|⟨e,he,_⟩
     ·exact h
     ·subst hes;simp [leftOf] at he
   ·rename_i ks vs hG
    cases h
    rw [hG] at hobj
    obtain ⟨r',h1,h2⟩:=hobj
    rw [hr] at h1;cases h1
    refine Good.pure hI (run_vNext (c := .tuple #[.bool false]) ?_) (.imm _ _ VI_tup1)
    rcases h2 with ⟨h2,_⟩|⟨bm,es,clk,seen,h2,h3,h4,h6,h7,h8,h9,h10,h11,h12⟩
    ·exact run_next_nil_at h2 ty
    ·obtain ⟨e0,rfl,rfl⟩:=h12 rfl
     rcases run_next_at (P:=C.P) w ty r bm clk clk _ _ clk h2 (hI.mem _ _ h3) h4.1 (Nat.le_refl _) with ⟨_,h⟩|⟨e,he,_⟩
     ·exact h
     ·simp [leftOf] at he
   ·rename_i k u hG
    cases h
    rw [hG] at hobj
    obtain ⟨r',h1,h2⟩:=hobj
    rw [hr] at h1;cases h1
    rcases h2 with ⟨_,h2⟩|⟨bm,es,clk,seen,h2,h3,h4,h6,h7,h8,h9,h10,h11,h12⟩
    ·cases h2
    ·obtain ⟨e0,rfl⟩:=size_one (by simpa using h6.symm)
     have hs:=h11 rfl
     subst hs
     have hk:=h9 0 k rfl
     have hu:=h10 0 u rfl
     simp only [Array.getD_eq_getD_getElem?,List.getElem?_toArray,List.getElem?_cons_zero,Option.getD_some] at hk hu
     rcases run_next_at (P:=C.P) w ty r bm clk clk #[] _ clk h2 (hI.mem _ _ h3) h4.1 (Nat.le_refl _) with ⟨h,_⟩|⟨e,he,w1,hw1,hrun⟩
     ·simp [leftOf] at h
     ·have hee:e=e0:=by simpa [leftOf] using he
      subst hee
      have hheap:w1.heap=w.heap:=by rcases hw1 with rfl|rfl<;>rfl
      have hlt:r < w.heap.size:=(Array.getElem?_eq_some_iff.1 h2).1
      have hown:=hI.own q _ r (by rw [hG];rfl) (by rw [hG];rfl) hr rfl
      refine good_set hI hr rfl (by rw [hG];rfl) (by rw [hG];rfl) (fun _ _ _ _ e=>by cases e) (w2:=ChangeMaps.setBlock w1 r (.mapIter (some bm) clk ((#[]:Array Nat).push e.born) clk)) ?_ (fun b hb=>?_) (fun hE=>?_) (fun hE=>?_) (run_vNext hrun) (.inl rfl)
      ·refine ⟨?_,?_,?_,?_,fun b hb=>?_⟩
       ·rcases hw1 with rfl|rfl<;>rfl
       ·rcases hw1 with rfl|rfl<;>rfl
       ·rcases hw1 with rfl|rfl<;>rfl
       ·simp [ChangeMaps.setBlock,hheap]
       ·simp only [ChangeMaps.setBlock,hheap,Array.getElem?_setIfInBounds]
        rw [if_neg (fun e:r=b=>hb (e▸hown.2))]
      ·simp only [ChangeMaps.setBlock,hheap,Array.getElem?_setIfInBounds]
       rw [if_neg (fun e=>hb e.symm)]
      ·unfold ObjOK
       simp only [upd,if_true]
       refine ⟨r,hr, .inr ⟨bm, #[e],clk, #[e.born],?_,h3,h4,rfl,rfl,by simp,h9,h10,(fun e=>by cases e),fun _=>⟨e,rfl,rfl⟩⟩⟩
       simp [ChangeMaps.setBlock,hheap,hlt]
      ·refine .imm _ _ (.tup _ _ rfl fun i x hx=>?_)
       match i,hx with
       |0,hx=>simp at hx;subst hx;exact .bool _
       |1,hx=>simp at hx;subst hx;exact hk
       |2,hx=>simp at hx;subst hx;exact hu
       |i+3,hx=>simp at hx
   ·cases h
 ·cases h
theorem aEntry_ok {x v:AV} {c:Value} {ups:List (Nat×U)} (h:aEntry G x=some (.val v ups)) (hI:Inv Q w M ρ G nx) (hx:VA M ρ G x c) :
  ups=[]/\∃ u,(Instr.entry c).run C.P w = .ok u w/\VA M ρ G v u:=by
 unfold aEntry at h
 split at h
 ·rename_i q
  cases hx with
  |ptr _ _ r hr=>
   have hobj:=hI.obj q
   unfold ObjOK at hobj
   split at h
   ·rename_i k u hG
    cases h
    rw [hG] at hobj
    obtain ⟨r',h1,h2⟩:=hobj
    rw [hr] at h1;cases h1
    rcases h2 with ⟨_,h2⟩|⟨bm,es,clk,seen,h2,h3,h4,h6,h7,h8,h9,h10,h11,h12⟩
    ·cases h2
    ·obtain ⟨e0,rfl,rfl⟩:=h12 rfl
     have hk:=h9 0 k rfl
     have hu:=h10 0 u rfl
     simp only [Array.getD_eq_getD_getElem?,List.getElem?_toArray,List.getElem?_cons_zero,Option.getD_some] at hk hu
     refine ⟨rfl,_,run_entry_at (P:=C.P) w r bm clk #[] _ clk e0 h2 (hI.mem _ _ h3) (by simp) h4.2, .imm _ _ (.tup _ _ rfl fun i x hx=>?_)⟩
     match i,hx with
     |0,hx=>simp at hx;subst hx;exact hk
     |1,hx=>simp at hx;subst hx;exact hu
     |i+2,hx=>simp at hx
   ·cases h
 ·cases h
end Go.Abs

/- The abstract interpreter: one operation. -/
namespace Go.Abs
variable {id:Nat}
variable {M M':Mem} {ρ ρ':Ref} {G G':Nat->Obj} {w w':World} {nx:Nat} {Q:Nat->Prop} {P:Program} {C:Cfg} {L:Low}
def simple:Op->Bool
 | .panic _ | .defer _=>false
 | .call c=>match c.callee with
  | .builtin .recover=>false
  | .builtin _=>true
  |_=>false
 |_=>true
theorem parts_ok {tmps:Nat->AV} {arr:Array Value} (hT:TR M ρ G tmps arr) (ps:Array (Nat×Operand)) :
  Parts M ρ G (ps.toList.map fun p=>(p.1,ev tmps p.2)) (ps.map fun (i,x)=>(i,evV arr x)).toList:=by
 refine ⟨by simp,fun k p q hp hq=>?_⟩
 simp only [Array.toList_map,List.getElem?_map,Option.map_eq_some_iff] at hp hq
 obtain ⟨a,ha,rfl⟩:=hp
 obtain ⟨b,hb,rfl⟩:=hq
 rw [ha] at hb
 cases hb
 exact ⟨rfl,hT.ev _⟩
theorem vl_ok {tmps:Nat->AV} {arr:Array Value} (hT:TR M ρ G tmps arr) (xs:Array Operand):VL (VA M ρ G) (xs.toList.map (ev tmps)) (xs.map (evV arr)):=by
 refine ⟨by simp,fun i x hx=>?_⟩
 simp only [List.getElem?_map,Option.map_eq_some_iff] at hx
 obtain ⟨o,ho,rfl⟩:=hx
 have hi:=(List.getElem?_eq_some_iff.1 ho).1
 have:at_ (xs.map (evV arr)) i=evV arr o:=by
  have hlt:i < xs.size:=by simpa using hi
  have e:xs[i]=o:=by
   have:=(List.getElem?_eq_some_iff.1 ho).2
   simpa using this
  simp [at_,Array.getD_eq_getD_getElem?,hlt,e]
 rw [this]
 exact hT.ev o
theorem Good.val {v:AV} {ups:List (Nat×U)} {s:Sem Value} (hI:Inv Q w M ρ G nx) (h:ups=[]/\∃ u,s.run P w = .ok u w/\VA M ρ G v u):Good id Q M ρ G nx w (updL G ups) v ((vNext s).run P w):=by
 obtain ⟨rfl,u,h1,h2⟩:=h
 exact Good.pure hI (run_vNext h1) h2
theorem arr1 {vs:Array Value} (h:vs.size=1):vs = #[at_ vs 0]:=by
 apply Array.ext
 ·simpa using h
 ·intro i h1 h2
  obtain rfl:i=0:=by simp at h2;omega
  simp [at_,Array.getD_eq_getD_getElem?,h1]
theorem arr2 {vs:Array Value} (h:vs.size=2):vs = #[at_ vs 0,at_ vs 1]:=by
 apply Array.ext
 ·simpa using h
 ·intro i h1 h2
  have:i=0\/i=1:=by simp at h2;omega
  rcases this with rfl|rfl<;>simp [at_,Array.getD_eq_getD_getElem?,h1]
theorem aBuiltin_ok {s:St} {id:Nat} {b:Builtin} {tys:Array TypeId} {ty:TypeId} {consts:Array Bool} {args:List AV} {vs:Array Value} {v:AV} {ups:List (Nat×U)} (hb:b ≠ .recover)
  (h:aBuiltin C s id b tys.toList args=some (.val v ups)) (hI:Inv Q w M ρ s.G nx) (hid:ρ id=none) (hlt:id < nx) (ha:VL (VA M ρ s.G) args vs) :
  Good id Q M ρ s.G nx w (updL s.G ups) v ((builtin b tys ty consts vs).run C.P w):=by
 have one:∀ x,args=[x]->∃ c,vs = #[c]/\VA M ρ s.G x c:=fun x e=>by
  subst e;exact ⟨_,arr1 (by have:=ha.1;simpa using this.symm),ha.2 0 x rfl⟩
 have two:∀ x y,args=[x,y]->∃ c d,vs = #[c,d]/\VA M ρ s.G x c/\VA M ρ s.G y d:=fun x y e=>by
  subst e;exact ⟨_,_,arr2 (by have:=ha.1;simpa using this.symm),ha.2 0 x rfl,ha.2 1 y rfl⟩
 unfold aBuiltin at h
 split at h
 ·rename_i x
  obtain ⟨c,rfl,hx⟩:=one x rfl
  split at h
  ·rename_i t htys
   obtain rfl:tys = #[t]:=by apply Array.toList_inj.1;simpa using htys
   split at h
   ·rename_i i hi
    split at h
    ·rename_i n hn
     cases h
     exact Good.pure hI (run_vNext (lenA_ok hi hn hI hx)) (.imm _ _ (.int _ _))
    ·cases h
   ·cases h
  ·cases h
 ·rename_i k a kk b'
  obtain ⟨c,d,rfl,hx,hy⟩:=two _ _ rfl
  obtain rfl:=hx.int_inv
  obtain rfl:=hy.int_inv
  cases h
  refine Good.pure hI (run_vNext (c := .int k (if b' > a then b' else a)) ?_) (.imm _ _ (.int _ _))
  simp [Builtin.max_,Builtin.max2]
 ·rename_i k a kk b'
  obtain ⟨c,d,rfl,hx,hy⟩:=two _ _ rfl
  obtain rfl:=hx.int_inv
  obtain rfl:=hy.int_inv
  cases h
  refine Good.pure hI (run_vNext (c := .int k (if b' < a then b' else a)) ?_) (.imm _ _ (.int _ _))
  simp [Builtin.min_,Builtin.min2]
 ·rename_i a x
  obtain ⟨c,d,rfl,hx,hy⟩:=two _ _ rfl
  split at h
  ·rename_i t u htys
   obtain rfl:tys = #[t,u]:=by apply Array.toList_inj.1;simpa using htys
   exact aAppend_ok h hI hid hlt hx hy
  ·cases h
 ·exact absurd rfl hb
 ·cases h
theorem opA_simple {s:St} {id:Nat} {o:Oper} {v:AV} {ups:List (Nat×U)} {arr:Array Value} (hs:simple o.op=true) (h:opA C L id s o.op=some (.val v ups)) (hI:Inv Q w M ρ s.G nx) (hid:ρ id=none) (hlt:id < nx)
  (hT:TR M ρ s.G s.tmps arr):Good id Q M ρ s.G nx w (updL s.G ups) v ((execOp (evV arr) o).run C.P w):=by
 obtain ⟨dst,op,ty,pos,aft,gd⟩:=o
 simp only at hs h
 unfold opA at h
 unfold execOp
 cases op with
 |move x=>cases h;exact Good.pure hI rfl (hT.ev x)
 |assign x=>cases h;exact Good.pure hI rfl (hT.ev x)
 |pick c a b=>
  simp only at h
  split at h
  ·rename_i t hc
   cases h
   have:=hT.ev c
   rw [hc] at this
   have e:=this.bool_inv
   refine Good.pure hI (c:=if t then evV arr a else evV arr b) ?_ ?_
   ·simp [e,asBool]
   ·cases t
    ·exact hT.ev b
    ·exact hT.ev a
  ·cases h
 |alloc t=>exact aAlloc_ok h hI hid hlt
 |box t x=>exact aBox_ok h hI hid hlt (hT.ev x)
 |build t ps=>exact Good.val hI (aBuild_ok h (parts_ok hT ps))
 |buildSlice t n ps=>exact aBuildSlice_ok h hI hid hlt (parts_ok hT ps)
 |makeSlice t l c=>exact aMakeSlice_ok h hI hid hlt (hT.ev l) (hT.ev c)
 |load t a=>exact Good.val hI (aLoad_ok h hI (hT.ev a))
 |store t a x=>exact aStore_ok h hI (hT.ev a) (hT.ev x)
 |nilCheck x=>
  have hx:=hT.ev x
  simp only at h ⊢
  generalize ev s.tmps x=ax at h hx
  generalize evV arr x=cx at hx ⊢
  unfold aNilCheck at h
  split at h
  ·cases h;cases hx;exact Good.pure hI rfl (.ptr _ _ _ (by assumption))
  ·cases h
   have hx':=hx
   have:=hx.imm_inv
   cases this
   exact Good.pure hI rfl hx'
  ·cases h
   have hx':=hx
   have:=hx.imm_inv
   cases this
   rename_i f cap vs hl h'
   refine Good.pure hI (c := .func f #[] vs) ?_ hx'
   cases f<;>rfl
  ·cases h
   have hx':=hx
   cases hx
   rename_i f cap vs hl h'
   refine Good.pure hI (c := .func f #[] vs) ?_ hx'
   cases f<;>rfl
  ·cases h
   have hx':=hx
   cases hx
   exact Good.pure hI rfl hx'
  ·cases h
 |binOp op t x y z=>
  simp only at h
  split at h
  ·rename_i v' hv
   cases h
   exact Good.val hI ⟨rfl,binA_ok hv (hT.ev x) (hT.ev y)⟩
  ·cases h
 |unOp op t x=>
  simp only at h
  split at h
  ·rename_i v' hv
   cases h
   exact Good.val hI ⟨rfl,unA_ok hv (hT.ev x)⟩
  ·cases h
 |convert a b x=>exact Good.val hI (aConvert_ok h hI (hT.ev x))
 |makeInterface t x=>exact Good.val hI (aMakeInterface_ok h (hT.ev x))
 |makeFunc f first cap=>
  simp only at h
  split at h
  ·rename_i h0
   cases h
   have:first.map (evV arr) = #[]:=Array.eq_empty_of_size_eq_zero (by simpa using h0)
   refine Good.pure hI (c := .func f #[] (cap.map (evV arr))) ?_ (VA_mkFn (vl_ok hT cap))
   show (vNext (Instr.makeFunc f (first.map (evV arr)) (cap.map (evV arr)))).run C.P w=_
   rw [this]
   rfl
  ·cases h
 |makeMap t r=>
  cases r with
  |some _=>simp at h
  |none=>
   simp only at h
   cases h
   exact makeMap_ok hI hid hlt
 |fieldAddr t x f=>exact Good.val hI (aFieldAddr_ok h (hT.ev x))
 |indexAddr t x ix=>exact Good.val hI (aIndexAddr_ok h hI (hT.ev x) (hT.ev ix))
 |index t x ix=>exact Good.val hI (aIndex_ok h (hT.ev x) (hT.ev ix))
 |lookup t m k ok=>exact Good.val hI (lookA_ok h hI (hT.ev m) (hT.ev k))
 |mapUpdate t m k x=>exact aMapUpdate_ok h hI (hT.ev m) (hT.ev k) (hT.ev x)
 |insert t m k x=>exact aMapUpdate_ok h hI (hT.ev m) (hT.ev k) (hT.ev x)
 |extract x i=>exact Good.val hI (aExtract_ok h (hT.ev x))
 |range t x=>exact aRange_ok h hI hid hlt (hT.ev x)
 |next x b=>exact aNext_ok h hI (hT.ev x)
 |entry x=>exact Good.val hI (aEntry_ok h hI (hT.ev x))
 |slice t x lo hi mx=>
  cases mx with
  |some _=>simp at h
  |none=>exact aSlice_ok h hI hT
 |typeAssert x t' t ok=>exact Good.val hI (aTypeAssert_ok h (hT.ev x))
 |call c=>
  obtain ⟨callee,args,ats⟩:=c
  cases callee with
  |builtin b=>
   simp only at h
   have hb:b ≠ .recover:=fun e=>by subst e;simp [simple] at hs
   have key:=fun consts=>aBuiltin_ok (w:=w) (ty:=ty) (consts:=consts) hb h hI hid hlt (vl_ok hT args)
   simp only [resolve,invoke,pure_bind]
   exact key _
  |_=>simp [simple] at hs
 |_=>simp [simple] at hs h
end Go.Abs

/- The abstract interpreter: the machine's steps. -/
namespace Go.Abs
variable {M M':Mem} {ρ ρ':Ref} {G G':Nat->Obj} {w w':World} {nx:Nat} {Q Q':Nat->Prop} {P:Program} {C:Cfg} {L:Low}
theorem eval_evV (a:Act):a.eval=evV a.tmps:=funext fun x=>by cases x<;>rfl
def csM:Pk->List Frame->List Frame
 | .dfr (some _) true,c::rest=>{ c with mode:=match c.mode with
   | .panicking (e::older) => .panicking ({ e with recovered:=true }::older)
   |m=>m }::rest
 |_,cs=>cs
def PkOK (M:Mem) (b:Frame) (cs:List Frame):Pk->Prop
 | .no=>b.kind = .normal/\b.roundOf=none
 | .rnd=>b.kind = .normal/\b.roundOf≠none
 | .dfr none _=>b.kind = .deferred/\b.roundOf=none/\∃ c rest,cs=c::rest/\c.mode = .returning
 | .dfr (some v) _=>b.kind = .deferred/\b.roundOf=none/\∃ c rest x,cs=c::rest/\c.mode = .panicking [{ v:=x,recovered:=false }]/\VI M v x
theorem PkOK.mono {b:Frame} {cs:List Frame} {pk:Pk} (h:PkOK M b cs pk) (hm:M.le M'):PkOK M' b cs pk:=by
 cases pk with
 |no=>exact h
 |rnd=>exact h
 |dfr m r=>cases m with
  |none=>exact h
  |some v=>obtain ⟨h1,h2,c,rest,x,h3,h4,h5⟩:=h;exact ⟨h1,h2,c,rest,x,h3,h4,h5.mono hm⟩
section steps
variable {b:Frame} {a:Act} {k:List Item} {cs:List Frame} {ops:Array Oper} {i:Nat} {rest:List Nat} {o:Oper}
theorem finR (ho:ops[i]? = some o) (v:Value):(b.atR a (.inRegion ops (i::rest)::k)).finish v=b.atR (a.put o.dst v) (.inRegion ops rest::k):=by
 rw [Frame.finish_atR,ho];rfl
theorem step_value {c:Value} {nxt:Next} (ho:ops[i]? = some o) (hw:Region.wanted o (yielded ops a.tmps)=true) (hd:∀ c,o.op ≠ .defer c)
  (hr:(execOp (evV a.tmps) o).run P w = .ok nxt w') (hn:nxt = .value c\/nxt = .skip/\c=Go.undef) :
  step P (lone (b.atR a (.inRegion ops (i::rest)::k)) cs w) = .next (lone (b.atR (a.put o.dst c) (.inRegion ops rest::k)) cs w'):=by
 refine step_lone_go ?_
 rw [stepGR_op ho hw,Oper.semAt_eq _ _ _ hd,eval_evV,<-finR ho]
 rcases hn with rfl|⟨rfl,rfl⟩<;>simp [stepG.apply,hr]
theorem step_enter {f:FuncId} {args:Array Value} (ho:ops[i]? = some o) (hw:Region.wanted o (yielded ops a.tmps)=true) (hd:∀ c,o.op ≠ .defer c)
  (hr:(execOp (evV a.tmps) o).run P w = .ok (.enter f args) w') :
  step P (lone (b.atR a (.inRegion ops (i::rest)::k)) cs w) = .next (lone (Frame.enter P f args .normal) (b.atR a (.inRegion ops (i::rest)::k)::cs) w'):=by
 refine step_lone_go ?_
 rw [stepGR_op ho hw,Oper.semAt_eq _ _ _ hd,eval_evV]
 simp [stepG.apply,hr,Frame.atR]
theorem step_round {l:Nat} {f:FuncId} {tmps:Array Value} {x y:Code} (ho:ops[i]? = some o) (hw:Region.wanted o (yielded ops a.tmps)=true) (hd:∀ c,o.op ≠ .defer c)
  (hr:(execOp (evV a.tmps) o).run P w = .ok (.round l f tmps x y) w') :
  step P (lone (b.atR a (.inRegion ops (i::rest)::k)) cs w) = .next (lone (Frame.round l f tmps x y .normal) (b.atR a (.inRegion ops (i::rest)::k)::cs) w'):=by
 refine step_lone_go ?_
 rw [stepGR_op ho hw,Oper.semAt_eq _ _ _ hd,eval_evV]
 simp [stepG.apply,hr]
theorem step_deferOp {d:Deferred} (hb:b.roundOf=none) (ho:ops[i]? = some o) (hw:Region.wanted o (yielded ops a.tmps)=true)
  (hr:(execOp (evV a.tmps) o).run P w = .ok (.defer d) w') :
  step P (lone (b.atR a (.inRegion ops (i::rest)::k)) cs w) = .next (lone (b.atR ({ a with defers:=d::a.defers }.put o.dst undef) (.inRegion ops rest::k)) cs w'):=by
 refine step_lone_go ?_
 rw [stepGR_op ho hw,hb,Oper.semAt_none,eval_evV]
 have:({ b.atR a (.inRegion ops (i::rest)::k) with defers:=d::a.defers }:Frame).finish undef =
   b.atR ({ a with defers:=d::a.defers }.put o.dst undef) (.inRegion ops rest::k):=by
  have:=finR (b:=b) (a:={ a with defers:=d::a.defers }) (k:=k) (rest:=rest) ho undef
  exact this
 simp only [stepG.apply,Sem.runT_eq,hr,GStep.bare_after]
 exact congrArg (fun fr=>GStep.go { frame:=fr,callers:=cs,status := .running,dying:=none } w') this
theorem step_panic {v:Value} (ho:ops[i]? = some o) (hw:Region.wanted o (yielded ops a.tmps)=true) (hd:∀ c,o.op ≠ .defer c)
  (hr:(execOp (evV a.tmps) o).run P w = .halt (.panic v) w') :
  step P (lone (b.atR a (.inRegion ops (i::rest)::k)) cs w) = .next (lone { b.atR a (.inRegion ops (i::rest)::k) with mode := .panicking [{ v,recovered:=false }] } cs w'):=by
 refine step_lone_go ?_
 rw [stepGR_op ho hw,Oper.semAt_eq _ _ _ hd,eval_evV,<-Frame.raise_atR]
 simp [stepG.apply,hr]
theorem step_recoverOp {v:Value} {c:Frame} {cr:List Frame} (hb:b.roundOf=none) (hk:b.kind = .deferred) (hc:c.mode = .panicking [{ v,recovered:=false }]) (ho:ops[i]? = some o) (hw:Region.wanted o (yielded ops a.tmps)=true)
  (hd:∀ c,o.op ≠ .defer c) (hr:(execOp (evV a.tmps) o).run P w = .ok .recover w') :
  step P (lone (b.atR a (.inRegion ops (i::rest)::k)) (c::cr) w) =
   .next (lone (b.atR (a.put o.dst v) (.inRegion ops rest::k)) ({ c with mode := .panicking [{ v,recovered:=true }] }::cr) w'):=by
 refine step_lone_go ?_
 rw [stepGR_op ho hw,Oper.semAt_eq _ _ _ hd,eval_evV,<-finR ho]
 simp [stepG.apply,hr,Frame.atR,hb,hk,hc,tryRecover]
theorem step_recoverNil {c:Frame} {cr:List Frame} (hb:b.roundOf=none) (hk:b.kind = .deferred) (hc:c.mode = .returning) (ho:ops[i]? = some o) (hw:Region.wanted o (yielded ops a.tmps)=true)
  (hd:∀ c,o.op ≠ .defer c) (hr:(execOp (evV a.tmps) o).run P w = .ok .recover w') :
  step P (lone (b.atR a (.inRegion ops (i::rest)::k)) (c::cr) w) = .next (lone (b.atR (a.put o.dst .nilIface) (.inRegion ops rest::k)) (c::cr) w'):=by
 refine step_lone_go ?_
 rw [stepGR_op ho hw,Oper.semAt_eq _ _ _ hd,eval_evV,<-finR ho]
 simp [stepG.apply,hr,Frame.atR,hb,hk,hc,tryRecover]
end steps
end Go.Abs

/- The abstract interpreter: calls. -/
namespace Go.Abs
variable {M M' M'':Mem} {ρ ρ' ρ'':Ref} {G G' G'':Nat->Obj} {w w' w'':World} {nx nx':Nat} {Q Q' Q'':Nat->Prop} {P:Program} {C:Cfg} {L:Low}
theorem Inv.later (h:Inv Q w M ρ G nx) (hn:nx<=nx'):Inv Q w M ρ G nx':={ h with free:=fun o ho=>h.free o (by omega) }
theorem Inv.blkQ (h:Inv Q w M ρ G nx) {o b:Nat} {v:Value} (hl:(G o).live=true) (hv:ρ o=some v) (hb:blk v=some b):M b≠none\/(M b=none/\Q b):=by
 by_cases hf:(G o).frozen=true
 ·left
  have:=h.obj o
  unfold ObjOK at this
  cases e:G o with
  |gone=>rw [e] at hl;simp [Obj.live] at hl
  |box cs fr=>
   rw [e] at this hf
   obtain ⟨b',vs,e',h1,h2,h3,h4⟩:=this
   rw [hv] at h1;cases h1;simp [blk] at hb;subst hb
   exact h4 (by simpa [Obj.frozen] using hf)
  |row et sz xs fr=>
   rw [e] at this hf
   obtain ⟨_,v',cs,h1,h2,h3,h4⟩:=this
   rw [hv] at h1;cases h1
   exact h4 (by simpa [Obj.frozen] using hf) b hb
  |mp ks vs fr=>
   rw [e] at this hf
   obtain ⟨b',es,clk,h1,h2,h3,h4,h5,h6,h7,h8⟩:=this
   rw [hv] at h1;cases h1;simp [blk] at hb;subst hb
   exact h7 (by simpa [Obj.frozen] using hf)
  |it=>rw [e] at hf;simp [Obj.frozen] at hf
  |lp=>rw [e] at hf;simp [Obj.frozen] at hf
 ·exact .inr (h.own o v b hl (by simpa using hf) hv hb)
theorem Inv.turn (h:Inv Q w M ρ G nx) (hw:∀ b,w'.heap[b]? = w.heap[b]? \/ (¬ Q b/\M b=none)) (hsz:w.heap.size<=w'.heap.size):Inv Q w' M ρ G nx:=by
 refine ⟨fun b o hm=>?_,fun o=>?_,h.free,h.gone,h.sep,h.own,fun b hb=>h.new b (by omega)⟩
 ·rcases hw b with h1|⟨_,h1⟩
  ·rw [h1];exact h.mem b o hm
  ·rw [hm] at h1;cases h1
 ·by_cases hl:(G o).live=true
  ·refine (h.obj o).mono rfl rfl (Ev.refl _ _ _) fun v b hv hb=>?_
   rcases hw b with h1|⟨h1,h2⟩
   ·exact h1
   ·rcases h.blkQ hl hv hb with h3|⟨_,h3⟩
    ·exact absurd h2 h3
    ·exact absurd h3 h1
  ·have:G o = .gone:=by cases e:G o<;>simp_all [Obj.live]
   unfold ObjOK;rw [this];trivial
def QN (w:World):Nat->Prop:=fun b=>w.heap.size<=b
theorem Ev.mem' (hm:M.le M'):Ev M ρ G M' ρ G:=⟨hm,fun _ _ h => .inl h,fun _ _ _ _ xs fr h=>⟨xs,fr,h,Nat.le_refl _,fun _=>rfl⟩⟩
theorem Inv.ext (h:Inv Q w M ρ G nx) (hm:M.le M') (hw:WS (QN w) w w') (hq:MQ (QN w) M M') (hmem:∀ b o,M' b=some o->w'.heap[b]? = some o):Inv Q w' M' ρ G nx:=by
 have hold:∀ b,b < w.heap.size->w'.heap[b]? = w.heap[b]? := fun b hb=>hw.block b (by simp only [QN];omega)
 refine ⟨hmem,fun o=>?_,h.free,h.gone,h.sep,fun o v b h1 h2 h3 h4=>?_,fun b hb=>h.new b (by have:=hw.size;omega)⟩
 ·by_cases hl:(G o).live=true
  ·exact (h.obj o).mono rfl rfl (Ev.mem' hm) fun v b hv hb=>hold b (h.lt hl hv hb)
  ·have:G o = .gone:=by cases e:G o<;>simp_all [Obj.live]
   unfold ObjOK;rw [this];trivial
 ·have ho:=h.own o v b h1 h2 h3 h4
  refine ⟨?_,ho.2⟩
  cases e:M' b with
  |none=>rfl
  |some x=>
   rcases hq b (by rw [e];simp) with h5|h5
   ·exact absurd ho.1 h5
   ·have:=h.lt h1 h3 h4;simp only [QN] at h5;omega
theorem Inv.add (h:Inv Q w M ρ G nx) {q:Nat} {x:Obj} {r:Value} (hq:q < nx) (hn:ρ q=none) (hx:ObjOK w M (upd ρ q (some r)) (upd G q x) q)
  (hb:∀ b,blk r=some b->M b=none/\Q b/\∀ o v,(G o).live=true->ρ o=some v->blk v≠some b):Inv Q w M (upd ρ q (some r)) (upd G q x) nx:=by
 have hv:Ev M ρ G M (upd ρ q (some r)) (upd G q x):=Ev.new hn
 refine ⟨h.mem,fun o=>?_,fun o ho=>?_,fun o ho=>?_,?_,?_,h.new⟩
 ·by_cases hoq:o=q
  ·subst hoq;exact hx
  ·exact (h.obj o).mono (by simp [upd,hoq]) (by simp [upd,hoq]) hv (fun _ _ _ _=>rfl)
 ·simp only [upd];rw [if_neg (by omega)];exact h.free o ho
 ·by_cases hoq:o=q
  ·subst hoq;simp [upd] at ho
  ·simp only [upd,if_neg hoq] at ho ⊢;exact h.gone o ho
 ·intro o o' v v' b hl hl' hv1 hv2 hb1 hb2
  by_cases ho:o=q
  ·by_cases ho':o'=q
   ·rw [ho,ho']
   ·exfalso
    subst ho
    simp only [upd,if_true,Option.some.injEq] at hv1
    subst hv1
    simp only [upd,if_neg ho'] at hl' hv2
    exact (hb b hb1).2.2 o' v' hl' hv2 hb2
  ·by_cases ho':o'=q
   ·exfalso
    subst ho'
    simp only [upd,if_true,Option.some.injEq] at hv2
    subst hv2
    simp only [upd,if_neg ho] at hl hv1
    exact (hb b hb2).2.2 o v hl hv1 hb1
   ·simp only [upd,if_neg ho] at hl hv1
    simp only [upd,if_neg ho'] at hl' hv2
    exact h.sep o o' v v' b hl hl' hv1 hv2 hb1 hb2
 ·intro o v b hl hfr hv1 hb1
  by_cases ho:o=q
  ·subst ho
   simp only [upd,if_true,Option.some.injEq] at hv1
   subst hv1
   exact ⟨(hb b hb1).1,(hb b hb1).2.1⟩
  ·simp only [upd,if_neg ho] at hl hfr hv1
   exact h.own o v b hl hfr hv1 hb1
/-! ### how a state comes of another one -/
structure Tr (N:Nat->Prop) (Q:Nat->Prop) (w:World) (M:Mem) (ρ:Ref) (G:Nat->Obj) (Q':Nat->Prop) (w':World) (M':Mem) (ρ':Ref) (G':Nat->Obj):Prop where
 sub:∀ b,Q' b->Q b
 ev:Ev M ρ G M' ρ' G'
 ws:WS Q w w'
 mq:MQ Q M M'
 born:∀ o,¬ N o->ρ o=none->ρ' o=none
theorem Tr.refl (N Q:Nat->Prop) (w:World) (M:Mem) (ρ:Ref) (G:Nat->Obj):Tr N Q w M ρ G Q w M ρ G:=
 ⟨fun _ h=>h,Ev.refl _ _ _,WS.refl _ _,MQ.refl _ _,fun _ _ h=>h⟩
theorem WS.sub (h:WS Q' w w') (hq:∀ b,Q' b->Q b):WS Q w w':=⟨h.os,h.tape,h.output,h.size,fun b hb=>h.block b fun hb'=>hb (hq b hb')⟩
theorem MQ.sub (h:MQ Q' M M') (hq:∀ b,Q' b->Q b):MQ Q M M':=fun b hb=>(h b hb).imp (fun h=>h) (hq b)
theorem Tr.trans {N1 N2 N:Nat->Prop} (h:Tr N1 Q w M ρ G Q' w' M' ρ' G') (k:Tr N2 Q' w' M' ρ' G' Q'' w'' M'' ρ'' G'') (h1:∀ o,N1 o->N o) (h2:∀ o,N2 o->N o):Tr N Q w M ρ G Q'' w'' M'' ρ'' G'':=
 ⟨fun b hb=>h.sub b (k.sub b hb),h.ev.trans k.ev,h.ws.trans (k.ws.sub h.sub),h.mq.trans (k.mq.sub h.sub),fun o ho hr=>k.born o (fun e=>ho (h2 o e)) (h.born o (fun e=>ho (h1 o e)) hr)⟩
theorem Tr.weak {N N':Nat->Prop} (h:Tr N Q w M ρ G Q' w' M' ρ' G') (hn:∀ o,N o->N' o):Tr N' Q w M ρ G Q' w' M' ρ' G':=
 { h with born:=fun o ho=>h.born o fun e=>ho (hn o e) }
/-! ### deferred calls -/
inductive DR (Q0 Q:Nat->Prop) (w:World) (M:Mem) (ρ:Ref) (G:Nat->Obj):List (AV×List AV)->List Deferred->Prop
 |nil:DR Q0 Q w M ρ G [] []
 |cons {g:AV} {ars:List AV} {ds:List (AV×List AV)} {d:Deferred} {dcs:List Deferred} (f:Fn) (cap:Array Value) (ht:d.target = .fn f cap) (hg:VA M ρ G g (.func f #[] cap)) (ha:VL (VA M ρ G) ars d.args) (h:DR Q0 Q w M ρ G ds dcs) :
   DR Q0 Q w M ρ G ((g,ars)::ds) (d::dcs)
 |mark {ds:List (AV×List AV)} {d:Deferred} {dcs:List Deferred} (r:Nat) (ht:d.target = .collected r) (q0:Q0 r) (q:¬ Q r) (hm:M r=none) (hr:w.heap[r]? = some (.deferred (some [])))
   (hn:∀ x∈dcs,x.target ≠ .collected r) (h:DR Q0 Q w M ρ G ds dcs):DR Q0 Q w M ρ G ds (d::dcs)
theorem DR.mono {Q0 N:Nat->Prop} {ds:List (AV×List AV)} {dcs:List Deferred} (h:DR Q0 Q w M ρ G ds dcs) (t:Tr N Q w M ρ G Q' w' M' ρ' G'):DR Q0 Q' w' M' ρ' G' ds dcs:=by
 induction h with
 |nil=>exact .nil
 |cons f cap ht hg ha h ih=>exact .cons f cap ht (hg.mono t.ev) (ha.imp fun _ _=>VA.mono t.ev) ih
 |mark r ht q0 q hm hr hn h ih=>
  refine .mark r ht q0 (fun e=>q (t.sub r e)) ?_ ((t.ws.block r q).trans hr) hn ih
  cases e:M' r with
  |none=>rfl
  |some x=>
        rcases t.mq r (by rw [e];simp) with h1|h1
        ·exact absurd hm h1
        ·exact absurd h1 q
structure SR (nt:Nat) (Q0 Q:Nat->Prop) (w:World) (M:Mem) (ρ:Ref) (s:St) (a:Act):Prop where
 inv:Inv Q w M ρ s.G s.nx
 tmps:TR M ρ s.G s.tmps a.tmps
 size:a.tmps.size=nt
 sub:∀ b,Q b->Q0 b
 dfr:DR Q0 Q w M ρ s.G s.defers a.defers
/-! ### contracts -/
def PInv (P:Program) (f:FuncId):Prop:=∃ fn,P.funcs[f]? = some fn/\fn.body.isSome=true
def CallEnd (P:Program) (m:Machine) (pk':Pk) (kind:CallKind) (cs:List Frame) (f:FuncId) (w':World) (M':Mem) (ρ':Ref):CR->Prop
 | .ret v G' _=>∃ fr cv fn,Steps P m (lone fr (csM pk' cs) w')/\fr.mode = .returning/\fr.defers=[]/\fr.kind=kind/\fr.fn=f/\P.funcs[f]? = some fn/\(results fn fr.tmps).run P w' = .ok cv w'/\VA M' ρ' G' v cv
 | .pan v _ _=>∃ fr x fn,Steps P m (lone fr (csM pk' cs) w')/\fr.mode = .panicking [{ v:=x,recovered:=false }]/\fr.defers=[]/\fr.kind=kind/\fr.fn=f/\P.funcs[f]? = some fn/\VI M' v x
def CR.mem:CR->Nat->Obj
 | .ret _ G _=>G
 | .pan _ G _=>G
def CR.lim:CR->Nat
 | .ret _ _ n=>n
 | .pan _ _ n=>n
def CallOK (P:Program) (L:Low):Prop:=∀ f args pk G nx res pk',L.call f args pk G nx=some (res,pk')->PInv P f /\
 ∀ Q w M ρ vs kind cs,Inv Q w M ρ G nx->VL (VA M ρ G) args vs->PkOK M (Frame.enter P f vs kind) cs pk->∃ Q' w' M' ρ',Tr (nx <= ·) Q w M ρ G Q' w' M' ρ' res.mem/\Inv Q' w' M' ρ' res.mem res.lim/\nx<=res.lim /\
  PkOK M' (Frame.enter P f vs kind) cs pk'/\CallEnd P (lone (Frame.enter P f vs kind) (csM pk cs) w) pk' kind cs f w' M' ρ' res
def RoundEnd (P:Program) (m:Machine) (c:Frame) (cs:List Frame) (w':World) (M':Mem) (ρ':Ref):CR->Prop
 | .ret v G' _=>∃ cv,Steps P m (lone (c.finish cv) cs w')/\VA M' ρ' G' v cv
 | .pan v _ _=>∃ x',Steps P m (lone (c.raise [{ v:=x',recovered:=false }]) cs w')/\VI M' v x'
def RoundOK (P:Program) (L:Low):Prop:=∀ q args G nx res pk',L.round q args G nx=some (res,pk') ->
 ∀ Q w M ρ vs l,Inv Q w M ρ G nx->VL (VA M ρ G) args vs->ρ q=some (.func (.yield l) #[] #[])->∃ f tmps x y,(Instr.yield l vs).run P w = .ok (.round l f tmps x y) w /\
  ∀ c cs,∃ Q' w' M' ρ',Tr (nx <= ·) Q w M ρ G Q' w' M' ρ' res.mem/\Inv Q' w' M' ρ' res.mem res.lim/\nx<=res.lim /\
   RoundEnd P (lone (Frame.round l f tmps x y .normal) (c::cs) w) c cs w' M' ρ' res
def OrcEnd (w:World) (M:Mem) (cv:Value) (w':World):OrcR->Prop
 | .dat x=>∃ M',M.le M'/\MQ (QN w) M M'/\(∀ b o,M' b=some o->w'.heap[b]? = some o)/\VI M' x cv
 | .own et sz xs=>∃ M' cs,M.le M'/\MQ (QN w) M M'/\(∀ b o,M' b=some o->w'.heap[b]? = some o)/\0 < sz/\w'.ownsRow 0 et sz cv xs.length cs/\(∀ b,blk cv=some b->M' b=none/\w.heap.size<=b) /\
   (∀ x∈xs,(AV.imm x).fits sz=true)/\∀ (i:Nat) x (j:Nat) y,xs[i]? = some x->(IV.cells x)[j]? = some y->VI M' y (cs.getD (i*sz+j) Go.undef)
def OrcOK (C:Cfg):Prop:=∀ f ivs r,C.orc f ivs=some r->PInv C.P f /\
 ∀ M w vs,(∀ b o,M b=some o->w.heap[b]? = some o)->VL (VI M) ivs vs->Calls C.P f vs w fun e w'=>∃ cv,e = .returned cv/\WS (QN w) w w'/\OrcEnd w M cv w' r
structure CfgOK (C:Cfg):Prop where
 mixed:C.P.follows .mixedOrders=true
 ng : ∀ (f : FuncId) (fn : Func), C.P.funcs[f]? = some fn → fn.body.isSome = true → (fn.name == "runtime.NumGoroutine") = false
 orc:OrcOK C
theorem run_callFunc (hC:CfgOK C) {f:FuncId} {vs:Array Value} (h:PInv C.P f):(callFunc f vs).run C.P w = .ok (.enter f vs) w:=by
 obtain ⟨fn,h1,h2⟩:=h
 have h3:=hC.ng f fn h1 h2
 have h4:fn.body≠none:=by cases e:fn.body<;>simp_all
 have h3' : fn.name ≠ "runtime.NumGoroutine" := by simpa using h3
 simp [callFunc,h1,h3',h4]
theorem VL_imms {ivs:List IV} {vs:Array Value} (h:VL (VI M) ivs vs):VL (VA M ρ G) (ivs.map .imm) vs:=by
 refine ⟨by simpa using h.1,fun i x hx=>?_⟩
 rw [List.getElem?_map,Option.map_eq_some_iff] at hx
 obtain ⟨y,hy,rfl⟩:=hx
 exact .imm _ _ (h.2 i y hy)
theorem Inv.empty (hm:∀ b o,M b=some o->w.heap[b]? = some o):Inv (QN w) w M (fun _=>none) (fun _ => .gone) 0:=by
 refine ⟨hm,fun o=>trivial,fun _ _=>rfl,fun _ _=>rfl,?_,?_,fun b hb=>hb⟩
 ·intro o o' v v' b h;simp [Obj.live] at h
 ·intro o v b h;simp [Obj.live] at h
theorem imm_cells (z:IV):(AV.imm z).cells=z.cells.map .imm:=by cases z<;>rfl
def CallRes (P:Program) (id:Nat) (s:St) (m:List Frame->Machine) (Q:Nat->Prop) (w:World) (M:Mem) (ρ:Ref) (c:Frame) (cs:List Frame):Ef->Prop
 | .val v ups=>∃ Q' w' M' ρ' cv,Tr (fun o=>o=id\/s.nx<=o) Q w M ρ s.G Q' w' M' ρ' (updL s.G ups)/\Inv Q' w' M' ρ' (updL s.G ups) s.nx/\Steps P (m (c::cs)) (lone (c.finish cv) cs w')/\VA M' ρ' (updL s.G ups) v cv
 | .wr v s1=>s1={ s with G:=s1.G,nx:=s1.nx }/\s.nx<=s1.nx/\∃ Q' w' M' ρ' cv,Tr (fun o=>o=id\/s.nx<=o) Q w M ρ s.G Q' w' M' ρ' s1.G/\Inv Q' w' M' ρ' s1.G s1.nx/\Steps P (m (c::cs)) (lone (c.finish cv) cs w')/\VA M' ρ' s1.G v cv
 | .pan v s1=>s1={ s with G:=s1.G,nx:=s1.nx }/\s.nx<=s1.nx/\∃ Q' w' M' ρ' x,Tr (fun o=>o=id\/s.nx<=o) Q w M ρ s.G Q' w' M' ρ' s1.G/\Inv Q' w' M' ρ' s1.G s1.nx/\Steps P (m (c::cs)) (lone (c.raise [{ v:=x,recovered:=false }]) cs w')/\VI M' v x
theorem CallEnd.ret {m:Machine} {pk':Pk} {cs:List Frame} {f:FuncId} {v:AV} {n:Nat} {c:Frame} (h:CallEnd P m pk' .normal (c::cs) f w' M' ρ' (.ret v G' n)) (hp:pk' = .no) :
  ∃ cv,Steps P m (lone (c.finish cv) cs w')/\VA M' ρ' G' v cv:=by
 obtain ⟨fr,cv,fn,h1,h2,h3,h4,h5,h6,h7,h8⟩:=h
 subst hp
 refine ⟨cv,h1.trans (.one (step_leave_returned ⟨h2,h3,h4,fn,?_,h7⟩)),h8⟩
 rw [h5];exact h6
theorem CallEnd.pan {m:Machine} {pk':Pk} {cs:List Frame} {f:FuncId} {v:IV} {n:Nat} {c:Frame} (h:CallEnd P m pk' .normal (c::cs) f w' M' ρ' (.pan v G' n)) (hp:pk' = .no) :
  ∃ x,Steps P m (lone (c.raise [{ v:=x,recovered:=false }]) cs w')/\VI M' v x:=by
 obtain ⟨fr,x,fn,h1,h2,h3,h4,h5,h6,h7⟩:=h
 subst hp
 refine ⟨x,h1.trans (.one (step_leave_panicked ⟨h2,h3,fn,?_⟩)),h7⟩
 rw [h5];exact h6
theorem PkOK.no_of {b:Frame} {cs:List Frame} {pk:Pk} (h:PkOK M b cs pk) (hk:b.kind = .normal) (hr:b.roundOf=none):pk = .no:=by
 cases pk with
 |no=>rfl
 |rnd=>exact absurd hr h.2
 |dfr m r=>cases m with
  |none=>obtain ⟨h1,_⟩:=h;rw [hk] at h1;cases h1
  |some v=>obtain ⟨h1,_⟩:=h;rw [hk] at h1;cases h1
theorem Tr.own {N:Nat->Prop} (hm:M.le M') (hw:WS (QN w) w w') (hq:MQ (QN w) M M') (hn:∀ b,w.heap.size<=b->Q b):Tr N Q w M ρ G Q w' M' ρ G:=
 ⟨fun _ h=>h,Ev.mem' hm,hw.sub hn,hq.sub hn,fun _ _ h=>h⟩
theorem peeks_VI {args:List AV} {vs:Array Value} {ivs:List IV} {ids:List Nat} (hI:Inv Q w M ρ G nx) (h:peeks G args=some (ivs,ids)) (hv:VL (VA M ρ G) args vs) :
  VL (VI (memOf w M ρ ids)) ivs vs/\∀ o∈ids,(G o).data=true:=by
 have key:∀ (l:List AV) (xs:List IV) (is:List Nat),peekL (peek G pkDepth) l=some (xs,is)->(∀ o∈is,o∈ids)->xs.length=l.length/\(∀ o∈is,(G o).data=true)/\∀ (i:Nat) x,xs[i]? = some x->∃ a,l[i]? = some a/\∀ c,VA M ρ G a c->VI (memOf w M ρ ids) x c:=by
  intro l
  induction l with
  |nil=>intro xs is h hin;simp only [peekL,Option.some.injEq,Prod.mk.injEq] at h;obtain ⟨rfl,rfl⟩:=h;exact ⟨rfl,by simp,by simp⟩
  |cons a r ih=>
   intro xs is h hin
   simp only [peekL] at h
   split at h
   ·rename_i x ix h1
    split at h
    rotate_left
    ·cases h
    rename_i xr ir h2
    cases h
    have:=ih xr ir h2 (fun o ho=>hin o (List.mem_append.2 (.inr ho)))
    refine ⟨by simp [this.1],fun o ho=>?_,fun i y hy=>?_⟩
    ·rcases List.mem_append.1 ho with ho|ho
     ·exact peek_live _ _ _ _ h1 o ho
     ·exact this.2.1 o ho
    ·cases i with
     |zero=>simp at hy;subst hy;exact ⟨a,rfl,fun c hc=>peek_VI hI _ _ _ _ _ h1 (fun o ho=>hin o (List.mem_append.2 (.inl ho))) hc⟩
     |succ i=>simpa using this.2.2 i y (by simpa using hy)
   ·cases h
 obtain ⟨k1,k2,k3⟩:=key args ivs ids h (fun o h=>h)
 refine ⟨⟨by rw [k1];exact hv.1,fun i x hx=>?_⟩,k2⟩
 obtain ⟨a,ha,hc⟩:=k3 i x hx
 exact hc _ (hv.2 i a ha)
theorem callA_ok (hC:CfgOK C) (hL:CallOK C.P L) {id:Nat} {s:St} {f:FuncId} {args:List AV} {ef:Ef} (h:callA C L id s f args=some ef) {vs:Array Value} {c:Frame} {cs:List Frame} (hI:Inv Q w M ρ s.G s.nx) (hid:ρ id=none) (hlt:id < s.nx)
  (hv:VL (VA M ρ s.G) args vs):PInv C.P f/\CallRes C.P id s (fun cs=>lone (Frame.enter C.P f vs .normal) cs w) Q w M ρ c cs ef:=by
 have hpk:∀ M,PkOK M (Frame.enter C.P f vs .normal) (c::cs) .no:=fun M=>⟨rfl,rfl⟩
 unfold callA at h
 split at h
 ·split at h
  ·rename_i v G2 n2 pk2 hcall
   cases h
   obtain ⟨h1,h2⟩:=hL _ _ _ _ _ _ _ hcall
   obtain ⟨Q',w',M',ρ',t,i',n',p',e'⟩:=h2 Q w M ρ vs .normal (c::cs) hI hv (hpk M)
   obtain ⟨cv,st,hcv⟩:=CallEnd.ret e' (p'.no_of rfl rfl)
   exact ⟨h1,rfl,n',Q',w',M',ρ',cv,t.weak (fun _ => .inr),i',st,hcv⟩
  ·rename_i v G2 n2 pk2 hcall
   cases h
   obtain ⟨h1,h2⟩:=hL _ _ _ _ _ _ _ hcall
   obtain ⟨Q',w',M',ρ',t,i',n',p',e'⟩:=h2 Q w M ρ vs .normal (c::cs) hI hv (hpk M)
   obtain ⟨x,st,hx⟩:=CallEnd.pan e' (p'.no_of rfl rfl)
   exact ⟨h1,rfl,n',Q',w',M',ρ',x,t.weak (fun _ => .inr),i',st,hx⟩
  ·cases h
 ·split at h
  ·cases h
  ·rename_i ivs ids hpks
   obtain ⟨hvi,hdat⟩:=peeks_VI hI hpks hv
   have hF:=hI.frz hdat
   have hE:=Ev.frz w M ρ s.G ids
   have hMQ:=MQ.memOf hI hdat
   have hn:∀ b,w.heap.size<=b->Q b:=hI.new
   have tF:Tr (fun o=>o=id\/s.nx<=o) Q w M ρ s.G Q w (memOf w M ρ ids) ρ (updL s.G (frz ids)):=⟨fun _ h=>h,hE,WS.refl _ _,hMQ,fun _ _ h=>h⟩
   -- what comes back, as data
   have back:∀ (r:IV) (v:AV) (ups:List (Nat×U)) (w':World) (M':Mem) (cv:Value),give ids r.scalar (.imm r) = .val v ups->(memOf w M ρ ids).le M'->WS (QN w) w w'->MQ (QN w) (memOf w M ρ ids) M'->(∀ b o,M' b=some o->w'.heap[b]? = some o) ->
     VI M' r cv->Steps C.P (lone (Frame.enter C.P f vs .normal) (c::cs) w) (lone (c.finish cv) cs w')->CallRes C.P id s (fun cs=>lone (Frame.enter C.P f vs .normal) cs w) Q w M ρ c cs (.val v ups):=by
    intro r v ups w' M' cv hg hle hws hmq hmem hr hst
    unfold give at hg
    split at hg
    ·rename_i hsc
     cases hg
     refine ⟨Q,w',M,ρ,cv,Tr.own (Mem.le_refl M) hws (MQ.refl _ _) hn,?_,hst, .imm _ _ (hr.any hsc M)⟩
     exact hI.ext (Mem.le_refl M) hws (MQ.refl _ _) fun b o hb=>by
      have:=hI.mem b o hb
      rw [hws.block b (by have:=(Array.getElem?_eq_some_iff.1 this).1;simp only [QN];omega)];exact this
    ·cases hg
     exact ⟨Q,w',M',ρ,cv,tF.trans (Tr.own hle hws hmq hn) (fun _ h=>h) (fun _ h=>h),hF.ext hle hws hmq hmem,hst, .imm _ _ hr⟩
   split at h
   ·rename_i r horc
    injection h with h
    obtain ⟨h1,h2⟩:=hC.orc f ivs _ horc
    obtain ⟨e,w',fr,⟨cv,rfl,hws,M',hle,hmq,hmem,hr⟩,hcomes,hfn,hleave⟩:=h2 (memOf w M ρ ids) w vs hF.mem hvi (c::cs)
    refine ⟨h1,?_⟩
    cases ef with
    |val v ups=>exact back r v ups w' M' cv h hle hws hmq hmem hr (Steps.trans hcomes (.one (step_leave_returned hleave)))
    |wr=>unfold give at h;split at h<;>cases h
    |pan=>unfold give at h;split at h<;>cases h
   ·rename_i et sz xs horc
    cases h
    obtain ⟨h1,h2⟩:=hC.orc f ivs _ horc
    obtain ⟨e,w',fr,⟨cv,rfl,hws,M',cells,hle,hmq,hmem,hsz,hrow,hblk,hfit,hcell⟩,hcomes,hfn,hleave⟩:=h2 (memOf w M ρ ids) w vs hF.mem hvi (c::cs)
    have hup:updL s.G (frz ids++[(id, .set (.row et sz (xs.map .imm) false))])=upd (updL s.G (frz ids)) id (.row et sz (xs.map .imm) false):=by
     rw [updL_append];rfl
    have hI1:=hF.ext hle hws hmq hmem
    have hv1:Ev M' ρ (updL s.G (frz ids)) M' (upd ρ id (some cv)) (upd (updL s.G (frz ids)) id (.row et sz (xs.map .imm) false)):=Ev.new hid
    have hrow':w'.ownsRow 0 et sz cv (xs.map AV.imm).length cells:=by rw [List.length_map];exact hrow
    refine ⟨h1,Q,w',M',upd ρ id (some cv),cv,?_,?_,Steps.trans hcomes (.one (step_leave_returned hleave)),?_⟩
    ·rw [hup]
     refine (tF.trans (Tr.own (N:=fun o=>o=id\/s.nx<=o) hle hws hmq hn) (fun _ h=>h) (fun _ h=>h)).trans (N2:=fun o=>o=id) ⟨fun _ h=>h,hv1,WS.refl _ _,MQ.refl _ _,fun o h e=>by simp [upd,h,e]⟩ (fun _ h=>h) (fun _ h => .inl h)
    ·rw [hup]
     refine hI1.add hlt hid ?_ (fun b hb=>⟨(hblk b hb).1,hn b (hblk b hb).2,fun o v hl hv hb'=>?_⟩)
     ·unfold ObjOK
      simp only [upd,if_true]
      refine ⟨hsz,cv,cells,rfl,hrow',⟨fun x hx=>?_,fun i x j y hx hy=>?_⟩,fun h=>by cases h⟩
      ·obtain ⟨z,hz,rfl⟩:=List.mem_map.1 hx
       exact hfit z hz
      ·rw [List.getElem?_map,Option.map_eq_some_iff] at hx
       obtain ⟨z,hz,rfl⟩:=hx
       obtain ⟨u,rfl,hu⟩:=imm_get (l:=z.cells) (by rw [<-imm_cells z];exact hy)
       exact .imm _ _ (hcell i z j u hz hu)
     ·have h3:=hF.lt hl hv hb'
      have h4:=(hblk b hb).2
      omega
    ·rw [hup]
     rcases hrow.2 with ⟨rfl,h1⟩|⟨g,cap,cur,rfl,_⟩
     ·exact .row id _ none 0 0 (by simp [upd]) fun et' sz' xs' fr' e=>by
       simp only [upd,if_true,Obj.row.injEq] at e
       obtain ⟨rfl,rfl,rfl,rfl⟩:=e
       exact ⟨by simp,fun _=>by simp [upd]⟩
     ·exact .row id _ _ _ _ (by simp [upd]) fun et' sz' xs' fr' e=>by
       simp only [upd,if_true,Obj.row.injEq] at e
       obtain ⟨rfl,rfl,rfl,rfl⟩:=e
       exact ⟨by simp,fun _=>by simp [upd]⟩
   ·split at h
    ·rename_i v G2 n2 pk2 hcall
     split at h
     ·rename_i r is hpeek
      injection h with h
      obtain ⟨h1,h2⟩:=hL _ _ _ _ _ _ _ hcall
      obtain ⟨Q',w',M',ρ',t,i',n',p',e'⟩:=h2 (QN w) w (memOf w M ρ ids) (fun _=>none) vs .normal (c::cs) (Inv.empty hF.mem) (VL_imms hvi) (hpk _)
      obtain ⟨cv,st,hcv⟩:=CallEnd.ret e' (p'.no_of rfl rfl)
      have hr:=peek_VI i' _ _ _ _ _ hpeek (fun o h=>h) hcv
      have hdat2:=peek_live _ _ _ _ hpeek
      refine ⟨h1,?_⟩
      have hle:(memOf w M ρ ids).le (memOf w' M' ρ' is):=Mem.le_trans t.ev.mem (memOf_le _ _ _ _)
      have hmq:MQ (QN w) (memOf w M ρ ids) (memOf w' M' ρ' is):=t.mq.trans ((MQ.memOf i' hdat2).sub t.sub)
      cases ef with
      |val v' ups=>exact back r v' ups w' _ cv h hle t.ws hmq (i'.frz hdat2).mem hr st
      |wr=>unfold give at h;split at h<;>cases h
      |pan=>unfold give at h;split at h<;>cases h
     ·cases h
    ·rename_i v G2 n2 pk2 hcall
     split at h
     ·rename_i hsc
      cases h
      obtain ⟨h1,h2⟩:=hL _ _ _ _ _ _ _ hcall
      obtain ⟨Q',w',M',ρ',t,i',n',p',e'⟩:=h2 (QN w) w (memOf w M ρ ids) (fun _=>none) vs .normal (c::cs) (Inv.empty hF.mem) (VL_imms hvi) (hpk _)
      obtain ⟨x,st,hx⟩:=CallEnd.pan e' (p'.no_of rfl rfl)
      refine ⟨h1,rfl,Nat.le_refl _,Q,w',M,ρ,x,Tr.own (Mem.le_refl M) t.ws (MQ.refl _ _) hn,?_,st,hx.any hsc M⟩
      exact hI.ext (Mem.le_refl M) t.ws (MQ.refl _ _) fun b o hb=>by
       have:=hI.mem b o hb
       rw [t.ws.block b (by have:=(Array.getElem?_eq_some_iff.1 this).1;simp only [QN];omega)];exact this
     ·cases h
    ·cases h
end Go.Abs
