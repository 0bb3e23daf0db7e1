/- The abstract interpreter: maps. -/
import Derived.Test.YtpkmljhdaijanaaAbsMem
namespace Go.Abs

variable {id : Nat}
variable {M M' : Mem} {ρ ρ' : Ref} {G G' : Nat → Obj} {w w' : World} {nx : Nat} {Q : Nat → Prop} {P : Program} {C : Cfg}

theorem getD_entry (es : Array MapEntry) (i : Nat) (h : i < es.size) : es.getD i default = es[i] := by simp [Array.getD_eq_getD_getElem?, h]

/-- A map's entries, as a list of keys. -/
def KeysOf (M : Mem) (ks : List IV) (es : List MapEntry) : Prop := ks.length = es.length ∧ ∀ (i : Nat) x e, ks[i]? = some x → es[i]? = some e → VI M x e.key

theorem KeysOf.of {ks : List IV} {es : Array MapEntry} (hl : ks.length = es.size) (h : ∀ (i : Nat) x, ks[i]? = some x → VI M x (es.getD i default).key) : KeysOf M ks es.toList := by
  refine ⟨by simpa using hl, fun i x e hx he => ?_⟩
  have := h i x hx
  have hi := (List.getElem?_eq_some_iff.1 hx).1
  rw [getD_entry es i (by omega)] at this
  rw [List.getElem?_eq_getElem (by simp; omega)] at he
  cases he
  simpa using this

theorem sameNow_ok {d : TypeDesc} {k x : IV} {ck cx : Value} {b : Bool} (hd : keyOk (tyd P d) k = true) (hk : VI M k ck) (hx : VI M x cx) (h : scalarEq k x = some b) : Instr.sameNow d ck cx = some b := by
  unfold keyOk at hd
  split at hd
  · rename_i h1
    cases d <;> simp only [tyd, reduceCtorEq] at h1
    cases hk
    cases hx <;> simp only [scalarEq, reduceCtorEq] at h
    simpa [Instr.sameNow] using h
  · rename_i h1
    cases d <;> simp only [tyd, reduceCtorEq] at h1
    cases hk
    cases hx <;> simp only [scalarEq, reduceCtorEq] at h
    simpa [Instr.sameNow] using h
  · rename_i h1
    cases d <;> simp only [tyd, reduceCtorEq] at h1
    cases hk
    cases hx <;> simp only [scalarEq, reduceCtorEq] at h
    simpa [Instr.sameNow] using h
  · cases hd

theorem findNow_ok {d : TypeDesc} {k : IV} {ck : Value} (hd : keyOk (tyd P d) k = true) (hk : VI M k ck) : ∀ (ks : List IV) (es : List MapEntry) (i0 : Nat) (r : Option Nat), KeysOf M ks es → keyFind k ks = some r →
    (∀ j, r = some j → j < es.length) ∧ Instr.findNow d ck es i0 = some (r.bind fun j => (es[j]?).map fun e => (i0 + j, e.val)) ∧ (∀ j, r = some j → ∃ x, ks[j]? = some x ∧ scalarEq k x = some true) := by
  intro ks
  induction ks with
  | nil =>
    intro es i0 r hK h
    cases es with
    | nil => simp only [keyFind, Option.some.injEq] at h; subst h; exact ⟨fun j hj => (nomatch hj), rfl, fun j hj => (nomatch hj)⟩
    | cons e es => simp [KeysOf] at hK
  | cons x ks ih =>
    intro es i0 r hK h
    cases es with
    | nil => simp [KeysOf] at hK
    | cons e es =>
      have hx := hK.2 0 x e rfl rfl
      have hK' : KeysOf M ks es := ⟨by simpa using hK.1, fun i y e' hy he => hK.2 (i + 1) y e' (by simpa using hy) (by simpa using he)⟩
      simp only [keyFind] at h
      split at h
      · rename_i hs
        cases h
        have := sameNow_ok hd hk hx hs
        exact ⟨fun j hj => by cases hj; simp, by simp [Instr.findNow, this], fun j hj => by cases hj; exact ⟨x, rfl, hs⟩⟩
      · rename_i hs
        have := sameNow_ok hd hk hx hs
        simp only [Option.map_eq_some_iff] at h
        obtain ⟨r', h', rfl⟩ := h
        obtain ⟨h1, h2, h3⟩ := ih es (i0 + 1) r' hK' h'
        refine ⟨fun j hj => ?_, ?_, fun j hj => ?_⟩
        · cases r' with
          | none => cases hj
          | some j' => cases hj; have := h1 j' rfl; simp; omega
        · simp only [Instr.findNow, this, h2]
          cases r' with
          | none => rfl
          | some j' => simp [Nat.add_assoc, Nat.add_comm 1 j']
        · cases r' with
          | none => cases hj
          | some j' => cases hj; obtain ⟨y, g1, g2⟩ := h3 j' rfl; exact ⟨y, by simpa using g1, g2⟩
      · cases h

theorem checkKey_ok {d : TypeDesc} {kt : TypeId} {k : IV} {ck : Value} {em : Bool} {n : Nat} (hu : P.underlying kt = some d) (hd : keyOk (tyd P d) k = true) : (Instr.checkKey em (n + 1) kt ck).run P w = .ok () w := by
  unfold keyOk at hd
  simp only [Instr.checkKey, Sem.run_bind, run_underlying' hu, Result.andThen_ok]
  split at hd <;> rename_i h1 <;> first | (cases d <;> simp only [tyd, reduceCtorEq] at h1 <;> rfl) | cases hd

/-- What a map holds, as the machine sees it. -/
theorem mapKV_ok {m : AV} {c : Value} {ks : List IV} {vs : List AV} (h : mapKV G m = some (ks, vs)) (hI : Inv Q w M ρ G nx) (hm : VA M ρ G m c) :
    (c = .map none ∧ ks = [] ∧ vs = []) ∨ ∃ b es clk, c = .map (some b) ∧ w.heap[b]? = some (.map es clk) ∧ ks.length = es.size ∧ vs.length = es.size ∧
      (∀ (i : Nat) x, ks[i]? = some x → VI M x (es.getD i default).key) ∧ (∀ (i : Nat) x, vs[i]? = some x → VA M ρ G x (es.getD i default).val) := by
  unfold mapKV at h
  split at h
  · cases h
    have hm := hm.imm_inv
    cases hm
    exact .inl ⟨rfl, rfl, rfl⟩
  · cases h
    have hm := hm.imm_inv
    cases hm with
    | fmp _ _ b es clk hM hk hv hks hvs hbn =>
      refine .inr ⟨b, es, clk, rfl, hI.mem _ _ hM, hk, by simpa using hv, hks, fun i x hx => ?_⟩
      obtain ⟨z, rfl, hz⟩ := imm_get hx
      exact .imm _ _ (hvs i z hz)
  · rename_i o
    split at h
    · rename_i ks' vs' fr hG
      cases h
      cases hm with
      | map _ b hr =>
        have := hI.obj o
        unfold ObjOK at this
        rw [hG] at this
        obtain ⟨b', es, clk, g1, g2, g3, g4, g5, g6, g7⟩ := this
        rw [hr] at g1; cases g1
        exact .inr ⟨b, es, clk, rfl, g2, g3, g4, g5, g6⟩
    · cases h
  · cases h

theorem VA_pair {a b : AV} {x y : Value} (ha : VA M ρ G a x) (hb : VA M ρ G b y) : VA M ρ G (mkTup [a, b]) (.tuple #[x, y]) := by
  refine VA_mkTup ⟨rfl, fun i z hz => ?_⟩
  match i, hz with
  | 0, hz => simp at hz; subst hz; exact ha
  | 1, hz => simp at hz; subst hz; exact hb
  | i + 2, hz => simp at hz

theorem lookA_ok {t : TypeId} {m key v : AV} {ok : Bool} {cm ck : Value} {ups : List (Nat × U)} (h : lookA C t G m key ok = some (.val v ups)) (hI : Inv Q w M ρ G nx) (hm : VA M ρ G m cm) (hk : VA M ρ G key ck) :
    ups = [] ∧ ∃ u, (Instr.lookup t cm ck ok).run C.P w = .ok u w ∧ VA M ρ G v u := by
  unfold lookA at h
  split at h
  · rename_i i hi
    split at h
    · rename_i kt e hd
      split at h
      · rename_i key ks vs k hkv hkt
        split at h
        · rename_i hok
          obtain ⟨info, zv, d, h1, h2, h3, h4, h5, h6, h7, h8⟩ := tyOf_some hi
          rw [hd] at h5
          cases d <;> simp only [tyd, reduceCtorEq, TyD.mp.injEq] at h5
          obtain ⟨rfl, rfl⟩ := h5
          obtain ⟨kinfo, kzv, kd, k1, k2, k3, k4, k5, k6, k7, k8⟩ := tyOf_some hkt
          rw [k5] at hok
          have hk := hk.imm_inv
          have hsome : ∀ (j : Nat) (x : AV) (b : Nat) (es : Array MapEntry) (clk : Nat), keyFind key ks = some (some j) → vs[j]? = some x → cm = .map (some b) → w.heap[b]? = some (.map es clk) → ks.length = es.size → vs.length = es.size →
              (∀ (i : Nat) x, ks[i]? = some x → VI M x (es.getD i default).key) → (∀ (i : Nat) x, vs[i]? = some x → VA M ρ G x (es.getD i default).val) →
              ∃ u, (Instr.lookup t cm ck ok).run C.P w = .ok u w ∧ VA M ρ G (if ok then mkTup [x, .imm (.bool true)] else x) u := by
            intro j x b es clk hf hx hc hh hl1 hl2 hks hvs
            subst hc
            obtain ⟨g1, g2, _⟩ := findNow_ok hok hk ks es.toList 0 (some j) (KeysOf.of hl1 hks) hf
            have hj := (List.getElem?_eq_some_iff.1 hx).1
            have hv := hvs j x hx
            rw [getD_entry es j (by omega)] at hv
            have hj2 : es.toList[j]? = some es[j] := by rw [Array.getElem?_toList]; simp
            simp only [Option.bind_some] at g2
            rw [hj2] at g2
            simp only [Option.map_some, Nat.zero_add] at g2
            have hrun : (Instr.lookup t (.map (some b)) ck ok).run C.P w = .ok (if ok then .tuple #[es[j].val, .bool true] else es[j].val) w := by
              simp only [Instr.lookup, Sem.run_bind, run_underlying' h2, Result.andThen_ok]
              simp [getObj, Sem.run, hh, checkKey_ok k2 hok, Instr.findKey, run_underlying' k2, g2]
            refine ⟨_, hrun, ?_⟩
            cases ok
            · exact hv
            · exact VA_pair hv (.imm _ _ (.bool _))
          have hnone : ∀ (z : TyI), keyFind key ks = some none → C.ty e = some z → ∃ u, (Instr.lookup t cm ck ok).run C.P w = .ok u w ∧ VA M ρ G (if ok then mkTup [z.zero, .imm (.bool false)] else z.zero) u := by
            intro z hf hz
            obtain ⟨einfo, ezv, ed, e1, e2, e3, e4, e5, e6, e7, e8⟩ := tyOf_some hz
            have hzv : VA M ρ G z.zero ezv := by rw [e8]; exact VA_cv ezv
            have hrun : (Instr.lookup t cm ck ok).run C.P w = .ok (if ok then .tuple #[ezv, .bool false] else ezv) w := by
              rcases mapKV_ok hkv hI hm with ⟨rfl, rfl, rfl⟩ | ⟨b, es, clk, rfl, hh, hl1, hl2, hks, hvs⟩
              · simp only [Instr.lookup, Sem.run_bind, run_underlying' h2, Result.andThen_ok]
                simp [checkKey_ok k2 hok, Instr.findKey, run_underlying' k2, Instr.findNow, run_zeroValue' e1 e3]
              · obtain ⟨g1, g2, _⟩ := findNow_ok hok hk ks es.toList 0 none (KeysOf.of hl1 hks) hf
                simp only [Option.bind_none] at g2
                simp only [Instr.lookup, Sem.run_bind, run_underlying' h2, Result.andThen_ok]
                simp [getObj, Sem.run, hh, checkKey_ok k2 hok, Instr.findKey, run_underlying' k2, g2, run_zeroValue' e1 e3]
            refine ⟨_, hrun, ?_⟩
            cases ok
            · exact hzv
            · exact VA_pair hzv (.imm _ _ (.bool _))
          split at h
          · rename_i j hf
            split at h
            · rename_i x hx
              cases h
              rcases mapKV_ok hkv hI hm with ⟨rfl, rfl, rfl⟩ | ⟨b, es, clk, hc, hh, hl1, hl2, hks, hvs⟩
              · simp at hx
              · exact ⟨rfl, hsome j x b es clk hf hx hc hh hl1 hl2 hks hvs⟩
            · cases h
          · rename_i hf
            split at h
            · rename_i z hz
              cases h
              exact ⟨rfl, hnone z hf hz⟩
            · cases h
          · cases h
        · cases h
      · cases h
    · cases h
  · cases h

theorem ba_eq (a b : ByteArray) : (a == b) = decide (a = b) := by
  have h : (a == b) = (a.data == b.data) := by cases a; cases b; rfl
  rw [h, Bool.eq_iff_iff]; simp; cases a; cases b; simp

theorem scalarEq_true {k x : IV} {ck cx : Value} (h : scalarEq k x = some true) (hk : VI M k ck) (hx : VI M x cx) : ∀ n, Instr.sameBits (n + 1) cx ck = true := by
  intro n
  cases hk <;> cases hx <;> simp only [scalarEq, reduceCtorEq, Option.some.injEq] at h
  · have := eq_of_beq h; subst this; simp [Instr.sameBits]
  · split at h
    · rename_i hk; subst hk; simp at h; subst h; simp [Instr.sameBits]
    · cases h
  · rw [ba_eq] at h; simp at h; subst h; simp [Instr.sameBits, ba_eq]

theorem getD_modify (es : Array MapEntry) (i j : Nat) (f : MapEntry → MapEntry) (h : j < es.size) : (es.modify i f).getD j default = if i = j then f (es.getD j default) else es.getD j default := by
  simp only [Array.getD_eq_getD_getElem?, Array.getElem?_modify]
  by_cases hi : i = j
  · simp [hi, h]
  · simp [hi]

theorem Born.push {es : Array MapEntry} {clk : Nat} (h : Born es clk) (k v : Value) : Born (es.push { key := k, val := v, born := clk }) (clk + 1) := by
  refine ⟨fun x hx => ?_, ?_⟩
  · simp only [Array.toList_push, List.mem_append, List.mem_singleton] at hx
    rcases hx with hx | rfl
    · have := h.1 x hx; omega
    · exact Nat.lt_succ_self _
  · simp only [Array.toList_push, List.map_append, List.map_cons, List.map_nil]
    rw [List.nodup_append]
    refine ⟨h.2, by simp, ?_⟩
    intro a ha b hb
    simp only [List.mem_map] at ha
    obtain ⟨x, hx, rfl⟩ := ha
    have := h.1 x hx
    simp only [List.mem_singleton] at hb
    subst hb
    omega
theorem Born.modify {es : Array MapEntry} {clk : Nat} (h : Born es clk) (j : Nat) (f : MapEntry → MapEntry) (hf : ∀ e, (f e).born = e.born) : Born (es.modify j f) clk := by
  have e : (es.modify j f).toList.map (·.born) = es.toList.map (·.born) := by
    apply List.ext_getElem?
    intro i
    simp only [List.getElem?_map, Array.getElem?_toList, Array.getElem?_modify]
    split
    · cases es[i]? <;> simp [hf]
    · rfl
  refine ⟨fun x hx => ?_, by rw [e]; exact h.2⟩
  have : x.born ∈ (es.modify j f).toList.map (·.born) := List.mem_map.2 ⟨x, hx, rfl⟩
  rw [e, List.mem_map] at this
  obtain ⟨y, hy, he⟩ := this
  rw [← he]; exact h.1 y hy

theorem getD_push (es : Array MapEntry) (e : MapEntry) (j : Nat) : (es.push e).getD j default = if j = es.size then e else es.getD j default := by
  simp only [Array.getD_eq_getD_getElem?, Array.getElem?_push]
  split <;> simp_all

theorem setIf_heap (w : World) (b : Nat) (o : Go.Obj) (h : b < w.heap.size) : ({ w with heap := w.heap.setIfInBounds b o } : World).heap[b]? = some o := by simp [h]

theorem setIf_other (w : World) (b k : Nat) (o : Go.Obj) (h : k ≠ b) : ({ w with heap := w.heap.setIfInBounds b o } : World).heap[k]? = w.heap[k]? := by
  simp only [Array.getElem?_setIfInBounds]
  rw [if_neg (fun e => h e.symm)]

theorem aMapUpdate_ok {s : St} {t : TypeId} {m k x v : AV} {cm ck cx : Value} {ups : List (Nat × U)} (h : aMapUpdate C s t m k x = some (.val v ups)) (hI : Inv Q w M ρ s.G nx) (hm : VA M ρ s.G m cm) (hk : VA M ρ s.G k ck) (hx : VA M ρ s.G x cx) :
    Good id Q M ρ s.G nx w (updL s.G ups) v ((uNext (Instr.mapUpdate t cm ck cx)).run C.P w) := by
  unfold aMapUpdate at h
  split at h
  · rename_i i q key hi
    split at h
    · rename_i kt e ks vs hd hG
      split at h
      · rename_i kk hkt
        split at h
        · rename_i hok
          obtain ⟨info, zv, d, h1, h2, h3, h4, h5, h6, h7, h8⟩ := tyOf_some hi
          rw [hd] at h5
          cases d <;> simp only [tyd, reduceCtorEq, TyD.mp.injEq] at h5
          obtain ⟨rfl, rfl⟩ := h5
          obtain ⟨kinfo, kzv, kd, k1, k2, k3, k4, k5, k6, k7, k8⟩ := tyOf_some hkt
          rw [k5] at hok
          have hk := hk.imm_inv
          cases hm with
          | map _ b hr =>
            have hobj := hI.obj q
            unfold ObjOK at hobj
            rw [hG] at hobj
            obtain ⟨b', es, clk, g1, g2, g3, g4, g5, g6, g7, g8⟩ := hobj
            rw [hr] at g1; cases g1
            have hb := (Array.getElem?_eq_some_iff.1 g2).1
            have hown := hI.own q _ b (by rw [hG]; rfl) (by rw [hG]; rfl) hr rfl
            have hws : ∀ o, WS Q w { w with heap := w.heap.setIfInBounds b o } := fun o => ⟨rfl, rfl, rfl, by simp, fun k hk => setIf_other w b k o fun e => hk (e ▸ hown.2)⟩
            have hold : ∀ o k, k ≠ b → ({ w with heap := w.heap.setIfInBounds b o } : World).heap[k]? = w.heap[k]? := fun o k hk => setIf_other w b k o hk
            have hfind := fun r hf => findNow_ok hok hk ks es.toList 0 r (KeysOf.of g3 g5) hf
            split at h
            · rename_i j hf
              cases h
              obtain ⟨f1, f2, f3⟩ := hfind _ hf
              have hj : j < es.size := by have := f1 j rfl; simpa using this
              obtain ⟨x0, hx0, hxe⟩ := f3 j rfl
              have hkey0 := g5 j x0 hx0
              rw [getD_entry es j hj] at hkey0
              have hj2 : es.toList[j]? = some es[j] := by rw [Array.getElem?_toList]; simp [hj]
              simp only [Option.bind_some] at f2
              rw [hj2] at f2
              simp only [Option.map_some, Nat.zero_add] at f2
              have hsb := scalarEq_true hxe hk hkey0 9999
              have hrun : (uNext (Instr.mapUpdate t (.map (some b)) ck cx)).run C.P w = .ok .skip { w with heap := w.heap.setIfInBounds b (.map (es.modify j fun e => { e with key := ck, val := cx }) clk) } := by
                apply run_uNext (u := ())
                simp only [Instr.mapUpdate, Sem.run_bind, run_underlying' h2, Result.andThen_ok]
                simp [getObj, setObj, Sem.run, g2, checkKey_ok k2 hok, Instr.findKey, run_underlying' k2, f2, hj, Instr.keyThatStays, hsb]
              refine good_set hI hr rfl (by rw [hG]; rfl) (by rw [hG]; rfl) (fun _ _ _ _ e => by cases e) (hws _) (hold _) (fun hE => ?_) (fun _ => .undef _) hrun (.inr ⟨rfl, rfl⟩)
              unfold ObjOK
              simp only [upd, if_true]
              refine ⟨b, _, clk, hr, setIf_heap w b _ hb, by simp; exact g3, by simp; exact g4, fun a y hy => ?_, fun a y hy => ?_, (fun h => by cases h), g8.modify j _ fun _ => rfl⟩
              · rw [List.getElem?_set] at hy
                by_cases ha : j = a
                · subst ha
                  rw [if_pos rfl] at hy
                  split at hy
                  · cases hy
                    rw [getD_modify _ _ _ _ hj, if_pos rfl]; exact hk
                  · cases hy
                · rw [if_neg ha] at hy
                  have := (List.getElem?_eq_some_iff.1 hy).1
                  rw [getD_modify _ _ _ _ (by omega), if_neg ha]; exact g5 a y hy
              · rw [List.getElem?_set] at hy
                by_cases ha : j = a
                · subst ha
                  rw [if_pos rfl] at hy
                  split at hy
                  · cases hy
                    rw [getD_modify _ _ _ _ hj, if_pos rfl]; exact hx.mono hE
                  · cases hy
                · rw [if_neg ha] at hy
                  have := (List.getElem?_eq_some_iff.1 hy).1
                  rw [getD_modify _ _ _ _ (by omega), if_neg ha]; exact (g6 a y hy).mono hE
            · rename_i hf
              cases h
              obtain ⟨f1, f2, f3⟩ := hfind _ hf
              simp only [Option.bind_none] at f2
              have hrun : (uNext (Instr.mapUpdate t (.map (some b)) ck cx)).run C.P w = .ok .skip { w with heap := w.heap.setIfInBounds b (.map (es.push { key := ck, val := cx, born := clk }) (clk + 1)) } := by
                apply run_uNext (u := ())
                simp only [Instr.mapUpdate, Sem.run_bind, run_underlying' h2, Result.andThen_ok]
                simp [getObj, setObj, Sem.run, g2, checkKey_ok k2 hok, Instr.findKey, run_underlying' k2, f2]
              refine good_set hI hr rfl (by rw [hG]; rfl) (by rw [hG]; rfl) (fun _ _ _ _ e => by cases e) (hws _) (hold _) (fun hE => ?_) (fun _ => .undef _) hrun (.inr ⟨rfl, rfl⟩)
              unfold ObjOK
              simp only [upd, if_true]
              refine ⟨b, _, clk + 1, hr, setIf_heap w b _ hb, by simp; exact g3, by simp; exact g4, fun a y hy => ?_, fun a y hy => ?_, (fun h => by cases h), g8.push _ _⟩
              · rw [getD_push]
                rw [List.getElem?_append] at hy
                split at hy
                · rw [if_neg (by omega)]; exact g5 a y hy
                · have ha : a = es.size := by
                    have := (List.getElem?_eq_some_iff.1 hy).1; simp at this; omega
                  subst ha
                  rw [if_pos rfl]
                  rw [g3] at hy; simp at hy; subst hy; exact hk
              · rw [getD_push]
                rw [List.getElem?_append] at hy
                split at hy
                · rw [if_neg (by omega)]; exact (g6 a y hy).mono hE
                · have ha : a = es.size := by
                    have := (List.getElem?_eq_some_iff.1 hy).1; simp at this; omega
                  subst ha
                  rw [if_pos rfl]
                  rw [g4] at hy; simp at hy; subst hy; exact hx.mono hE
            · cases h
        · cases h
      · cases h
    · cases h
  · cases h

theorem makeMap_ok {id : Nat} {t : TypeId} (hI : Inv Q w M ρ G nx) (hid : ρ id = none) (hlt : id < nx) :
    Good id Q M ρ G nx w (updL G [(id, .set (.mp [] [] false))]) (.map id) ((vNext (Instr.makeMap t none)).run P w) := by
  have hv : Ev M ρ G M (upd ρ id (some (.map (some w.heap.size)))) (upd G id (.mp [] [] false)) := Ev.new hid
  refine ⟨_, _, _, M, upd ρ id (some (.map (some w.heap.size))), run_vNext (w' := w.alloc (.map #[] 0)) (by simp [Instr.makeMap]), .inl rfl, hv, ?_, .map id w.heap.size (by simp [upd]), WS.alloc hI.new _, MQ.refl _ _, fun o h e => by simp [upd, h, e]⟩
  refine hI.put hlt hv (fun b => ?_) (by simp) ?_ (fun b hb => ?_)
  · rcases Nat.lt_or_ge b w.heap.size with h | h
    · exact .inl (Go.RowKit.Below.heap_alloc w _ b h)
    · exact .inr (.inl h)
  · unfold ObjOK
    simp only [upd, if_true]
    exact ⟨w.heap.size, #[], 0, rfl, heap_alloc_new w _, rfl, rfl, fun i x hx => by simp at hx, fun i x hx => by simp at hx, (fun h => by cases h), by simp [Born]⟩
  · simp [blk] at hb; exact .inl (by omega)

end Go.Abs
