/- The abstract interpreter: an operation where the machine stands. -/
import Derived.Test.YtpkmljhdaijanaaAbsCall
namespace Go.Abs

variable {M M' M'' : Mem} {ρ ρ' ρ'' : Ref} {G G' G'' : Nat → Obj} {w w' w'' : World} {nx nx' : Nat} {Q Q' Q'' Q0 : Nat → Prop} {P : Program} {C : Cfg} {L : Low}

theorem VL_append {p : AV → Value → Prop} {l l' : List AV} {vs vs' : Array Value} (h : VL p l vs) (k : VL p l' vs') : VL p (l ++ l') (vs ++ vs') := by
  refine ⟨by simp [h.1, k.1], fun i x hx => ?_⟩
  rw [List.getElem?_append] at hx
  split at hx
  · rename_i hi
    have := h.2 i x hx
    have hlt : i < vs.size := by rw [← h.1]; exact hi
    simpa [at_, Array.getD_eq_getD_getElem?, Array.getElem?_append, hlt] using this
  · rename_i hi
    have := k.2 _ x hx
    have hlt : ¬ i < vs.size := by rw [← h.1]; exact hi
    simpa [at_, Array.getD_eq_getD_getElem?, Array.getElem?_append, hlt, h.1] using this

theorem fnOf_ok {g : AV} {f : Fn} {cap : List AV} {c : Value} (h : fnOf g = some (f, cap)) (hg : VA M ρ G g c) : ∃ vs, c = .func f #[] vs ∧ VL (VA M ρ G) cap vs := by
  unfold fnOf at h
  split at h
  · cases h
    have := hg.imm_inv
    cases this with | fn _ _ vs hl hx => exact ⟨vs, rfl, VL_imms ⟨hl, hx⟩⟩
  · cases h
    cases hg with | fn _ _ vs hl hx => exact ⟨vs, rfl, hl, hx⟩
  · cases h

/-- A simple operation only has a value. -/
theorem opA_val {id : Nat} {s : St} {o : Op} {ef : Ef} (hs : simple o = true) (h : opA C L id s o = some ef) : ∃ v ups, ef = .val v ups := by
  unfold opA at h
  cases o <;> simp only [simple, Bool.false_eq_true, reduceCtorEq] at hs h
  case call c =>
    obtain ⟨callee, args, ats⟩ := c
    cases callee with
    | builtin b =>
      simp only at h
      have hb : b ≠ .recover := fun e => by subst e; simp at hs
      unfold aBuiltin aAppend at h
      split at h
      all_goals first | exact absurd rfl hb | ((repeat' split at h) <;> first | (cases h <;> exact ⟨_, _, rfl⟩) | cases h)
    | _ => simp only [Bool.false_eq_true] at hs
  case makeMap t r => cases r <;> simp only [reduceCtorEq] at h; cases h; exact ⟨_, _, rfl⟩
  case slice t x lo hi mx => cases mx <;> simp only [reduceCtorEq] at h; unfold aSlice give at h; (repeat' split at h) <;> first | (cases h <;> exact ⟨_, _, rfl⟩) | cases h
  all_goals
    (try unfold aAlloc at h); (try unfold aBox at h); (try unfold aBuild at h); (try unfold aBuildSlice at h); (try unfold aMakeSlice at h); (try unfold aLoad at h); (try unfold aStore at h); (try unfold aNilCheck at h)
    (try unfold aConvert at h); (try unfold aMakeInterface at h); (try unfold aFieldAddr at h); (try unfold aIndexAddr at h); (try unfold aIndex at h); (try unfold lookA at h); (try unfold aMapUpdate at h); (try unfold aExtract at h)
    (try unfold aSlice at h); (try unfold aTypeAssert at h); (try unfold give at h); (try unfold aRange at h); (try unfold aNext at h); (try unfold aEntry at h)
    (repeat' split at h) <;> first | (cases h <;> exact ⟨_, _, rfl⟩) | cases h

def OpN (P : Program) (nt : Nat) (b : Frame) (cs : List Frame) (k : List Item) (ops : Array Oper) (i : Nat) (rest : List Nat) (o : Oper) (id : Nat) (Q0 Q : Nat → Prop) (w : World) (M : Mem) (ρ : Ref) (s : St) (a : Act) (v : AV) (s1 : St) : Prop :=
  ∃ c a1 Q' w' M' ρ', Tr (fun o => o = id ∨ s.nx ≤ o) Q w M ρ s.G Q' w' M' ρ' s1.G ∧ s.nx ≤ s1.nx ∧ s1.tmps = s.tmps ∧ SR nt Q0 Q' w' M' ρ' s1 a1 ∧ VA M' ρ' s1.G v c ∧ PkOK M b cs s1.pk ∧
    Steps P (lone (b.atR a (.inRegion ops (i :: rest) :: k)) (csM s.pk cs) w) (lone (b.atR (a1.put o.dst c) (.inRegion ops rest :: k)) (csM s1.pk cs) w')

def OpP (P : Program) (nt : Nat) (b : Frame) (cs : List Frame) (k : List Item) (ops : Array Oper) (i : Nat) (rest : List Nat) (id : Nat) (Q0 Q : Nat → Prop) (w : World) (M : Mem) (ρ : Ref) (s : St) (a : Act) (v : IV) (s1 : St) : Prop :=
  ∃ x a1 todo Q' w' M' ρ', Tr (fun o => o = id ∨ s.nx ≤ o) Q w M ρ s.G Q' w' M' ρ' s1.G ∧ s.nx ≤ s1.nx ∧ SR nt Q0 Q' w' M' ρ' s1 a1 ∧ VI M' v x ∧ PkOK M b cs s1.pk ∧
    Steps P (lone (b.atR a (.inRegion ops (i :: rest) :: k)) (csM s.pk cs) w) (lone { b.atR a1 todo with mode := .panicking [{ v := x, recovered := false }] } (csM s1.pk cs) w')

def OpRes (P : Program) (nt : Nat) (b : Frame) (cs : List Frame) (k : List Item) (ops : Array Oper) (i : Nat) (rest : List Nat) (o : Oper) (id : Nat) (Q0 Q : Nat → Prop) (w : World) (M : Mem) (ρ : Ref) (s : St) (a : Act) : Ef → Prop
  | .val v ups => OpN P nt b cs k ops i rest o id Q0 Q w M ρ s a v { s with G := updL s.G ups }
  | .wr v s1 => OpN P nt b cs k ops i rest o id Q0 Q w M ρ s a v s1
  | .pan v s1 => OpP P nt b cs k ops i rest id Q0 Q w M ρ s a v s1

theorem SR.turn {nt : Nat} {s : St} {a : Act} {N : Nat → Prop} {G1 : Nat → Obj} {n1 : Nat} (h : SR nt Q0 Q w M ρ s a) (t : Tr N Q w M ρ s.G Q' w' M' ρ' G1) (hi : Inv Q' w' M' ρ' G1 n1) : SR nt Q0 Q' w' M' ρ' { s with G := G1, nx := n1 } a :=
  ⟨hi, h.tmps.mono t.ev, h.size, fun b hb => h.sub b (t.sub b hb), h.dfr.mono t⟩

section
variable {nt : Nat} {b : Frame} {cs : List Frame} {k : List Item} {ops : Array Oper} {i : Nat} {rest : List Nat} {o : Oper} {id : Nat} {s : St} {a : Act}

/-- A call, made by an operation. -/
theorem opRes_of_call {ef : Ef} {m : List Frame → Machine} (ho : ops[i]? = some o) (hS : SR nt Q0 Q w M ρ s a) (hpk : PkOK M b cs s.pk)
    (hstep : step P (lone (b.atR a (.inRegion ops (i :: rest) :: k)) (csM s.pk cs) w) = .next (m (b.atR a (.inRegion ops (i :: rest) :: k) :: csM s.pk cs)))
    (h : CallRes P id s m Q w M ρ (b.atR a (.inRegion ops (i :: rest) :: k)) (csM s.pk cs) ef) : OpRes P nt b cs k ops i rest o id Q0 Q w M ρ s a ef := by
  cases ef with
  | val v ups =>
    obtain ⟨Q', w', M', ρ', cv, t, hi, hst, hv⟩ := h
    rw [finR ho] at hst
    exact ⟨cv, a, Q', w', M', ρ', t, Nat.le_refl _, rfl, hS.turn t hi, hv, hpk, .head hstep hst⟩
  | wr v s1 =>
    obtain ⟨e, hn, Q', w', M', ρ', cv, t, hi, hst, hv⟩ := h
    rw [finR ho] at hst
    have hS1 := hS.turn t hi
    rw [← e] at hS1
    have epk : s1.pk = s.pk := by rw [e]
    refine ⟨cv, a, Q', w', M', ρ', t, hn, by rw [e], hS1, hv, by rw [epk]; exact hpk, by rw [epk]; exact .head hstep hst⟩
  | pan v s1 =>
    obtain ⟨e, hn, Q', w', M', ρ', x, t, hi, hst, hv⟩ := h
    rw [Frame.raise_atR] at hst
    have hS1 := hS.turn t hi
    rw [← e] at hS1
    have epk : s1.pk = s.pk := by rw [e]
    exact ⟨x, a, _, Q', w', M', ρ', t, hn, hS1, hv, by rw [epk]; exact hpk, by rw [epk]; exact .head hstep hst⟩

theorem aCall_ok (hC : CfgOK C) (hL : CallOK C.P L) (hR : RoundOK C.P L) {g : AV} {args : List AV} {ef : Ef} (h : aCall C L id s g args = some ef) {gc : Value} {vs : Array Value} {c : Frame} (hI : Inv Q w M ρ s.G s.nx) (hid : ρ id = none) (hlt : id < s.nx)
    (hg : VA M ρ s.G g gc) (hv : VL (VA M ρ s.G) args vs) : ∃ fn cap, gc = .func fn #[] cap ∧ ∃ m : List Frame → Machine, CallRes C.P id s m Q w M ρ c cs ef ∧
      ((∃ f args', (invoke (.fn fn cap) vs).run C.P w = .ok (.enter f args') w ∧ m = fun cs => lone (Frame.enter C.P f args' .normal) cs w) ∨
       (∃ l f tmps x y, (invoke (.fn fn cap) vs).run C.P w = .ok (.round l f tmps x y) w ∧ m = fun cs => lone (Frame.round l f tmps x y .normal) cs w)) := by
  unfold aCall at h
  split at h
  · rename_i q
    have : ∃ l, gc = .func (.yield l) #[] #[] ∧ ρ q = some (.func (.yield l) #[] #[]) := by
      cases hg with | yld _ l hq => exact ⟨l, rfl, hq⟩
    obtain ⟨l, rfl, hq⟩ := this
    split at h
    · rename_i v G2 n2 pk2 hcall
      cases h
      obtain ⟨f, tmps, x, y, h1, h2⟩ := hR _ _ _ _ _ _ hcall Q w M ρ vs l hI hv hq
      obtain ⟨Q', w', M', ρ', t, i', n', cv, st, hcv⟩ := h2 c cs
      exact ⟨_, _, rfl, _, ⟨rfl, n', Q', w', M', ρ', cv, t.weak (fun _ => .inr), i', st, hcv⟩, .inr ⟨l, f, tmps, x, y, h1, rfl⟩⟩
    · rename_i v G2 n2 pk2 hcall
      cases h
      obtain ⟨f, tmps, x, y, h1, h2⟩ := hR _ _ _ _ _ _ hcall Q w M ρ vs l hI hv hq
      obtain ⟨Q', w', M', ρ', t, i', n', x', st, hx⟩ := h2 c cs
      exact ⟨_, _, rfl, _, ⟨rfl, n', Q', w', M', ρ', x', t.weak (fun _ => .inr), i', st, hx⟩, .inr ⟨l, f, tmps, x, y, h1, rfl⟩⟩
    · cases h
  · split at h
    · rename_i kf cap hf
      obtain ⟨cv, rfl, hcap⟩ := fnOf_ok hf hg
      obtain ⟨h1, h2⟩ := callA_ok hC hL h (vs := vs ++ cv) (c := c) (cs := cs) hI hid hlt (VL_append hv hcap)
      exact ⟨_, _, rfl, _, h2, .inl ⟨kf, vs ++ cv, by simp [invoke, run_callFunc hC h1], rfl⟩⟩
    · cases h

theorem op_ok (hC : CfgOK C) (hL : CallOK C.P L) (hR : RoundOK C.P L) {ef : Ef} (h : opA C L id s o.op = some ef) (ho : ops[i]? = some o) (hw : Region.wanted o (yielded ops a.tmps) = true) (hS : SR nt Q0 Q w M ρ s a) (hpk : PkOK M b cs s.pk)
    (hid : ρ id = none) (hlt : id < s.nx) : OpRes C.P nt b cs k ops i rest o id Q0 Q w M ρ s a ef := by
  by_cases hs : simple o.op = true
  · obtain ⟨v, ups, rfl⟩ := opA_val hs h
    obtain ⟨nxt, c, w', M', ρ', hr, hn, he, hi, hv, hws, hmq, hb⟩ := opA_simple (w := w) hs h hS.inv hid hlt hS.tmps
    have t : Tr (fun o => o = id ∨ s.nx ≤ o) Q w M ρ s.G Q w' M' ρ' (updL s.G ups) := ⟨fun _ h => h, he, hws, hmq, fun o ho hr => hb o (fun e => ho (.inl e)) hr⟩
    have hd : ∀ c, o.op ≠ .defer c := fun c e => by rw [e] at hs; simp [simple] at hs
    exact ⟨c, a, Q, w', M', ρ', t, Nat.le_refl _, rfl, hS.turn t hi, hv, hpk, .one (step_value ho hw hd hr hn)⟩
  · obtain ⟨dst, op, ty, pos, aft, gd⟩ := o
    simp only at hs h
    have trefl : Tr (fun o => o = id ∨ s.nx ≤ o) Q w M ρ s.G Q w M ρ s.G := Tr.refl _ _ _ _ _ _
    unfold opA at h
    cases op with
    | panic x =>
      simp only at h
      split at h
      · rename_i t v hx
        cases h
        have hv := hS.tmps.ev x
        rw [hx] at hv
        have hv := hv.imm_inv
        have hcv : ∃ cv, evV a.tmps x = .iface t cv := by
          generalize evV a.tmps x = z at hv
          cases hv; exact ⟨_, rfl⟩
        obtain ⟨cv, hcv⟩ := hcv
        refine ⟨_, a, _, Q, w, M, ρ, trefl, Nat.le_refl _, hS, hv, hpk, .one (step_panic ho hw (by simp) ?_)⟩
        simp [execOp, hcv, Instr.panic, goPanic]
      · cases h
    | defer c =>
      simp only at h
      split at h
      · cases h
      · rename_i f hcal hnr
        split at h
        rotate_left
        · cases h
        rename_i fc hfn
        cases h
        have hro : b.roundOf = none := by
          cases e : s.pk with
          | no => rw [e] at hpk; exact hpk.2
          | rnd => exact absurd e hnr
          | dfr m r => rw [e] at hpk; cases m with
            | none => exact hpk.2.1
            | some v => exact hpk.2.1
        obtain ⟨fk, cap⟩ := fc
        obtain ⟨cv, hcv, _⟩ := fnOf_ok hfn (hS.tmps.ev f)
        have hex : (execOp (evV a.tmps) ⟨dst, .defer c, ty, pos, aft, gd⟩).run C.P w = .ok (.defer { target := .fn fk cv, args := c.args.map (evV a.tmps) }) w := by
          simp [execOp, resolve, hcal, hcv, Deferred.ofValue]
        refine ⟨Go.undef, { a with defers := { target := .fn fk cv, args := c.args.map (evV a.tmps) } :: a.defers }, Q, w, M, ρ, trefl, Nat.le_refl _, rfl, ⟨hS.inv, hS.tmps, hS.size, hS.sub, ?_⟩, .undef _, hpk, .one (step_deferOp hro ho hw hex)⟩
        exact .cons fk cv rfl (by rw [← hcv]; exact hS.tmps.ev f) (vl_ok hS.tmps c.args) hS.dfr
      · cases h
    | call c =>
      obtain ⟨callee, args, ats⟩ := c
      cases callee with
      | builtin bb =>
        have hbb : bb = .recover := by cases bb <;> simp [simple] at hs <;> rfl
        subst hbb
        have hex : (execOp (evV a.tmps) ⟨dst, .call ⟨.builtin .recover, args, ats⟩, ty, pos, aft, gd⟩).run C.P w = .ok .recover w := by
          simp [execOp, resolve, invoke, builtin]
        simp only at h
        unfold aBuiltin at h
        simp only at h
        split at h
        · rename_i v hp
          cases h
          rw [hp] at hpk
          obtain ⟨h1, h2, c, rest', x, rfl, h4, h5⟩ := hpk
          refine ⟨x, a, Q, w, M, ρ, trefl, Nat.le_refl _, rfl, ⟨hS.inv, hS.tmps, hS.size, hS.sub, hS.dfr⟩, .imm _ _ h5, ⟨h1, h2, c, rest', x, rfl, h4, h5⟩, .one ?_⟩
          have hst := step_recoverOp (P := C.P) (w := w) (cr := rest') (k := k) (rest := rest) h2 h1 h4 ho hw (by simp) hex
          have e1 : csM s.pk (c :: rest') = c :: rest' := by rw [hp]; rfl
          have e2 : csM (.dfr (some v) true) (c :: rest') = { c with mode := .panicking [{ v := x, recovered := true }] } :: rest' := by simp [csM, h4]
          rw [e1, e2]
          exact hst
        · rename_i r hp
          cases h
          have hpk0 := hpk
          rw [hp] at hpk
          obtain ⟨h1, h2, c, rest', rfl, h4⟩ := hpk
          refine ⟨.nilIface, a, Q, w, M, ρ, trefl, Nat.le_refl _, rfl, ⟨hS.inv, hS.tmps, hS.size, hS.sub, hS.dfr⟩, .imm _ _ .niliface, hpk0, .one ?_⟩
          have e1 : csM s.pk (c :: rest') = c :: rest' := by rw [hp]; rfl
          rw [e1]
          exact step_recoverNil h2 h1 h4 ho hw (by simp) hex
        · cases h
      | value f =>
        simp only at h
        have hvs := vl_ok hS.tmps args
        obtain ⟨fn, cap, hgc, m, hres, hinv⟩ := aCall_ok hC hL hR (c := b.atR a (.inRegion ops (i :: rest) :: k)) (cs := csM s.pk cs) h hS.inv hid hlt (hS.tmps.ev f) hvs
        have hex : ∀ nxt, (invoke (.fn fn cap) (args.map (evV a.tmps))).run C.P w = .ok nxt w → (execOp (evV a.tmps) ⟨dst, .call ⟨.value f, args, ats⟩, ty, pos, aft, gd⟩).run C.P w = .ok nxt w := by
          intro nxt hn
          simp [execOp, resolve, hgc, Deferred.ofValue, hn]
        refine opRes_of_call ho hS hpk ?_ hres
        rcases hinv with ⟨f', args', h1, rfl⟩ | ⟨l, f', tmps, x, y, h1, rfl⟩
        · exact step_enter ho hw (by simp) (hex _ h1)
        · exact step_round ho hw (by simp) (hex _ h1)
      | _ => simp at h
    | _ => simp [simple] at hs
end

end Go.Abs
