/- The abstract interpreter: functions. -/
import Derived.Test.YtpkmljhdaijanaaAbsCode
namespace Go.Abs

variable {M M' M'' : Mem} {ρ ρ' ρ'' : Ref} {G G' G'' : Nat → Obj} {w w' w'' : World} {nx nx' : Nat} {Q Q' Q'' Q0 : Nat → Prop} {P : Program} {C : Cfg} {L : Low}
variable {nt fid lf : Nat} {b : Frame} {cs : List Frame} {k : List Item} {ops : Array Oper} {i : Nat} {rest : List Nat} {o : Oper} {id : Nat} {s s' : St} {a : Act}

theorem results_ok {fn : Func} {v : AV} {arr : Array Value} (h : resultsA C s fn.results.toList = some v) (hI : Inv Q w M ρ s.G s.nx) (hT : TR M ρ s.G s.tmps arr) : ∃ cv, (results fn arr).run C.P w = .ok cv w ∧ VA M ρ s.G v cv := by
  have key : ∀ l, resultsL C s fn.results.toList = some l → ∃ vs : Array Value, (results fn arr).run C.P w = .ok (if h : vs.size = 1 then vs[0] else .tuple vs) w ∧ VL (VA M ρ s.G) l vs := by
    intro l hl
    unfold results
    rw [Array.mapM_eq_mapM_toList]
    generalize hf : (fun x : ResultVar => _) = f
    obtain ⟨vs, h1, h2⟩ := resultsL_ok (w := w) (f := f) (by subst hf; intro t; rfl) (by subst hf; intro a t; rfl) _ l hl hI hT
    refine ⟨vs.toArray, ?_, h2⟩
    simp only [Sem.run_bind, map_eq_pure_bind, h1, Result.andThen_ok, Sem.run_pure]
  unfold resultsA at h
  split at h
  · rename_i v' hv
    cases h
    obtain ⟨vs, h1, h2⟩ := key _ hv
    have hs : vs.size = 1 := by have := h2.1; simpa using this.symm
    refine ⟨vs[0], ?_, ?_⟩
    · rw [h1, dif_pos hs]
    · have := h2.2 0 v rfl
      simpa [at_, Array.getD_eq_getD_getElem?, hs] using this
  · rename_i l hne hl
    cases h
    obtain ⟨vs, h1, h2⟩ := key _ hl
    have hs : vs.size ≠ 1 := fun e => by
      have := h2.1
      rw [e] at this
      match l, this with
      | [x], _ => exact hne x rfl
    exact ⟨.tuple vs, by rw [h1, dif_neg hs], VA_mkTup h2⟩
  · cases h

theorem Tr.trans0 {N : Nat → Prop} (h : Tr N Q w M ρ G Q' w' M' ρ' G') (k : Tr N Q w' M' ρ' G' Q'' w'' M'' ρ'' G'') : Tr N Q w M ρ G Q'' w'' M'' ρ'' G'' :=
  ⟨k.sub, h.ev.trans k.ev, h.ws.trans k.ws, h.mq.trans k.mq, fun o ho hr => k.born o ho (h.born o ho hr)⟩

theorem DR.put {r : Nat} {x : Go.Obj} {ds : List (AV × List AV)} {dcs : List Deferred} (h : DR Q0 Q w M ρ G ds dcs) (hn : ∀ x ∈ dcs, x.target ≠ .collected r) : DR Q0 Q (w.putObj r x) M ρ G ds dcs := by
  induction h with
  | nil => exact .nil
  | cons f cap ht hg ha h ih => exact .cons f cap ht hg ha (ih fun x hx => hn x (by simp [hx]))
  | mark r' ht q0 q hm hr hn' h ih =>
    have : r' ≠ r := fun e => hn _ (List.Mem.head _) (by rw [ht, e])
    exact .mark r' ht q0 q hm ((World.putObj_heap_other this).trans hr) hn' (ih fun x hx => hn x (by simp [hx]))

/-- How a frame that leaves stands. -/
def ModeOK (M : Mem) (fr : Frame) : Option IV → Prop
  | none => fr.mode = .returning
  | some v => ∃ x, fr.mode = .panicking [{ v := x, recovered := false }] ∧ VI M v x

theorem ModeOK.ne {fr : Frame} {m : Option IV} (h : ModeOK M fr m) : fr.mode ≠ .run := by
  cases m with
  | none => rw [show fr.mode = .returning from h]; simp
  | some v => obtain ⟨x, h, _⟩ := h; rw [h]; simp

theorem ModeOK.mono {fr fr' : Frame} {m : Option IV} (h : ModeOK M fr m) (hm : M.le M') (hf : fr'.mode = fr.mode) : ModeOK M' fr' m := by
  cases m with
  | none => exact hf.trans h
  | some v => obtain ⟨x, h, hv⟩ := h; exact ⟨x, hf.trans h, hv.mono hm⟩

def Left (C : Cfg) (N Q0 : Nat → Prop) (w : World) (M : Mem) (ρ : Ref) (G : Nat → Obj) (nx : Nat) (fr : Frame) (cs : List Frame) (res : CR) : Prop :=
  ∃ Q' w' M' ρ' fr', Tr N Q0 w M ρ G Q' w' M' ρ' res.mem ∧ Inv Q' w' M' ρ' res.mem res.lim ∧ nx ≤ res.lim ∧ Steps C.P (lone fr cs w) (lone fr' cs w') ∧ fr'.defers = [] ∧ fr'.kind = fr.kind ∧ fr'.fn = fr.fn ∧
    match res with
    | .ret v G' _ => ∃ cv fn, fr'.mode = .returning ∧ C.P.funcs[fr.fn]? = some fn ∧ (results fn fr'.tmps).run C.P w' = .ok cv w' ∧ VA M' ρ' G' v cv
    | .pan v _ _ => ∃ x, fr'.mode = .panicking [{ v := x, recovered := false }] ∧ VI M' v x

theorem leave_ok (hC : CfgOK C) (hL : CallOK C.P L) {rs : List ResultVar} {N : Nat → Prop} : ∀ (dcs : List Deferred) (ds : List (AV × List AV)) (m : Option IV) (s : St) (Q : Nat → Prop) (w : World) (M : Mem) (ρ : Ref) (fr : Frame) (cs : List Frame) (fn : Func) (res : CR) (pk' : Pk),
    leaveA C L rs ds m s = some (res, pk') → fr.defers = dcs → DR Q0 Q w M ρ s.G ds dcs → Inv Q w M ρ s.G s.nx → (∀ b, Q b → Q0 b) → TR M ρ s.G s.tmps fr.tmps → ModeOK M fr m → C.P.funcs[fr.fn]? = some fn → (m = none → fn.results.toList = rs) → (∀ v, m = some v → fn.results.toList = rs ∨ ds = []) →
    (∀ o, s.nx ≤ o → N o) → pk' = s.pk ∧ Left C N Q0 w M ρ s.G s.nx fr cs res := by
  intro dcs
  induction dcs with
  | nil =>
    intro ds m s Q w M ρ fr cs fn res pk' h hd hD hI hsub hT hm hf hrs hrs' hN
    cases hD
    cases m with
    | none =>
      simp only [leaveA] at h
      split at h
      · rename_i v hv
        cases h
        rw [← hrs rfl] at hv
        obtain ⟨cv, h1, h2⟩ := results_ok (w := w) hv hI hT
        exact ⟨rfl, Q, w, M, ρ, fr, ⟨hsub, Ev.refl _ _ _, WS.refl _ _, MQ.refl _ _, fun _ _ h => h⟩, hI, Nat.le_refl _, Steps.refl _ _, hd, rfl, rfl, cv, fn, hm, hf, h1, h2⟩
      · cases h
    | some v =>
      cases h
      obtain ⟨x, h1, h2⟩ := hm
      exact ⟨rfl, Q, w, M, ρ, fr, ⟨hsub, Ev.refl _ _ _, WS.refl _ _, MQ.refl _ _, fun _ _ h => h⟩, hI, Nat.le_refl _, Steps.refl _ _, hd, rfl, rfl, x, h1, h2⟩
  | cons d dcs ih =>
    intro ds m s Q w M ρ fr cs fn res pk' h hd hD hI hsub hT hm hf hrs hrs' hN
    cases hD with
    | mark r ht q0 q hMr hr hn hD' =>
      have hst := step_collected (cs := cs) (P := C.P) hm.ne hd ht (run_takeDeferred hr)
      have hlt := (Array.getElem?_eq_some_iff.1 hr).1
      have hsz : w.heap.size ≤ (w.putObj r (.deferred none)).heap.size := by simp [World.putObj]
      have hI' : Inv Q (w.putObj r (.deferred none)) M ρ s.G s.nx := hI.turn (fun b => by
        by_cases e : b = r
        · exact .inr ⟨e ▸ q, e ▸ hMr⟩
        · exact .inl (World.putObj_heap_other e)) hsz
      have t0 : Tr N Q0 w M ρ s.G Q0 (w.putObj r (.deferred none)) M ρ s.G :=
        ⟨fun _ h => h, Ev.refl _ _ _, ⟨rfl, rfl, rfl, hsz, fun b hb => World.putObj_heap_other fun e => hb (e ▸ q0)⟩, MQ.refl _ _, fun _ _ h => h⟩
      obtain ⟨hp, Q', w', M', ρ', fr', t, i', n', st, h1, h2, h3, h4⟩ := ih ds m s Q (w.putObj r (.deferred none)) M ρ { fr with defers := [] ++ dcs } cs fn res pk' h rfl (hD'.put hn) hI' hsub hT (hm.mono (Mem.le_refl M) rfl) hf hrs hrs' hN
      exact ⟨hp, Q', w', M', ρ', fr', t0.trans0 t, i', n', .head hst st, h1, h2, h3, h4⟩
    | cons f cap ht hg ha hD' =>
      rename_i g as ds
      simp only [leaveA] at h
      split at h
      · rename_i kf cap' hfn
        obtain ⟨cv, hcv, hcap⟩ := fnOf_ok hfn hg
        simp only [Value.func.injEq] at hcv
        obtain ⟨rfl, -, rfl⟩ := hcv
        split at h
        · rename_i v2 G2 n2 m2 recd hcall
          obtain ⟨hP, hcontract⟩ := hL _ _ _ _ _ _ _ hcall
          have hinv : (invoke d.target d.args).run C.P w = .ok (.enter kf (d.args ++ cap)) w := by rw [ht]; simp [invoke, run_callFunc hC hP]
          have hst := step_defer (cs := cs) hm.ne hd ht hinv
          have hpk0 : PkOK M (Frame.enter C.P kf (d.args ++ cap) .deferred) ({ fr with defers := dcs } :: cs) (.dfr m false) := by
            cases m with
            | none => exact ⟨rfl, rfl, _, _, rfl, hm⟩
            | some v => obtain ⟨x, h1, h2⟩ := hm; exact ⟨rfl, rfl, _, _, x, rfl, h1, h2⟩
          obtain ⟨Q2, w2, M2, ρ2, t2, i2, le2, pk2, e2⟩ := hcontract Q w M ρ (d.args ++ cap) .deferred ({ fr with defers := dcs } :: cs) hI (VL_append ha hcap) hpk0
          obtain ⟨fr2, cv2, fn2, st2, hm2, hd2, hk2, hfn2, hf2, hr2, hv2⟩ := e2
          have hcs0 : csM (.dfr m false) ({ fr with defers := dcs } :: cs) = { fr with defers := dcs } :: cs := by cases m <;> rfl
          rw [hcs0] at st2
          have key : ∀ (c' : Frame), csM (.dfr m2 recd) ({ fr with defers := dcs } :: cs) = c' :: cs → step C.P (lone fr2 (csM (.dfr m2 recd) ({ fr with defers := dcs } :: cs)) w2) = .next (lone { c' with mode := settle c'.mode } cs w2) := by
            intro c' hc'
            rw [hc']
            exact step_going_returned hk2 ⟨hm2, hd2, fn2, by rw [hfn2]; exact hf2, hr2⟩
          have hmode : ∃ c' : Frame, csM (.dfr m2 recd) ({ fr with defers := dcs } :: cs) = c' :: cs ∧ c'.fn = fr.fn ∧ c'.kind = fr.kind ∧ c'.tmps = fr.tmps ∧ c'.defers = dcs ∧ ModeOK M2 { c' with mode := settle c'.mode } (if recd then none else m) := by
            cases m with
            | none =>
              have hm : fr.mode = .returning := hm
              cases m2 with
              | some v' => obtain ⟨_, _, c, rest, x, e, h4, _⟩ := pk2; cases e; rw [show ({ fr with defers := dcs } : Frame).mode = fr.mode from rfl, hm] at h4; cases h4
              | none =>
                refine ⟨{ fr with defers := dcs }, rfl, rfl, rfl, rfl, rfl, ?_⟩
                cases recd <;> (show settle fr.mode = .returning; rw [hm]; rfl)
            | some v =>
              obtain ⟨x, hmx, hvx⟩ := hm
              cases m2 with
              | none => obtain ⟨_, _, c, rest, e, h4⟩ := pk2; cases e; rw [show ({ fr with defers := dcs } : Frame).mode = fr.mode from rfl, hmx] at h4; cases h4
              | some v' =>
                cases recd with
                | false =>
                  refine ⟨{ fr with defers := dcs }, rfl, rfl, rfl, rfl, rfl, x, ?_, hvx.mono t2.ev.mem⟩
                  show settle fr.mode = _
                  rw [hmx]; rfl
                | true =>
                  refine ⟨{ fr with defers := dcs, mode := .panicking [{ v := x, recovered := true }] }, ?_, rfl, rfl, rfl, rfl, rfl⟩
                  simp [csM, hmx]
          obtain ⟨c', hc', hcf, hck, hct, hcd, hcm⟩ := hmode
          have hD2 := hD'.mono t2
          have hT2 : TR M2 ρ2 G2 s.tmps ({ c' with mode := settle c'.mode } : Frame).tmps := by show TR M2 ρ2 G2 s.tmps c'.tmps; rw [hct]; exact hT.mono t2.ev
          have hrs2 : fn.results.toList = rs := by
            cases m with
            | none => exact hrs rfl
            | some v => rcases hrs' v rfl with h | h
                        · exact h
                        · cases h
          obtain ⟨hp, Q', w', M', ρ', fr', t, i', n', st, h1, h2, h3, h4⟩ := ih ds (if recd then none else m) { s with G := G2, nx := n2 } Q2 w2 M2 ρ2 { c' with mode := settle c'.mode } cs fn res pk' h hcd hD2 i2 (fun b hb => hsub b (t2.sub b hb)) hT2 hcm (by show C.P.funcs[c'.fn]? = _; rw [hcf]; exact hf) (fun _ => hrs2) (fun _ _ => .inl hrs2) (fun o ho => hN o (Nat.le_trans le2 ho))
          have t2' : Tr N Q0 w M ρ s.G Q0 w2 M2 ρ2 G2 := ⟨fun _ h => h, t2.ev, t2.ws.sub hsub, t2.mq.sub hsub, fun o ho e => t2.born o (fun hh => ho (hN o hh)) e⟩
          refine ⟨hp, Q', w', M', ρ', fr', t2'.trans0 t, i', Nat.le_trans le2 n', .head hst (st2.trans (.head (key c' hc') st)), h1, h2.trans hck, h3.trans hcf, ?_⟩
          cases res with
          | ret v G' n => obtain ⟨cv, fn', g1, g2, g3, g4⟩ := h4; exact ⟨cv, fn', g1, by rw [← hcf]; exact g2, g3, g4⟩
          | pan v G' n => exact h4
        · cases h
      · cases h

theorem PkOK.frame {b b' : Frame} {pk : Pk} (h : PkOK M b cs pk) (hk : b'.kind = b.kind) (hr : b'.roundOf = b.roundOf) : PkOK M b' cs pk := by
  cases pk with
  | no => exact ⟨hk.trans h.1, hr.trans h.2⟩
  | rnd => exact ⟨hk.trans h.1, fun e => h.2 (hr.symm.trans e)⟩
  | dfr m r => cases m with
    | none => exact ⟨hk.trans h.1, hr.trans h.2.1, h.2.2⟩
    | some v => exact ⟨hk.trans h.1, hr.trans h.2.1, h.2.2⟩

theorem PkOK.rnd_of {b : Frame} {pk : Pk} (h : PkOK M b cs pk) (hr : b.roundOf ≠ none) : pk = .rnd := by
  cases pk with
  | no => exact absurd h.2 hr
  | rnd => rfl
  | dfr m r => cases m with
    | none => exact absurd h.2.1 hr
    | some v => exact absurd h.2.1 hr

theorem TR_init {args : List AV} {vs : Array Value} {n : Nat} (h : VL (VA M ρ G) args vs) : TR M ρ G (initT args) (vs ++ Array.replicate (n - vs.size) undef) := by
  intro t
  unfold initT
  cases e : args[t]? with
  | some x =>
    have := h.2 t x e
    have hlt : t < vs.size := by rw [← h.1]; exact (List.getElem?_eq_some_iff.1 e).1
    simpa [at_, Array.getD_eq_getD_getElem?, Array.getElem?_append, hlt] using this
  | none =>
    have hge : ¬ t < vs.size := by rw [← h.1]; intro hh; rw [List.getElem?_eq_getElem hh] at e; cases e
    have : (vs ++ Array.replicate (n - vs.size) undef).getD t Go.undef = .tuple #[] := by
      rw [Array.getD_eq_getD_getElem?, Array.getElem?_append, if_neg hge, Array.getElem?_replicate]
      split <;> rfl
    rw [this]
    exact .imm _ _ (.tup [] #[] rfl fun i x hx => by simp at hx)

theorem CallEnd.of_left {N : Nat → Prop} {m : Machine} {pk' : Pk} {kind : CallKind} {f : FuncId} {fr : Frame} {res : CR} (hs : Steps C.P m (lone fr (csM pk' cs) w)) (hk : fr.kind = kind) (hf : fr.fn = f) (hfn : ∃ fn, C.P.funcs[f]? = some fn) (h : Left C N Q0 w M ρ G nx fr (csM pk' cs) res) :
    ∃ Q' w' M' ρ', Tr N Q0 w M ρ G Q' w' M' ρ' res.mem ∧ Inv Q' w' M' ρ' res.mem res.lim ∧ nx ≤ res.lim ∧ CallEnd C.P m pk' kind cs f w' M' ρ' res := by
  obtain ⟨Q', w', M', ρ', fr', t, i, n, st, h1, h2, h3, h4⟩ := h
  refine ⟨Q', w', M', ρ', t, i, n, ?_⟩
  cases res with
  | ret v G' _ => obtain ⟨cv, fn, g1, g2, g3, g4⟩ := h4; exact ⟨fr', cv, fn, hs.trans st, g1, h1, h2.trans hk, h3.trans hf, hf ▸ g2, g3, g4⟩
  | pan v G' _ => obtain ⟨x, g1, g2⟩ := h4; obtain ⟨fn, hfn⟩ := hfn; exact ⟨fr', x, fn, hs.trans st, g1, h1, h2.trans hk, h3.trans hf, hfn, g2⟩

theorem callF_ok (hC : CfgOK C) (hL : CallOK C.P L) (hR : RoundOK C.P L) {f : FuncId} {args : List AV} {pk pk' : Pk} {res : CR} (h : callF C L lf f args pk G nx = some (res, pk')) : PInv C.P f ∧
    ∀ Q w M ρ vs kind cs, Inv Q w M ρ G nx → VL (VA M ρ G) args vs → PkOK M (Frame.enter C.P f vs kind) cs pk → ∃ Q' w' M' ρ', Tr (nx ≤ ·) Q w M ρ G Q' w' M' ρ' res.mem ∧ Inv Q' w' M' ρ' res.mem res.lim ∧ nx ≤ res.lim ∧
      PkOK M' (Frame.enter C.P f vs kind) cs pk' ∧ CallEnd C.P (lone (Frame.enter C.P f vs kind) (csM pk cs) w) pk' kind cs f w' M' ρ' res := by
  unfold callF at h
  split at h
  rotate_left
  · cases h
  rename_i fn hfn
  have hfn : C.P.funcs[f]? = some fn := hfn
  split at h
  rotate_left
  · cases h
  rename_i body hbody
  split at h
  rotate_left
  · cases h
  rename_i hargs
  refine ⟨⟨fn, hfn, by simp [hbody]⟩, fun Q w M ρ vs kind cs hI hv hpk => ?_⟩
  let b : Frame := { (default : Frame) with fn := f, kind := kind, roundOf := none }
  let a0 : Act := { tmps := vs ++ Array.replicate (fn.ntmps - vs.size) undef, defers := [] }
  have henter : Frame.enter C.P f vs kind = b.atR a0 [.code body] := by simp [Frame.enter, Frame.atR, hfn, hbody, b, a0]
  have hS : SR fn.ntmps Q Q w M ρ ⟨initT args, G, nx, [], pk⟩ a0 :=
    ⟨hI, TR_init hv, by have := hv.1; simp [a0]; omega, fun _ h => h, .nil⟩
  have hpkb : PkOK M b cs pk := hpk.frame rfl rfl
  have hcode : ∀ out, code C L lf f fn.ntmps body ⟨initT args, G, nx, [], pk⟩ = some out → CodeEnd C.P fn.ntmps b cs [] Q (nx ≤ ·) Q w M ρ G nx (lone (Frame.enter C.P f vs kind) (csM pk cs) w) out := fun out ho => by
    rw [henter]
    exact code_ok hC hL hR (b := b) rfl body _ out ho Q w M ρ a0 [] hS hpkb
  have fin : ∀ (s1 : St) (m : Option IV) (a1 : Act) (Q1 : Nat → Prop) (w1 : World) (M1 : Mem) (ρ1 : Ref) (fr : Frame), leaveA C L fn.results.toList s1.defers m s1 = some (res, pk') → Goes fn.ntmps b cs Q (nx ≤ ·) Q w M ρ G nx s1 a1 Q1 w1 M1 ρ1 →
      Steps C.P (lone (Frame.enter C.P f vs kind) (csM pk cs) w) (lone fr (csM s1.pk cs) w1) → fr.defers = a1.defers → fr.tmps = a1.tmps → fr.fn = f → fr.kind = kind → ModeOK M1 fr m →
      ∃ Q' w' M' ρ', Tr (nx ≤ ·) Q w M ρ G Q' w' M' ρ' res.mem ∧ Inv Q' w' M' ρ' res.mem res.lim ∧ nx ≤ res.lim ∧ PkOK M' (Frame.enter C.P f vs kind) cs pk' ∧ CallEnd C.P (lone (Frame.enter C.P f vs kind) (csM pk cs) w) pk' kind cs f w' M' ρ' res := by
    intro s1 m a1 Q1 w1 M1 ρ1 fr hl g st hd ht hff hk hm
    obtain ⟨rfl, hleft⟩ := leave_ok (Q0 := Q) (N := fun o => nx ≤ o) hC hL a1.defers s1.defers m s1 Q1 w1 M1 ρ1 fr (csM s1.pk cs) fn res pk' hl hd g.sr.dfr g.sr.inv g.sr.sub (by rw [ht]; exact g.sr.tmps) hm (by rw [hff]; exact hfn) (fun _ => rfl) (fun _ _ => .inl rfl) (fun o ho => Nat.le_trans g.nx ho)
    obtain ⟨Q', w', M', ρ', t, i, n, e⟩ := CallEnd.of_left st hk hff ⟨fn, hfn⟩ hleft
    have t0 : Tr (fun o => nx ≤ o) Q w M ρ G Q w1 M1 ρ1 s1.G := ⟨fun _ h => h, g.tr.ev, g.tr.ws, g.tr.mq, g.tr.born⟩
    exact ⟨Q', w', M', ρ', t0.trans0 t, i, Nat.le_trans g.nx n, (g.pk.mono t.ev.mem).frame rfl rfl, e⟩
  split at h
  · rename_i s1 h1
    obtain ⟨a1, Q1, w1, M1, ρ1, g, st⟩ := hcode _ h1
    exact fin s1 none a1 Q1 w1 M1 ρ1 _ h g (st.trans (.one (stepR_end rfl))) rfl rfl rfl rfl rfl
  · rename_i s1 h1
    obtain ⟨a1, Q1, w1, M1, ρ1, todo, g, st⟩ := hcode _ h1
    exact fin s1 none a1 Q1 w1 M1 ρ1 _ h g (st.trans (.one (stepR_ret rfl))) rfl rfl rfl rfl rfl
  · rename_i v s1 h1
    obtain ⟨a1, Q1, w1, M1, ρ1, todo, x, g, hx, st⟩ := hcode _ h1
    exact fin s1 (some v) a1 Q1 w1 M1 ρ1 _ h g st rfl rfl rfl rfl ⟨x, rfl, hx⟩
  · cases h

/-! ### rounds -/
theorem bind_ok : ∀ (ps : List (Nat × AV)) (qs : List (Nat × Value)) (tmps : Nat → AV) (arr : Array Value), Parts M ρ G ps qs → (∀ p ∈ ps, p.1 < nt) → TR M ρ G tmps arr → arr.size = nt →
    TR M ρ G (bindT tmps ps) (qs.foldl (fun arr (t, a) => arr.setIfInBounds t a) arr) ∧ (qs.foldl (fun arr (t, a) => arr.setIfInBounds t a) arr).size = nt
  | [], [], tmps, arr, _, _, hT, hs => ⟨hT, hs⟩
  | [], q :: qs, _, _, hp, _, _, _ => by simp [Parts] at hp
  | p :: ps, [], _, _, hp, _, _, _ => by simp [Parts] at hp
  | (t, v) :: ps, (t', c) :: qs, tmps, arr, hp, hlt, hT, hs => by
    obtain ⟨h1, h2⟩ := hp.2 0 _ _ rfl rfl
    simp only at h1 h2
    subst h1
    refine bind_ok ps qs (upd tmps t v) (arr.setIfInBounds t c) hp.tail (fun p hp => hlt p (by simp [hp])) (fun u => ?_) (by simpa using hs)
    have hlt' : t < arr.size := by rw [hs]; exact hlt (t, v) (by simp)
    by_cases hu : u = t
    · subst hu
      simp [upd, Array.getD_eq_getD_getElem?, hlt']
      exact h2
    · simp only [upd, if_neg hu]
      have := hT u
      rw [Array.getD_eq_getD_getElem?] at this ⊢
      rw [Array.getElem?_setIfInBounds_ne (Ne.symm hu)]
      exact this

theorem lp_put {t : Nat → AV} {n : Nat} {p : List Nat} {x y : Code} {f : FuncId} {st st' : Nat} {pe pe' : Option Code} {q l : Nat} {r r' : Loop} (hI : Inv Q w M ρ G nx) (hG : G q = .lp t n p x y f st pe) (hq : ρ q = some (.func (.yield l) #[] #[])) (hheap : w.heap[l]? = some (.loop r))
    (hL : LoopIs M ρ G t n p x y f st' pe' r') : Inv Q (w.putObj l (.loop r')) M ρ (upd G q (.lp t n p x y f st' pe')) nx ∧ ∀ N, Tr N Q w M ρ G Q (w.putObj l (.loop r')) M ρ (upd G q (.lp t n p x y f st' pe')) := by
  have hlt : q < nx := by
    rcases Nat.lt_or_ge q nx with h1 | h1
    · exact h1
    · rw [hI.free q h1] at hq; cases hq
  have hl : (G q).live = true := by rw [hG]; rfl
  have hf : (G q).frozen = false := by rw [hG]; rfl
  have hv : Ev M ρ G M (upd ρ q (some (.func (.yield l) #[] #[]))) (upd G q (.lp t n p x y f st' pe')) := Ev.same hq (fun _ _ _ _ e => by cases e)
  have hsz : w.heap.size ≤ (w.putObj l (.loop r')).heap.size := by simp [World.putObj]
  have hQ := (hI.own q _ l hl hf hq rfl).2
  have hlt2 : l < w.heap.size := (Array.getElem?_eq_some_iff.1 hheap).1
  have := hI.put (x := .lp t n p x y f st' pe') (r := .func (.yield l) #[] #[]) (w' := w.putObj l (.loop r')) hlt hv (fun b => by
    by_cases e : b = l
    · exact .inr (.inr ⟨hl, hf, _, hq, by rw [e]; rfl⟩)
    · exact .inl (World.putObj_heap_other e)) hsz (by
      unfold ObjOK
      simp only [upd, if_true]
      exact ⟨l, r', rfl, World.putObj_heap_same hlt2, { hL with tmps := fun u => (hL.tmps u).mono hv }⟩) (fun b hb => .inr ⟨hl, hf, _, hq, hb⟩)
  rw [upd_self hq] at this hv
  exact ⟨this, fun N => ⟨fun _ h => h, hv, ⟨rfl, rfl, rfl, hsz, fun b hb => World.putObj_heap_other fun e => hb (e ▸ hQ)⟩, MQ.refl _ _, fun _ _ h => h⟩⟩

theorem roundF_ok (hC : CfgOK C) (hL : CallOK C.P L) (hR : RoundOK C.P L) {q : Nat} {args : List AV} {pk' : Pk} {res : CR} (h : roundF C L lf q args G nx = some (res, pk')) :
    ∀ Q w M ρ vs l, Inv Q w M ρ G nx → VL (VA M ρ G) args vs → ρ q = some (.func (.yield l) #[] #[]) → ∃ f tmps x y, (Instr.yield l vs).run C.P w = .ok (.round l f tmps x y) w ∧
    ∀ c cs, ∃ Q' w' M' ρ', Tr (nx ≤ ·) Q w M ρ G Q' w' M' ρ' res.mem ∧ Inv Q' w' M' ρ' res.mem res.lim ∧ nx ≤ res.lim ∧
      RoundEnd C.P (lone (Frame.round l f tmps x y .normal) (c :: cs) w) c cs w' M' ρ' res := by
  intro Q w M ρ vs l hI hv hq
  unfold roundF at h
  split at h
  rotate_left
  · cases h
  rename_i tmps nt params assign body fid pe hG
  split at h
  rotate_left
  · cases h
  rename_i hps
  have hobj := hI.obj q
  unfold ObjOK at hobj
  rw [hG] at hobj
  obtain ⟨l', r, hq', hheap, hLI⟩ := hobj
  have hll : l' = l := by rw [hq] at hq'; simp only [Option.some.injEq, Value.func.injEq, Fn.yield.injEq] at hq'; exact hq'.1.symm
  subst hll
  have hsz : vs.size = r.params.size := by rw [← hv.1, ← hps.1, ← hLI.params]; simp
  refine ⟨_, _, _, _, run_yield hheap hsz, fun c cs => ?_⟩
  let b : Frame := { (default : Frame) with fn := r.fn, kind := .normal, roundOf := some l' }
  have hT0 := bind_ok (nt := nt) (params.zip args) ((r.params.zip vs).toList) tmps r.tmps ⟨by simp [← hLI.params, hv.1], fun k p q' hp hq' => by
      rw [Array.toList_zip, hLI.params] at hq'
      rw [List.getElem?_zip_eq_some] at hp hq'
      refine ⟨Option.some.inj (hp.1.symm.trans hq'.1), ?_⟩
      have h1 := hv.2 k _ hp.2
      have h2 := hq'.2
      rw [Array.getElem?_toList] at h2
      simpa [at_, Array.getD_eq_getD_getElem?, h2] using h1⟩
    (fun p hp => by
      have := List.all_eq_true.1 hps.2 p.1 (List.of_mem_zip (a := p.1) (b := p.2) hp).1
      simpa using this) hLI.tmps hLI.size
  rw [Array.foldl_toList] at hT0
  generalize hfold : ((r.params.zip vs).foldl (fun tmps x => match x with | (t, a) => tmps.setIfInBounds t a) r.tmps) = tm0 at hT0 ⊢
  let a0 : Act := { tmps := tm0, defers := [] }
  have hround : Frame.round l' r.fn tm0 r.assign r.body .normal = b.atR a0 [.code r.assign, .beginRound, .code r.body] := rfl
  rw [hround]
  have hS0 : SR nt Q Q w M ρ ⟨bindT tmps (params.zip args), G, nx, [], .rnd⟩ a0 := ⟨hI, hT0.1, hT0.2, fun _ h => h, .nil⟩
  have hpk0 : PkOK M b (c :: cs) .rnd := ⟨rfl, by simp [b]⟩
  split at h
  rotate_left
  · cases h
  rename_i s hassign
  have hA := code_ok hC hL hR (b := b) (Q0 := Q) (cs := c :: cs) (hLI.fn) assign _ _ hassign Q w M ρ a0 [.beginRound, .code r.body] hS0 hpk0
  rw [← hLI.assign] at hA
  obtain ⟨a1, Q1, w1, M1, ρ1, g1, st1⟩ := hA
  have hpk1 := g1.pk.rnd_of (by simp [b])
  rw [hpk1] at st1
  have hq1 : ρ1 q = some (.func (.yield l') #[] #[]) := by
    rcases g1.tr.ev.ref _ _ hq with h3 | ⟨⟨_, _, _, h3⟩, _⟩
    · exact h3
    · cases h3
  split at h
  rotate_left
  · cases h
  rename_i t2 n2 p2 x2 y2 f2 e2 hG2
  have hobj2 := g1.sr.inv.obj q
  unfold ObjOK at hobj2
  rw [hG2] at hobj2
  obtain ⟨l2, r2, hq2, hheap2, hLI2⟩ := hobj2
  have hll : l2 = l' := by rw [hq1] at hq2; simp only [Option.some.injEq, Value.func.injEq, Fn.yield.injEq] at hq2; exact hq2.1.symm
  subst hll
  have hready : r2.state = .ready := by
    rcases hLI2.state with ⟨_, h3⟩ | ⟨h3, _⟩ | ⟨h3, _⟩
    · exact h3
    · cases h3
    · cases h3
  obtain ⟨hI2, ht2⟩ := lp_put (st' := 1) (pe' := e2) (r' := { r2 with state := .busy }) g1.sr.inv hG2 hq1 hheap2 { hLI2 with state := .inr (.inl ⟨rfl, rfl⟩) }
  have hS2 := g1.sr.turn (ht2 (fun _ => False)) hI2
  have st2 := stepR_beginRound (P := C.P) (b := b) (a := a1) (k := [.code r.body]) (cs := c :: cs) rfl (run_beginRound hheap2 hready)
  have hpk2 : PkOK M1 b (c :: cs) s.pk := g1.pk
  have stA := st1.trans (.one st2)
  have tA : Tr (nx ≤ ·) Q w M ρ G Q1 (w1.putObj l2 (.loop { r2 with state := .busy })) M1 ρ1 (upd s.G q (.lp t2 n2 p2 x2 y2 f2 1 e2)) := g1.tr.trans (ht2 (fun _ => False)) (fun _ h => h) (fun _ h => h.elim)
  have hbodyOK : ∀ out, code C L lf fid nt body { s with G := upd s.G q (.lp t2 n2 p2 x2 y2 f2 1 e2) } = some out → CodeEnd C.P nt b (c :: cs) [] Q (nx ≤ ·) Q w M ρ G nx (lone (b.atR a0 [.code r.assign, .beginRound, .code r.body]) (c :: cs) w) out := by
    intro out ho
    have hB := code_ok hC hL hR (b := b) (Q0 := Q) (cs := c :: cs) (hLI.fn) body _ _ ho Q1 _ M1 ρ1 a1 [] hS2 hpk2
    rw [← hLI.body] at hB
    refine CodeEnd.after tA g1.nx stA ?_ (fun _ h => h) (fun o h => Nat.le_trans g1.nx h)
    have : csM s.pk (c :: cs) = c :: cs := by rw [hpk1]; rfl
    rw [this] at hB
    exact hB
  -- how a round ends that has not failed
  have fin : ∀ (s1 : St) (jump : Option Code) (st' : Nat) (a2 : Act) (Q2 : Nat → Prop) (w2 : World) (M2 : Mem) (ρ2 : Ref) (m : Machine) (t3 : Nat → AV) (n3 : Nat) (p3 : List Nat) (x3 y3 : Code) (f3 : FuncId) (e3 : Option Code),
      Goes nt b (c :: cs) Q (nx ≤ ·) Q w M ρ G nx s1 a2 Q2 w2 M2 ρ2 → s1.G q = .lp t3 n3 p3 x3 y3 f3 1 e3 → Steps C.P (lone (b.atR a0 [.code r.assign, .beginRound, .code r.body]) (c :: cs) w) m →
      (∀ v w', (Instr.endRound l2 jump).run C.P w2 = .ok v w' → step C.P m = .next (lone (c.finish v) cs w')) → ((jump = none ∧ st' = 0) ∨ (jump.isSome = true ∧ st' = 2)) →
      ∃ Q' w' M' ρ', Tr (nx ≤ ·) Q w M ρ G Q' w' M' ρ' (upd s1.G q (.lp t3 n3 p3 x3 y3 f3 st' jump)) ∧ Inv Q' w' M' ρ' (upd s1.G q (.lp t3 n3 p3 x3 y3 f3 st' jump)) s1.nx ∧ nx ≤ s1.nx ∧
        ∃ cv, Steps C.P (lone (b.atR a0 [.code r.assign, .beginRound, .code r.body]) (c :: cs) w) (lone (c.finish cv) cs w') ∧ VA M' ρ' (upd s1.G q (.lp t3 n3 p3 x3 y3 f3 st' jump)) (.imm (.bool jump.isNone)) cv := by
    intro s1 jump st' a2 Q2 w2 M2 ρ2 m t3 n3 p3 x3 y3 f3 e3 g hG3 st hstep hj
    have hq3 : ρ2 q = some (.func (.yield l2) #[] #[]) := by
      rcases g.tr.ev.ref _ _ hq with h3 | ⟨⟨_, _, _, h3⟩, _⟩
      · exact h3
      · cases h3
    have hobj3 := g.sr.inv.obj q
    unfold ObjOK at hobj3
    rw [hG3] at hobj3
    obtain ⟨l3, r3, hq3', hheap3, hLI3⟩ := hobj3
    have hll : l3 = l2 := by rw [hq3] at hq3'; simp only [Option.some.injEq, Value.func.injEq, Fn.yield.injEq] at hq3'; exact hq3'.1.symm
    subst hll
    have hrun := run_endRound (P := C.P) jump hheap3
    obtain ⟨hI3, ht3⟩ := lp_put (st' := st') (pe' := jump) (r' := { r3 with state := if jump.isNone then .ready else .done, pending := jump }) g.sr.inv hG3 hq3 hheap3 { hLI3 with
      pending := rfl
      state := by
        rcases hj with ⟨rfl, rfl⟩ | ⟨h1, rfl⟩
        · exact .inl ⟨rfl, rfl⟩
        · refine .inr (.inr ⟨rfl, ?_⟩)
          cases jump with
          | none => cases h1
          | some x => rfl }
    exact ⟨Q2, _, M2, ρ2, g.tr.trans (ht3 (fun _ => False)) (fun _ h => h) (fun _ h => h.elim), hI3, g.nx, _, st.trans (.one (hstep _ _ hrun)), .imm _ _ (.bool _)⟩
  have hcs : ∀ s1 : St, PkOK M b (c :: cs) s1.pk ∨ True → s1.pk = .rnd → csM s1.pk (c :: cs) = c :: cs := fun s1 _ e => by rw [e]; rfl
  split at h
  · rename_i s1 h1
    obtain ⟨a2, Q2, w2, M2, ρ2, g, st⟩ := hbodyOK _ h1
    rw [hcs s1 (.inr trivial) (g.pk.rnd_of (by simp [b]))] at st
    split at h
    · rename_i t3 n3 p3 x3 y3 f3 e3 hG3
      cases h
      exact fin s1 none 0 a2 Q2 w2 M2 ρ2 _ t3 n3 p3 x3 y3 f3 e3 g hG3 st (fun v w' hr => stepR_round_end rfl rfl hr) (.inl ⟨rfl, rfl⟩)
    · cases h
  · rename_i id s1 h1
    obtain ⟨a2, Q2, w2, M2, ρ2, todo, g, hx, st⟩ := hbodyOK _ h1
    rw [hcs s1 (.inr trivial) (g.pk.rnd_of (by simp [b]))] at st
    split at h
    · rename_i t3 n3 p3 x3 y3 f3 e3 hG3
      cases h
      exact fin s1 (some (.exit id)) 2 a2 Q2 w2 M2 ρ2 _ t3 n3 p3 x3 y3 f3 e3 g hG3 st (fun v w' hr => stepR_round_exit rfl rfl (by rw [hx]; rfl) hr) (.inr ⟨rfl, rfl⟩)
    · cases h
  · rename_i s1 h1
    obtain ⟨a2, Q2, w2, M2, ρ2, todo, g, st⟩ := hbodyOK _ h1
    rw [hcs s1 (.inr trivial) (g.pk.rnd_of (by simp [b]))] at st
    split at h
    · rename_i t3 n3 p3 x3 y3 f3 e3 hG3
      cases h
      exact fin s1 (some .ret) 2 a2 Q2 w2 M2 ρ2 _ t3 n3 p3 x3 y3 f3 e3 g hG3 st (fun v w' hr => stepR_round_ret rfl rfl hr) (.inr ⟨rfl, rfl⟩)
    · cases h
  · rename_i v s1 h1
    obtain ⟨a2, Q2, w2, M2, ρ2, todo, x, g, hx, st⟩ := hbodyOK _ h1
    rw [hcs s1 (.inr trivial) (g.pk.rnd_of (by simp [b]))] at st
    split at h
    · rename_i hd
      cases h
      simp only [Bool.and_eq_true, List.isEmpty_iff] at hd
      obtain ⟨fn, hfn⟩ := Option.isSome_iff_exists.1 hd.2
      have hfn : C.P.funcs[r.fn]? = some fn := by rw [hLI.fn]; exact hfn
      have hl : leaveA C L [] s1.defers (some v) s1 = some (.pan v s1.G s1.nx, s1.pk) := by rw [hd.1]; rfl
      obtain ⟨_, Q', w', M', ρ', fr', t, i, n, st', h2, h3, h4, x', h5, h6⟩ := leave_ok (Q0 := Q) (N := fun o => nx ≤ o) hC hL a2.defers s1.defers (some v) s1 Q2 w2 M2 ρ2 { b.atR a2 todo with mode := .panicking [{ v := x, recovered := false }] } (c :: cs) fn _ _ hl rfl g.sr.dfr g.sr.inv g.sr.sub g.sr.tmps
        ⟨x, rfl, hx⟩ hfn (fun e => by cases e) (fun _ _ => .inr hd.1) (fun o ho => Nat.le_trans g.nx ho)
      have t0 : Tr (fun o => nx ≤ o) Q w M ρ G Q w2 M2 ρ2 s1.G := ⟨fun _ h => h, g.tr.ev, g.tr.ws, g.tr.mq, g.tr.born⟩
      exact ⟨Q', w', M', ρ', t0.trans0 t, i, Nat.le_trans g.nx n, x', (st.trans st').trans (.one (step_leave_panicked ⟨h5, h2, fn, by rw [h4]; exact hfn⟩)), h6⟩
    · cases h
  · cases h

theorem low_ok (hC : CfgOK C) : ∀ n, CallOK C.P (low C n) ∧ RoundOK C.P (low C n)
  | 0 => ⟨(fun _ _ _ _ _ _ _ h => nomatch h), (fun _ _ _ _ _ _ h => nomatch h)⟩
  | n + 1 => ⟨fun _ _ _ _ _ _ _ h => callF_ok hC (low_ok hC n).1 (low_ok hC n).2 h, fun _ _ _ _ _ _ h => roundF_ok hC (low_ok hC n).1 (low_ok hC n).2 h⟩

/-- **A call with data alone does what is reckoned.** -/
theorem run_ok (hC : CfgOK C) {n : Nat} {f : FuncId} {ivs : List IV} {v : AV} (h : run C n f ivs = some (.ret v G nx)) {vs : Array Value} (hm : ∀ b o, M b = some o → w.heap[b]? = some o) (hv : VL (VI M) ivs vs) :
    Calls C.P f vs w fun e w' => ∃ cv Q' M' ρ', e = .returned cv ∧ WS (QN w) w w' ∧ M.le M' ∧ MQ (QN w) M M' ∧ Inv Q' w' M' ρ' G nx ∧ (∀ b, Q' b → w.heap.size ≤ b) ∧ VA M' ρ' G v cv := by
  unfold run at h
  simp only [Option.map_eq_some_iff] at h
  obtain ⟨⟨res, pk'⟩, hcall, hres⟩ := h
  simp only at hres
  subst hres
  intro cs
  obtain ⟨_, hk⟩ := (low_ok hC n).1 _ _ _ _ _ _ _ hcall
  obtain ⟨Q', w', M', ρ', t, i, -, p, fr, cv, fn, st, h1, h2, h3, h4, h5, h6, h7⟩ := hk (QN w) w M (fun _ => none) vs .normal cs (Inv.empty hm) (VL_imms hv) ⟨rfl, rfl⟩
  have hp : pk' = .no := p.no_of rfl rfl
  subst hp
  exact ⟨.returned cv, w', fr, ⟨cv, Q', M', ρ', rfl, t.ws, t.ev.mem, t.mq, i, t.sub, h7⟩, st, h4, h1, h2, h3, fn, by rw [h4]; exact h5, h6⟩

theorem WS.below (h : WS (QN w) w w') : Go.RowKit.Below w.heap.size w w' := ⟨h.os, h.tape, h.output, h.size, fun k hk => h.block k (by simp only [QN]; omega)⟩

/-- A row that answers a truth value. -/
theorem run_bool (hC : CfgOK C) {n : Nat} {f : FuncId} {ivs : List IV} {b : Bool} (h : run C n f ivs = some (.ret (.imm (.bool b)) G nx)) {vs : Array Value} (hm : ∀ b o, M b = some o → w.heap[b]? = some o) (hv : VL (VI M) ivs vs) :
    Calls C.P f vs w fun e w' => e = .returned (.bool b) ∧ Go.RowKit.Below w.heap.size w w' :=
  (run_ok hC h hm hv).mono fun e w' ⟨cv, Q', M', ρ', he, hws, _, _, _, _, hva⟩ => by
    have := hva.bool_inv
    subst this
    exact ⟨he, hws.below⟩

end Go.Abs
