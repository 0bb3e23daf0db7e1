/- The abstract interpreter: code. -/
import Derived.Test.YtpkmljhdaijanaaAbsDraw
import Derived.RangeFuncRecord
namespace Go.Abs

variable {M M' M'' : Mem} {ρ ρ' ρ'' : Ref} {G G' G'' : Nat → Obj} {w w' w'' : World} {nx nx' : Nat} {Q Q' Q'' Q0 : Nat → Prop} {P : Program} {C : Cfg} {L : Low}
variable {nt fid lf : Nat} {b : Frame} {cs : List Frame} {k : List Item} {ops : Array Oper} {i : Nat} {rest : List Nat} {o : Oper} {id : Nat} {s s' : St} {a : Act}

def CodeEnd (P : Program) (nt : Nat) (b : Frame) (cs : List Frame) (k : List Item) (Q0 N Q : Nat → Prop) (w : World) (M : Mem) (ρ : Ref) (G0 : Nat → Obj) (nx0 : Nat) (m : Machine) : Out → Prop
  | .norm s' => ∃ a' Q' w' M' ρ', Goes nt b cs Q0 N Q w M ρ G0 nx0 s' a' Q' w' M' ρ' ∧ Steps P m (lone (b.atR a' k) (csM s'.pk cs) w')
  | .exit id s' => ∃ a' Q' w' M' ρ' todo, Goes nt b cs Q0 N Q w M ρ G0 nx0 s' a' Q' w' M' ρ' ∧ exitTo id todo = exitTo id k ∧ Steps P m (lone (b.atR a' (.code (.exit id) :: todo)) (csM s'.pk cs) w')
  | .ret s' => ∃ a' Q' w' M' ρ' todo, Goes nt b cs Q0 N Q w M ρ G0 nx0 s' a' Q' w' M' ρ' ∧ Steps P m (lone (b.atR a' (.code .ret :: todo)) (csM s'.pk cs) w')
  | .pan v s' => ∃ a' Q' w' M' ρ' todo x, Goes nt b cs Q0 N Q w M ρ G0 nx0 s' a' Q' w' M' ρ' ∧ VI M' v x ∧ Steps P m (lone { b.atR a' todo with mode := .panicking [{ v := x, recovered := false }] } (csM s'.pk cs) w')

theorem CodeEnd.after {N N1 N2 : Nat → Prop} {G1 : Nat → Obj} {n0 n1 : Nat} {m m1 : Machine} {out : Out} (t : Tr N1 Q w M ρ G Q' w' M' ρ' G1) (hn : n0 ≤ n1) (hs : Steps P m m1) (h : CodeEnd P nt b cs k Q0 N2 Q' w' M' ρ' G1 n1 m1 out) (h1 : ∀ o, N1 o → N o) (h2 : ∀ o, N2 o → N o) :
    CodeEnd P nt b cs k Q0 N Q w M ρ G n0 m out := by
  cases out with
  | norm s' => obtain ⟨a', Q', w', M', ρ', g, st⟩ := h; exact ⟨a', Q', w', M', ρ', g.after t hn h1 h2, hs.trans st⟩
  | pan v s' => obtain ⟨a', Q', w', M', ρ', todo, x, g, hx, st⟩ := h; exact ⟨a', Q', w', M', ρ', todo, x, g.after t hn h1 h2, hx, hs.trans st⟩
  | exit id s' => obtain ⟨a', Q', w', M', ρ', todo, g, hx, st⟩ := h; exact ⟨a', Q', w', M', ρ', todo, g.after t hn h1 h2, hx, hs.trans st⟩
  | ret s' => obtain ⟨a', Q', w', M', ρ', todo, g, st⟩ := h; exact ⟨a', Q', w', M', ρ', todo, g.after t hn h1 h2, hs.trans st⟩

theorem CodeEnd.head {N : Nat → Prop} {n0 : Nat} {m m1 : Machine} {out : Out} (hs : step P m = .next m1) (h : CodeEnd P nt b cs k Q0 N Q w M ρ G n0 m1 out) : CodeEnd P nt b cs k Q0 N Q w M ρ G n0 m out :=
  h.after (Tr.refl N _ _ _ _ _) (Nat.le_refl _) (.one hs) (fun _ h => h) (fun _ h => h)

theorem CodeEnd.of_line {N : Nat → Prop} {n0 : Nat} {m : Machine} {out : Out} (h : LineEnd P nt b cs k Q0 N Q w M ρ G n0 m out) : CodeEnd P nt b cs k Q0 N Q w M ρ G n0 m out := by
  cases out with
  | norm s' => exact h
  | pan v s' => exact h
  | exit => exact h.elim
  | ret => exact h.elim

theorem CodeEnd.weak {N N' : Nat → Prop} {n0 : Nat} {m : Machine} {out : Out} (h : CodeEnd P nt b cs k Q0 N Q w M ρ G n0 m out) (hn : ∀ o, N o → N' o) : CodeEnd P nt b cs k Q0 N' Q w M ρ G n0 m out :=
  h.after (Tr.refl N _ _ _ _ _) (Nat.le_refl _) (Steps.refl _ _) hn hn

/-- The items ahead are left behind, but for what follows a normal end. -/
theorem CodeEnd.thru {N : Nat → Prop} {n0 : Nat} {m : Machine} {out : Out} {k' : List Item} (h : CodeEnd P nt b cs k' Q0 N Q w M ρ G n0 m out) (hn : ∀ s, out ≠ .norm s) (hk : ∀ id, (∃ s, out = .exit id s) → exitTo id k' = exitTo id k) :
    CodeEnd P nt b cs k Q0 N Q w M ρ G n0 m out := by
  cases out with
  | norm s' => exact absurd rfl (hn s')
  | pan v s' => exact h
  | exit id s' => obtain ⟨a', Q', w', M', ρ', todo, g, hx, st⟩ := h; exact ⟨a', Q', w', M', ρ', todo, g, hx.trans (hk id ⟨_, rfl⟩), st⟩
  | ret s' => exact h

theorem region_ok (hC : CfgOK C) (hL : CallOK C.P L) (hR : RoundOK C.P L) {draw : Bool} {out : Out} (h : regionA C L nt ops draw s = some out) (hS : SR nt Q0 Q w M ρ s a) (hpk : PkOK M b cs s.pk) :
    LineEnd C.P nt b cs k Q0 (s.nx ≤ ·) Q w M ρ s.G s.nx (lone (b.atR a (.code (.region id ops draw) :: k)) (csM s.pk cs) w) out := by
  cases draw with
  | true => exact drawn_ok hC hL hR h hS hpk
  | false =>
    unfold regionA at h
    simp only [Bool.false_eq_true, if_false] at h
    have hS' : SR nt Q0 Q w M ρ { s with nx := s.nx + ops.size } a := ⟨hS.inv.later (by simp), hS.tmps, hS.size, hS.sub, hS.dfr⟩
    have := runA_ok hC hL hR (k := k) (cs := cs) (b := b) _ h List.nodup_range (fun i hi => ⟨by simpa using hi, hS.inv.free _ (by omega)⟩) (Nat.le_refl _) hS' hpk
    exact LineEnd.after (Tr.refl (fun o => s.nx ≤ o) _ _ _ _ _) (by simp) (.one stepR_region) this (fun _ h => h) (fun _ h => h)

theorem upd_self {ρ : Ref} {q : Nat} {v : Value} (h : ρ q = some v) : upd ρ q (some v) = ρ := by
  funext o; by_cases e : o = q <;> simp [upd, e, h]

/-- An object is no more. -/
theorem Inv.drop (h : Inv Q w M ρ G nx) {q l : Nat} {v : Value} (hl : (G q).live = true) (hf : (G q).frozen = false) (hq : ρ q = some v) (hb : blk v = some l) (hw : ∀ b, b ≠ l → w'.heap[b]? = w.heap[b]?) (hsz : w.heap.size ≤ w'.heap.size) :
    Inv Q w' M ρ (upd G q .gone) nx ∧ Ev M ρ G M ρ (upd G q .gone) := by
  have hlt : q < nx := by
    rcases Nat.lt_or_ge q nx with h1 | h1
    · exact h1
    · rw [h.free q h1] at hq; cases hq
  have hv : Ev M ρ G M (upd ρ q (some v)) (upd G q .gone) := Ev.same hq (fun _ _ _ _ e => by cases e)
  have := h.put (x := .gone) (r := v) (w' := w') hlt hv (fun b => by
    by_cases e : b = l
    · exact .inr (.inr ⟨hl, hf, v, hq, by rw [e]; exact hb⟩)
    · exact .inl (hw b e)) hsz (by unfold ObjOK; simp [upd]) (fun b hb => .inr ⟨hl, hf, v, hq, hb⟩)
  rw [upd_self hq] at this hv
  exact ⟨this, hv⟩

theorem WS.two (h : ∀ b, w.heap.size ≤ b → Q b) (x y : Go.Obj) : WS Q w ((w.alloc x).alloc y) :=
  (WS.alloc h x).trans (WS.alloc (fun b hb => h b (by simp at hb; omega)) y)

theorem DR.lt {ds : List (AV × List AV)} {dcs : List Deferred} (h : DR Q0 Q w M ρ G ds dcs) : ∀ x ∈ dcs, ∀ r, x.target = .collected r → r < w.heap.size := by
  induction h with
  | nil => intro x hx; cases hx
  | cons f cap ht hg ha h ih =>
    intro x hx r e
    rcases List.mem_cons.1 hx with rfl | hx
    · rw [ht] at e; cases e
    · exact ih x hx r e
  | mark r' ht q0 q hm hr hn h ih =>
    intro x hx r e
    rcases List.mem_cons.1 hx with rfl | hx
    · rw [ht] at e; cases e; exact (Array.getElem?_eq_some_iff.1 hr).1
    · exact ih x hx r e

theorem rangeA_ok (hC : CfgOK C) (hL : CallOK C.P L) {f : Operand} {params : Array Tmp} {assign body : Code} {out : Out} (h : rangeA C L fid nt (ev s.tmps f) params.toList assign body s = some out) (hS : SR nt Q0 Q w M ρ s a)
    (hpk : PkOK M b cs s.pk) (hnr : s.pk ≠ .rnd) (hb : b.fn = fid) : CodeEnd C.P nt b cs k Q0 (s.nx ≤ ·) Q w M ρ s.G s.nx (lone (b.atR a (.code (.rangeFunc f params assign body) :: k)) (csM s.pk cs) w) out := by
  have hro : b.roundOf = none := by
    cases e : s.pk with
    | no => rw [e] at hpk; exact hpk.2
    | rnd => exact absurd e hnr
    | dfr m r => rw [e] at hpk; cases m with
      | none => exact hpk.2.1
      | some v => exact hpk.2.1
  unfold rangeA at h
  split at h
  · rename_i kf cap hfn
    obtain ⟨cv, hcv, hcap⟩ := fnOf_ok hfn (hS.tmps.ev f)
    have he := run_enterLoop_outer (P := C.P) (w := w) b.fn a.tmps params assign body
    generalize hRec : ({ state := .ready, pending := none, fn := b.fn, tmps := a.tmps, params := params, assign := assign, body := body, defers := w.heap.size } : Loop) = R at he
    generalize hw1 : (w.alloc (.deferred (some []))).alloc (.loop R) = w1 at he
    have hsz1 : w1.heap.size = w.heap.size + 2 := by rw [← hw1]; simp
    have hold : ∀ b, b < w.heap.size → w1.heap[b]? = w.heap[b]? := fun b hb => by
      rw [← hw1, Go.RowKit.Below.heap_alloc _ _ b (by simp; omega), Go.RowKit.Below.heap_alloc _ _ b hb]
    have hD : w1.heap[w.heap.size]? = some (.deferred (some [])) := by
      rw [← hw1, Go.RowKit.Below.heap_alloc _ _ _ (by simp)]; exact heap_alloc_new w _
    have hLp : w1.heap[w.heap.size + 1]? = some (.loop R) := by
      rw [← hw1]; have := heap_alloc_new (w.alloc (.deferred (some []))) (.loop R); simpa using this
    -- the object
    have hfree : ρ s.nx = none := hS.inv.free _ (Nat.le_refl _)
    let lp : Obj := .lp s.tmps nt params.toList assign body fid 0 none
    let yv : Value := .func (.yield (w.heap.size + 1)) #[] #[]
    have hev : Ev M ρ s.G M (upd ρ s.nx (some yv)) (upd s.G s.nx lp) := Ev.new hfree
    have hInv1 : Inv Q w1 M (upd ρ s.nx (some yv)) (upd s.G s.nx lp) (s.nx + 2) := by
      refine (hS.inv.later (nx' := s.nx + 2) (by omega)).put (by omega) hev (fun b => ?_) (by omega) ?_ (fun b hb => .inl ?_)
      · rcases Nat.lt_or_ge b w.heap.size with h1 | h1
        · exact .inl (hold b h1)
        · exact .inr (.inl h1)
      · unfold ObjOK
        simp only [upd, if_true, lp]
        refine ⟨w.heap.size + 1, R, rfl, hLp, ?_⟩
        subst hRec
        exact ⟨fun t => (hS.tmps t).mono hev, hS.size, rfl, rfl, rfl, hb, .inl ⟨rfl, rfl⟩, rfl⟩
      · simp only [yv, blk, Option.some.injEq] at hb; omega
    let Q1 : Nat → Prop := fun x => Q x ∧ x ≠ w.heap.size
    have hlive : ∀ o v b, (upd s.G s.nx lp o).live = true → upd ρ s.nx (some yv) o = some v → blk v = some b → b ≠ w.heap.size := by
      intro o v b hl hv hb
      by_cases ho : o = s.nx
      · subst ho
        simp only [upd, if_true, Option.some.injEq] at hv
        subst hv
        simp only [yv, blk, Option.some.injEq] at hb
        omega
      · simp only [upd, if_neg ho] at hl hv
        have := hS.inv.lt hl hv hb
        omega
    have hInv2 : Inv Q1 w1 M (upd ρ s.nx (some yv)) (upd s.G s.nx lp) (s.nx + 2) :=
      { hInv1 with own := fun o v b h1 h2 h3 h4 => ⟨(hInv1.own o v b h1 h2 h3 h4).1, (hInv1.own o v b h1 h2 h3 h4).2, hlive o v b h1 h3 h4⟩, new := fun b hb => ⟨hInv1.new b hb, by omega⟩ }
    have hws : WS Q w w1 := by rw [← hw1]; exact WS.two hS.inv.new _ _
    have t1 : Tr (s.nx ≤ ·) Q w M ρ s.G Q1 w1 M (upd ρ s.nx (some yv)) (upd s.G s.nx lp) :=
      ⟨fun _ h => h.1, hev, hws, MQ.refl _ _, fun o ho e => by simp only [upd]; rw [if_neg (by omega)]; exact e⟩
    have hMnew : M w.heap.size = none := by
      cases e : M w.heap.size with
      | none => rfl
      | some x => have := (Array.getElem?_eq_some_iff.1 (hS.inv.mem _ _ e)).1; omega
    have hdr : DR Q0 Q1 w1 M (upd ρ s.nx (some yv)) (upd s.G s.nx lp) s.defers ([{ target := .collected w.heap.size, args := #[] }] ++ a.defers) := by
      refine .mark w.heap.size rfl (hS.sub _ (hS.inv.new _ (Nat.le_refl _))) (fun e => e.2 rfl) hMnew hD ?_ (hS.dfr.mono t1)
      exact fun x hx e => by have := hS.dfr.lt x hx _ e; omega
    let s1 : St := { s with nx := s.nx + 2, G := upd s.G s.nx lp }
    let a1 : Act := { a with defers := [{ target := .collected w.heap.size, args := #[] }] ++ a.defers }
    have hS1 : SR nt Q0 Q1 w1 M (upd ρ s.nx (some yv)) s1 a1 := ⟨hInv2, hS.tmps.mono hev, hS.size, fun b hb => hS.sub b hb.1, hdr⟩
    have hyq : upd ρ s.nx (some yv) s.nx = some yv := by simp [upd]
    have hargs : VL (VA M (upd ρ s.nx (some yv)) s1.G) (.yld s.nx :: cap) (#[yv] ++ cv) :=
      VL_append (l := [.yld s.nx]) ⟨rfl, fun i x hx => by
        match i, hx with
        | 0, hx => simp at hx; subst hx; exact .yld _ _ hyq
        | i + 1, hx => simp at hx⟩ (hcap.imp fun _ _ => VA.mono hev)
    have hN : ∀ o, (o = s.nx + 1 ∨ s.nx + 2 ≤ o) → s.nx ≤ o := fun o e => by omega
    have hstep : ∀ h1 : PInv C.P kf, step C.P (lone (b.atR a (.code (.rangeFunc f params assign body) :: k)) (csM s.pk cs) w) =
        .next (lone (Frame.enter C.P kf (#[yv] ++ cv) .normal) (b.atR a1 (.inRangeFunc (w.heap.size + 1) :: k) :: csM s.pk cs) w1) := fun h1 => by
      rw [← hro] at he
      refine stepR_rangeFunc he (d := { target := .fn (.func kf) cv, args := #[yv] }) (w₁' := w1) ?_ ?_
      · simp [resolve, eval_evV, hcv, Deferred.ofValue]; simp [evV, yv]
      · simp [invoke, run_callFunc hC h1]
    split at h
    · rename_i v s2 hcall
      obtain ⟨h1, e2, hn2, Q2, w2, M2, ρ2, cv2, t2, hi2, st2, hv2⟩ := callA_ok hC hL hcall (vs := #[yv] ++ cv) (c := b.atR a1 (.inRangeFunc (w.heap.size + 1) :: k)) (cs := csM s.pk cs) hS1.inv
        (by simp only [upd]; rw [if_neg (by omega)]; exact hS.inv.free _ (by omega)) (by simp) hargs
      have hS2 := hS1.turn t2 hi2
      rw [← e2] at hS2
      rw [finish_atR_inRangeFunc] at st2
      have hq2 : ρ2 s.nx = some yv := by
        rcases t2.ev.ref _ _ hyq with h3 | ⟨⟨_, _, _, h3⟩, _⟩
        · exact h3
        · simp [yv] at h3
      split at h
      · rename_i tm nt' pr as' bd' fn' st pending hG
        split at h
        · cases h
        · rename_i hst1
          have hobj := hi2.obj s.nx
          unfold ObjOK at hobj
          rw [hG] at hobj
          obtain ⟨l', r', hq3, hheap, hLI⟩ := hobj
          rw [hq2] at hq3
          have hl' : l' = w.heap.size + 1 := by simp only [yv, Option.some.injEq, Value.func.injEq, Fn.yield.injEq] at hq3; exact hq3.1.symm
          subst hl'
          have hbusy : r'.state ≠ .busy := by
            rcases hLI.state with ⟨_, h3⟩ | ⟨h3, _⟩ | ⟨_, h3⟩
            · rw [h3]; simp
            · exact absurd h3 hst1
            · rw [h3]; simp
          have hend := run_endLoop (P := C.P) hheap hbusy
          have hlt2 : w.heap.size + 1 < w2.heap.size := (Array.getElem?_eq_some_iff.1 hheap).1
          obtain ⟨hi3, hev3⟩ := hi2.drop (q := s.nx) (l := w.heap.size + 1) (v := yv) (w' := w2.putObj (w.heap.size + 1) (.loop { r' with state := .exhausted })) (by rw [hG]; rfl) (by rw [hG]; rfl) hq2 rfl
            (fun b hb => World.putObj_heap_other hb) (by simp [World.putObj])
          have hQ2 : Q2 (w.heap.size + 1) := (hi2.own s.nx yv _ (by rw [hG]; rfl) (by rw [hG]; rfl) hq2 rfl).2
          have t3 : Tr (s.nx ≤ ·) Q2 w2 M2 ρ2 s2.G Q2 (w2.putObj (w.heap.size + 1) (.loop { r' with state := .exhausted })) M2 ρ2 (upd s2.G s.nx .gone) :=
            ⟨fun _ h => h, hev3, ⟨rfl, rfl, rfl, by simp [World.putObj], fun b hb => World.putObj_heap_other (fun e => hb (e ▸ hQ2))⟩, MQ.refl _ _, fun _ _ h => h⟩
          have hS3 := hS2.turn t3 hi3
          have epk : s2.pk = s.pk := by rw [e2]
          have g : Goes nt b cs Q0 (s.nx ≤ ·) Q w M ρ s.G s.nx { s2 with G := upd s2.G s.nx .gone } a1 Q2 (w2.putObj (w.heap.size + 1) (.loop { r' with state := .exhausted })) M2 ρ2 :=
            ⟨(t1.trans t2 (N := fun o => s.nx ≤ o) (fun _ h => h) hN).trans t3 (fun _ h => h) (fun _ h => h), by have : s.nx + 2 ≤ s2.nx := hn2; show s.nx ≤ s2.nx; omega, hS3,
              by show PkOK M2 b cs s2.pk; rw [epk]; exact hpk.mono (Mem.le_trans t1.ev.mem t2.ev.mem)⟩
          have st3 := stepR_endRangeFunc (P := C.P) (b := b) (a := a1) (k := k) (cs := csM s.pk cs) hend
          generalize w2.putObj (w.heap.size + 1) (.loop { r' with state := .exhausted }) = w3 at g st3
          have stAll := (Steps.one (hstep h1)).trans (st2.trans (.one st3))
          rw [hLI.pending] at stAll
          split at h
          · cases h
            exact ⟨a1, Q2, _, M2, ρ2, g, by show Steps _ _ (lone _ (csM s2.pk cs) _); rw [epk]; exact stAll⟩
          · rename_i id'
            cases h
            exact ⟨a1, Q2, _, M2, ρ2, k, g, rfl, by show Steps _ _ (lone _ (csM s2.pk cs) _); rw [epk]; exact stAll⟩
          · cases h
            exact ⟨a1, Q2, _, M2, ρ2, k, g, by show Steps _ _ (lone _ (csM s2.pk cs) _); rw [epk]; exact stAll⟩
          · cases h
      · cases h
    · rename_i v s2 hcall
      cases h
      obtain ⟨h1, e2, hn2, Q2, w2, M2, ρ2, x, t2, hi2, st2, hx⟩ := callA_ok hC hL hcall (vs := #[yv] ++ cv) (c := b.atR a1 (.inRangeFunc (w.heap.size + 1) :: k)) (cs := csM s.pk cs) hS1.inv
        (by simp only [upd]; rw [if_neg (by omega)]; exact hS.inv.free _ (by omega)) (by simp) hargs
      have hS2 := hS1.turn t2 hi2
      rw [← e2] at hS2
      have epk : s2.pk = s.pk := by rw [e2]
      refine ⟨a1, Q2, w2, M2, ρ2, .inRangeFunc (w.heap.size + 1) :: k, x, ⟨t1.trans t2 (fun _ h => h) hN, by have : s.nx + 2 ≤ s2.nx := hn2; omega, hS2, ?_⟩, hx, ?_⟩
      · rw [epk]; exact hpk.mono (Mem.le_trans t1.ev.mem t2.ev.mem)
      · rw [epk]; exact (Steps.one (hstep h1)).trans st2
    · cases h
  · cases h

/-- What it is for a piece of code to do as it is reckoned. -/
def CodeOK (P : Program) (nt : Nat) (b : Frame) (cs : List Frame) (Q0 : Nat → Prop) (c : Code) (s : St) (out : Out) : Prop :=
  ∀ (Q : Nat → Prop) (w : World) (M : Mem) (ρ : Ref) (a : Act) (k : List Item), SR nt Q0 Q w M ρ s a → PkOK M b cs s.pk →
    CodeEnd P nt b cs k Q0 (s.nx ≤ ·) Q w M ρ s.G s.nx (lone (b.atR a (.code c :: k)) (csM s.pk cs) w) out

theorem loop_ok {c : Code} {f : St → Option Out} (hc : ∀ s out, f s = some out → CodeOK P nt b cs Q0 c s out) : ∀ (n : Nat) (s : St) (out : Out), iter f n s = some out → CodeOK P nt b cs Q0 (.loop c) s out ∧
    ∀ (Q : Nat → Prop) (w : World) (M : Mem) (ρ : Ref) (a : Act) (k : List Item), SR nt Q0 Q w M ρ s a → PkOK M b cs s.pk → CodeEnd P nt b cs k Q0 (s.nx ≤ ·) Q w M ρ s.G s.nx (lone (b.atR a (.code c :: .inLoop c :: k)) (csM s.pk cs) w) out
  | 0, s, out, h => by cases h
  | n + 1, s, out, h => by
    have key : ∀ (Q : Nat → Prop) (w : World) (M : Mem) (ρ : Ref) (a : Act) (k : List Item), SR nt Q0 Q w M ρ s a → PkOK M b cs s.pk → CodeEnd P nt b cs k Q0 (s.nx ≤ ·) Q w M ρ s.G s.nx (lone (b.atR a (.code c :: .inLoop c :: k)) (csM s.pk cs) w) out := by
      intro Q w M ρ a k hS hpk
      simp only [iter] at h
      split at h
      · rename_i s1 h1
        obtain ⟨a1, Q1, w1, M1, ρ1, g, st⟩ := hc _ _ h1 Q w M ρ a (.inLoop c :: k) hS hpk
        have := (loop_ok hc n s1 out h).2 Q1 w1 M1 ρ1 a1 k g.sr g.pk
        exact CodeEnd.after g.tr g.nx (st.trans (.one stepR_inLoop)) this (fun _ h => h) (fun o h => Nat.le_trans g.nx h)
      · rename_i x hx
        have h1 := hc _ _ h Q w M ρ a (.inLoop c :: k) hS hpk
        exact h1.thru (fun s' e => hx s' (by rw [h, e])) (fun id _ => rfl)
    exact ⟨fun Q w M ρ a k hS hpk => .head stepR_loop (key Q w M ρ a k hS hpk), key⟩

theorem code_ok (hC : CfgOK C) (hL : CallOK C.P L) (hR : RoundOK C.P L) (hb : b.fn = fid) : ∀ (c : Code) (s : St) (out : Out), code C L lf fid nt c s = some out → CodeOK C.P nt b cs Q0 c s out := by
  intro c
  induction c with
  | skip =>
    intro s out h Q w M ρ a k hS hpk
    cases h
    exact ⟨a, Q, w, M, ρ, ⟨Tr.refl _ _ _ _ _ _, Nat.le_refl _, hS, hpk⟩, .one stepR_skip⟩
  | region id ops draw =>
    intro s out h Q w M ρ a k hS hpk
    exact .of_line (region_ok hC hL hR h hS hpk)
  | seq x y ihx ihy =>
    intro s out h Q w M ρ a k hS hpk
    simp only [code] at h
    refine .head stepR_seq ?_
    split at h
    · rename_i s1 h1
      obtain ⟨a1, Q1, w1, M1, ρ1, g, st⟩ := ihx _ _ h1 Q w M ρ a (.code y :: k) hS hpk
      exact CodeEnd.after g.tr g.nx st (ihy _ _ h Q1 w1 M1 ρ1 a1 k g.sr g.pk) (fun _ h => h) (fun o h => Nat.le_trans g.nx h)
    · rename_i z hz
      exact (ihx _ _ h Q w M ρ a (.code y :: k) hS hpk).thru (fun s' e => hz s' (by rw [h, e])) (fun id _ => rfl)
  | cond c x y ihx ihy =>
    intro s out h Q w M ρ a k hS hpk
    simp only [code] at h
    split at h
    · rename_i t ht
      have hv := hS.tmps.ev c
      rw [ht] at hv
      refine .head (stepR_cond (t := t) (by rw [eval_evV]; exact hv.bool_inv)) ?_
      cases t
      · exact ihy _ _ h Q w M ρ a k hS hpk
      · exact ihx _ _ h Q w M ρ a k hS hpk
    · cases h
  | block id x ih =>
    intro s out h Q w M ρ a k hS hpk
    simp only [code] at h
    refine .head stepR_block ?_
    split at h
    · rename_i id' s1 h1
      obtain ⟨a1, Q1, w1, M1, ρ1, todo, g, he, st⟩ := ih _ _ h1 Q w M ρ a (.inBlock id :: k) hS hpk
      split at h
      · rename_i hid
        cases h
        subst hid
        exact ⟨a1, Q1, w1, M1, ρ1, g, st.trans (.one (stepR_exit (by rw [he]; simp [exitTo])))⟩
      · rename_i hid
        cases h
        exact ⟨a1, Q1, w1, M1, ρ1, todo, g, by rw [he]; simp [exitTo, Ne.symm hid], st⟩
    · rename_i z hz
      cases out with
      | norm s' =>
        obtain ⟨a1, Q1, w1, M1, ρ1, g, st⟩ := ih _ _ h Q w M ρ a (.inBlock id :: k) hS hpk
        exact ⟨a1, Q1, w1, M1, ρ1, g, st.trans (.one stepR_inBlock)⟩
      | exit id' s' => exact absurd h (hz id' s')
      | _ => exact (ih _ _ h Q w M ρ a (.inBlock id :: k) hS hpk).thru (fun s' e => by cases e) (fun id e => by obtain ⟨_, e⟩ := e; cases e)
  | loop x ih =>
    intro s out h
    exact (loop_ok ih lf s out h).1
  | exit id =>
    intro s out h Q w M ρ a k hS hpk
    cases h
    exact ⟨a, Q, w, M, ρ, k, ⟨Tr.refl _ _ _ _ _ _, Nat.le_refl _, hS, hpk⟩, rfl, Steps.refl _ _⟩
  | ret =>
    intro s out h Q w M ρ a k hS hpk
    cases h
    exact ⟨a, Q, w, M, ρ, k, ⟨Tr.refl _ _ _ _ _ _, Nat.le_refl _, hS, hpk⟩, Steps.refl _ _⟩
  | rangeFunc f params assign body =>
    intro s out h Q w M ρ a k hS hpk
    simp only [code] at h
    split at h
    · cases h
    · rename_i hnr
      exact rangeA_ok hC hL h hS hpk hnr hb
  | _ => intro s out h; cases h

/-! ### leaving -/
theorem load_as {t : TypeId} {c u : Value} (h : (Instr.loadAt t c).run P w = .ok u w) : (do loadVar t (← asAddr c) : Sem Value).run P w = .ok u w := by
  unfold Instr.loadAt at h
  cases c with
  | pointer p =>
    cases p with
    | some a => simpa [Instr.sureAddr, asAddr] using h
    | none => simp [Instr.sureAddr, stuck] at h
  | _ => simp [Instr.sureAddr, stuck] at h

theorem resultsL_ok {arr : Array Value} {f : ResultVar → Sem Value} (f1 : ∀ t, f (.tmp t) = pure (arr.getD t undef)) (f2 : ∀ a t, f (.cell a t) = (do loadVar t (← asAddr (arr.getD a undef)))) : ∀ (rs : List ResultVar) (l : List AV), resultsL C s rs = some l → Inv Q w M ρ s.G s.nx → TR M ρ s.G s.tmps arr →
    ∃ vs : List Value, (rs.mapM f).run C.P w = .ok vs w ∧ VL (VA M ρ s.G) l vs.toArray
  | [], l, h, hI, hT => by cases h; exact ⟨[], by simp, rfl, by simp⟩
  | r :: rs, l, h, hI, hT => by
    simp only [resultsL] at h
    split at h
    · rename_i v l' h1 h2
      cases h
      obtain ⟨vs, h3, h4⟩ := resultsL_ok f1 f2 rs l' h2 hI hT
      have : ∃ c, (f r).run C.P w = .ok c w ∧ VA M ρ s.G v c := by
        cases r with
        | tmp t => simp only [resultA, Option.some.injEq] at h1; subst h1; rw [f1]; exact ⟨_, rfl, hT t⟩
        | cell a t =>
          simp only [resultA] at h1
          split at h1
          · rename_i v' ups hld
            cases h1
            obtain ⟨_, u, h5, h6⟩ := aLoad_ok (w := w) hld hI (hT a)
            rw [f2]; exact ⟨u, load_as h5, h6⟩
          · cases h1
      obtain ⟨c, h5, h6⟩ := this
      refine ⟨c :: vs, ?_, ?_⟩
      · simp only [List.mapM_cons, Sem.run_bind, h5, Result.andThen_ok, h3, Sem.run_pure]
      · refine ⟨by simp [h4.1], fun i x hx => ?_⟩
        cases i with
        | zero => simp at hx; subst hx; simpa [at_, Array.getD_eq_getD_getElem?] using h6
        | succ i =>
          have := h4.2 i x (by simpa using hx)
          simpa [at_, Array.getD_eq_getD_getElem?] using this
    · cases h

end Go.Abs
