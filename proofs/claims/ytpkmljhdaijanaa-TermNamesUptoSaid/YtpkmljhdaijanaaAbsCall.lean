/- The abstract interpreter: calls. -/
import Derived.Test.YtpkmljhdaijanaaAbsStep
namespace Go.Abs

variable {M M' M'' : Mem} {ρ ρ' ρ'' : Ref} {G G' G'' : Nat → Obj} {w w' w'' : World} {nx nx' : Nat} {Q Q' Q'' : Nat → Prop} {P : Program} {C : Cfg} {L : Low}

theorem Inv.sub (h : Inv Q' w M ρ G nx) (hq : ∀ b, Q' b → Q b) : Inv Q w M ρ G nx :=
  { h with own := fun o v b h1 h2 h3 h4 => ⟨(h.own o v b h1 h2 h3 h4).1, hq _ (h.own o v b h1 h2 h3 h4).2⟩, new := fun b hb => hq _ (h.new b hb) }

theorem Inv.later (h : Inv Q w M ρ G nx) (hn : nx ≤ nx') : Inv Q w M ρ G nx' := { h with free := fun o ho => h.free o (by omega) }

/-- A live object's block is of the frame's own, or immutable. -/
theorem Inv.blkQ (h : Inv Q w M ρ G nx) {o b : Nat} {v : Value} (hl : (G o).live = true) (hv : ρ o = some v) (hb : blk v = some b) : M b ≠ none ∨ (M b = none ∧ Q b) := by
  by_cases hf : (G o).frozen = true
  · left
    have := h.obj o
    unfold ObjOK at this
    cases e : G o with
    | gone => rw [e] at hl; simp [Obj.live] at hl
    | box cs fr =>
      rw [e] at this hf
      obtain ⟨b', vs, e', h1, h2, h3, h4⟩ := this
      rw [hv] at h1; cases h1; simp [blk] at hb; subst hb
      exact h4 (by simpa [Obj.frozen] using hf)
    | row et sz xs fr =>
      rw [e] at this hf
      obtain ⟨_, v', cs, h1, h2, h3, h4⟩ := this
      rw [hv] at h1; cases h1
      exact h4 (by simpa [Obj.frozen] using hf) b hb
    | mp ks vs fr =>
      rw [e] at this hf
      obtain ⟨b', es, clk, h1, h2, h3, h4, h5, h6, h7, h8⟩ := this
      rw [hv] at h1; cases h1; simp [blk] at hb; subst hb
      exact h7 (by simpa [Obj.frozen] using hf)
    | it => rw [e] at hf; simp [Obj.frozen] at hf
    | lp => rw [e] at hf; simp [Obj.frozen] at hf
  · exact .inr (h.own o v b hl (by simpa using hf) hv hb)

/-- The world turns in a block that is of no object. -/
theorem Inv.turn (h : Inv Q w M ρ G nx) (hw : ∀ b, w'.heap[b]? = w.heap[b]? ∨ (¬ Q b ∧ M b = none)) (hsz : w.heap.size ≤ w'.heap.size) : Inv Q w' M ρ G nx := by
  refine ⟨fun b o hm => ?_, fun o => ?_, h.free, h.gone, h.sep, h.own, fun b hb => h.new b (by omega)⟩
  · rcases hw b with h1 | ⟨_, h1⟩
    · rw [h1]; exact h.mem b o hm
    · rw [hm] at h1; cases h1
  · by_cases hl : (G o).live = true
    · refine (h.obj o).mono rfl rfl (Ev.refl _ _ _) fun v b hv hb => ?_
      rcases hw b with h1 | ⟨h1, h2⟩
      · exact h1
      · rcases h.blkQ hl hv hb with h3 | ⟨_, h3⟩
        · exact absurd h2 h3
        · exact absurd h3 h1
    · have : G o = .gone := by cases e : G o <;> simp_all [Obj.live]
      unfold ObjOK; rw [this]; trivial

def QN (w : World) : Nat → Prop := fun b => w.heap.size ≤ b

theorem Ev.mem' (hm : M.le M') : Ev M ρ G M' ρ G := ⟨hm, fun _ _ h => .inl h, fun _ _ _ _ xs fr h => ⟨xs, fr, h, Nat.le_refl _, fun _ => rfl⟩⟩

/-- Others have worked, in memory of their own. -/
theorem Inv.ext (h : Inv Q w M ρ G nx) (hm : M.le M') (hw : WS (QN w) w w') (hq : MQ (QN w) M M') (hmem : ∀ b o, M' b = some o → w'.heap[b]? = some o) : Inv Q w' M' ρ G nx := by
  have hold : ∀ b, b < w.heap.size → w'.heap[b]? = w.heap[b]? := fun b hb => hw.block b (by simp only [QN]; omega)
  refine ⟨hmem, fun o => ?_, h.free, h.gone, h.sep, fun o v b h1 h2 h3 h4 => ?_, fun b hb => h.new b (by have := hw.size; omega)⟩
  · by_cases hl : (G o).live = true
    · exact (h.obj o).mono rfl rfl (Ev.mem' hm) fun v b hv hb => hold b (h.lt hl hv hb)
    · have : G o = .gone := by cases e : G o <;> simp_all [Obj.live]
      unfold ObjOK; rw [this]; trivial
  · have ho := h.own o v b h1 h2 h3 h4
    refine ⟨?_, ho.2⟩
    cases e : M' b with
    | none => rfl
    | some x =>
      rcases hq b (by rw [e]; simp) with h5 | h5
      · exact absurd ho.1 h5
      · have := h.lt h1 h3 h4; simp only [QN] at h5; omega

/-- A new object, of a block that is there already. -/
theorem Inv.add (h : Inv Q w M ρ G nx) {q : Nat} {x : Obj} {r : Value} (hq : q < nx) (hn : ρ q = none) (hx : ObjOK w M (upd ρ q (some r)) (upd G q x) q)
    (hb : ∀ b, blk r = some b → M b = none ∧ Q b ∧ ∀ o v, (G o).live = true → ρ o = some v → blk v ≠ some b) : Inv Q w M (upd ρ q (some r)) (upd G q x) nx := by
  have hv : Ev M ρ G M (upd ρ q (some r)) (upd G q x) := Ev.new hn
  refine ⟨h.mem, fun o => ?_, fun o ho => ?_, fun o ho => ?_, ?_, ?_, h.new⟩
  · by_cases hoq : o = q
    · subst hoq; exact hx
    · exact (h.obj o).mono (by simp [upd, hoq]) (by simp [upd, hoq]) hv (fun _ _ _ _ => rfl)
  · simp only [upd]; rw [if_neg (by omega)]; exact h.free o ho
  · by_cases hoq : o = q
    · subst hoq; simp [upd] at ho
    · simp only [upd, if_neg hoq] at ho ⊢; exact h.gone o ho
  · intro o o' v v' b hl hl' hv1 hv2 hb1 hb2
    by_cases ho : o = q
    · by_cases ho' : o' = q
      · rw [ho, ho']
      · exfalso
        subst ho
        simp only [upd, if_true, Option.some.injEq] at hv1
        subst hv1
        simp only [upd, if_neg ho'] at hl' hv2
        exact (hb b hb1).2.2 o' v' hl' hv2 hb2
    · by_cases ho' : o' = q
      · exfalso
        subst ho'
        simp only [upd, if_true, Option.some.injEq] at hv2
        subst hv2
        simp only [upd, if_neg ho] at hl hv1
        exact (hb b hb2).2.2 o v hl hv1 hb1
      · simp only [upd, if_neg ho] at hl hv1
        simp only [upd, if_neg ho'] at hl' hv2
        exact h.sep o o' v v' b hl hl' hv1 hv2 hb1 hb2
  · intro o v b hl hfr hv1 hb1
    by_cases ho : o = q
    · subst ho
      simp only [upd, if_true, Option.some.injEq] at hv1
      subst hv1
      exact ⟨(hb b hb1).1, (hb b hb1).2.1⟩
    · simp only [upd, if_neg ho] at hl hfr hv1
      exact h.own o v b hl hfr hv1 hb1

/-! ### how a state comes of another one -/
structure Tr (N : Nat → Prop) (Q : Nat → Prop) (w : World) (M : Mem) (ρ : Ref) (G : Nat → Obj) (Q' : Nat → Prop) (w' : World) (M' : Mem) (ρ' : Ref) (G' : Nat → Obj) : Prop where
  sub : ∀ b, Q' b → Q b
  ev : Ev M ρ G M' ρ' G'
  ws : WS Q w w'
  mq : MQ Q M M'
  born : ∀ o, ¬ N o → ρ o = none → ρ' o = none

theorem Tr.refl (N Q : Nat → Prop) (w : World) (M : Mem) (ρ : Ref) (G : Nat → Obj) : Tr N Q w M ρ G Q w M ρ G :=
  ⟨fun _ h => h, Ev.refl _ _ _, WS.refl _ _, MQ.refl _ _, fun _ _ h => h⟩

theorem WS.sub (h : WS Q' w w') (hq : ∀ b, Q' b → Q b) : WS Q w w' := ⟨h.os, h.tape, h.output, h.size, fun b hb => h.block b fun hb' => hb (hq b hb')⟩
theorem MQ.sub (h : MQ Q' M M') (hq : ∀ b, Q' b → Q b) : MQ Q M M' := fun b hb => (h b hb).imp (fun h => h) (hq b)

theorem Tr.trans {N1 N2 N : Nat → Prop} (h : Tr N1 Q w M ρ G Q' w' M' ρ' G') (k : Tr N2 Q' w' M' ρ' G' Q'' w'' M'' ρ'' G'') (h1 : ∀ o, N1 o → N o) (h2 : ∀ o, N2 o → N o) : Tr N Q w M ρ G Q'' w'' M'' ρ'' G'' :=
  ⟨fun b hb => h.sub b (k.sub b hb), h.ev.trans k.ev, h.ws.trans (k.ws.sub h.sub), h.mq.trans (k.mq.sub h.sub), fun o ho hr => k.born o (fun e => ho (h2 o e)) (h.born o (fun e => ho (h1 o e)) hr)⟩

theorem Tr.weak {N N' : Nat → Prop} (h : Tr N Q w M ρ G Q' w' M' ρ' G') (hn : ∀ o, N o → N' o) : Tr N' Q w M ρ G Q' w' M' ρ' G' :=
  { h with born := fun o ho => h.born o fun e => ho (hn o e) }

/-! ### deferred calls -/
inductive DR (Q0 Q : Nat → Prop) (w : World) (M : Mem) (ρ : Ref) (G : Nat → Obj) : List (AV × List AV) → List Deferred → Prop
  | nil : DR Q0 Q w M ρ G [] []
  | cons {g : AV} {as : List AV} {ds : List (AV × List AV)} {d : Deferred} {dcs : List Deferred} (f : Fn) (cap : Array Value) (ht : d.target = .fn f cap) (hg : VA M ρ G g (.func f #[] cap)) (ha : VL (VA M ρ G) as d.args) (h : DR Q0 Q w M ρ G ds dcs) :
      DR Q0 Q w M ρ G ((g, as) :: ds) (d :: dcs)
  | mark {ds : List (AV × List AV)} {d : Deferred} {dcs : List Deferred} (r : Nat) (ht : d.target = .collected r) (q0 : Q0 r) (q : ¬ Q r) (hm : M r = none) (hr : w.heap[r]? = some (.deferred (some [])))
      (hn : ∀ x ∈ dcs, x.target ≠ .collected r) (h : DR Q0 Q w M ρ G ds dcs) : DR Q0 Q w M ρ G ds (d :: dcs)

theorem DR.mono {Q0 N : Nat → Prop} {ds : List (AV × List AV)} {dcs : List Deferred} (h : DR Q0 Q w M ρ G ds dcs) (t : Tr N Q w M ρ G Q' w' M' ρ' G') : DR Q0 Q' w' M' ρ' G' ds dcs := by
  induction h with
  | nil => exact .nil
  | cons f cap ht hg ha h ih => exact .cons f cap ht (hg.mono t.ev) (ha.imp fun _ _ => VA.mono t.ev) ih
  | mark r ht q0 q hm hr hn h ih =>
    refine .mark r ht q0 (fun e => q (t.sub r e)) ?_ ((t.ws.block r q).trans hr) hn ih
    cases e : M' r with
    | none => rfl
    | some x => rcases t.mq r (by rw [e]; simp) with h1 | h1
                · exact absurd hm h1
                · exact absurd h1 q

/-- A frame's state. -/
structure SR (nt : Nat) (Q0 Q : Nat → Prop) (w : World) (M : Mem) (ρ : Ref) (s : St) (a : Act) : Prop where
  inv : Inv Q w M ρ s.G s.nx
  tmps : TR M ρ s.G s.tmps a.tmps
  size : a.tmps.size = nt
  sub : ∀ b, Q b → Q0 b
  dfr : DR Q0 Q w M ρ s.G s.defers a.defers

/-! ### contracts -/
def PInv (P : Program) (f : FuncId) : Prop := ∃ fn, P.funcs[f]? = some fn ∧ fn.body.isSome = true

def CallEnd (P : Program) (m : Machine) (pk' : Pk) (kind : CallKind) (cs : List Frame) (f : FuncId) (w' : World) (M' : Mem) (ρ' : Ref) : CR → Prop
  | .ret v G' _ => ∃ fr cv fn, Steps P m (lone fr (csM pk' cs) w') ∧ fr.mode = .returning ∧ fr.defers = [] ∧ fr.kind = kind ∧ fr.fn = f ∧ P.funcs[f]? = some fn ∧ (results fn fr.tmps).run P w' = .ok cv w' ∧ VA M' ρ' G' v cv
  | .pan v _ _ => ∃ fr x fn, Steps P m (lone fr (csM pk' cs) w') ∧ fr.mode = .panicking [{ v := x, recovered := false }] ∧ fr.defers = [] ∧ fr.kind = kind ∧ fr.fn = f ∧ P.funcs[f]? = some fn ∧ VI M' v x

def CR.mem : CR → Nat → Obj
  | .ret _ G _ => G
  | .pan _ G _ => G
def CR.lim : CR → Nat
  | .ret _ _ n => n
  | .pan _ _ n => n

def CallOK (P : Program) (L : Low) : Prop := ∀ f args pk G nx res pk', L.call f args pk G nx = some (res, pk') → PInv P f ∧
  ∀ Q w M ρ vs kind cs, Inv Q w M ρ G nx → VL (VA M ρ G) args vs → PkOK M (Frame.enter P f vs kind) cs pk → ∃ Q' w' M' ρ', Tr (nx ≤ ·) Q w M ρ G Q' w' M' ρ' res.mem ∧ Inv Q' w' M' ρ' res.mem res.lim ∧ nx ≤ res.lim ∧
    PkOK M' (Frame.enter P f vs kind) cs pk' ∧ CallEnd P (lone (Frame.enter P f vs kind) (csM pk cs) w) pk' kind cs f w' M' ρ' res

def RoundEnd (P : Program) (m : Machine) (c : Frame) (cs : List Frame) (w' : World) (M' : Mem) (ρ' : Ref) : CR → Prop
  | .ret v G' _ => ∃ cv, Steps P m (lone (c.finish cv) cs w') ∧ VA M' ρ' G' v cv
  | .pan v _ _ => ∃ x', Steps P m (lone (c.raise [{ v := x', recovered := false }]) cs w') ∧ VI M' v x'

def RoundOK (P : Program) (L : Low) : Prop := ∀ q args G nx res pk', L.round q args G nx = some (res, pk') →
  ∀ Q w M ρ vs l, Inv Q w M ρ G nx → VL (VA M ρ G) args vs → ρ q = some (.func (.yield l) #[] #[]) → ∃ f tmps x y, (Instr.yield l vs).run P w = .ok (.round l f tmps x y) w ∧
    ∀ c cs, ∃ Q' w' M' ρ', Tr (nx ≤ ·) Q w M ρ G Q' w' M' ρ' res.mem ∧ Inv Q' w' M' ρ' res.mem res.lim ∧ nx ≤ res.lim ∧
      RoundEnd P (lone (Frame.round l f tmps x y .normal) (c :: cs) w) c cs w' M' ρ' res

def OrcEnd (w : World) (M : Mem) (cv : Value) (w' : World) : OrcR → Prop
  | .dat x => ∃ M', M.le M' ∧ MQ (QN w) M M' ∧ (∀ b o, M' b = some o → w'.heap[b]? = some o) ∧ VI M' x cv
  | .own et sz xs => ∃ M' cs, M.le M' ∧ MQ (QN w) M M' ∧ (∀ b o, M' b = some o → w'.heap[b]? = some o) ∧ 0 < sz ∧ w'.ownsRow 0 et sz cv xs.length cs ∧ (∀ b, blk cv = some b → M' b = none ∧ w.heap.size ≤ b) ∧
      (∀ x ∈ xs, (AV.imm x).fits sz = true) ∧ ∀ (i : Nat) x (j : Nat) y, xs[i]? = some x → (IV.cells x)[j]? = some y → VI M' y (cs.getD (i * sz + j) Go.undef)

def OrcOK (C : Cfg) : Prop := ∀ f ivs r, C.orc f ivs = some r → PInv C.P f ∧
  ∀ M w vs, (∀ b o, M b = some o → w.heap[b]? = some o) → VL (VI M) ivs vs → Calls C.P f vs w fun e w' => ∃ cv, e = .returned cv ∧ WS (QN w) w w' ∧ OrcEnd w M cv w' r

structure CfgOK (C : Cfg) : Prop where
  mixed : C.P.follows .mixedOrders = true
  ng : ∀ (f : FuncId) (fn : Func), C.P.funcs[f]? = some fn → fn.body.isSome = true → (fn.name == "runtime.NumGoroutine") = false
  orc : OrcOK C

theorem run_callFunc (hC : CfgOK C) {f : FuncId} {vs : Array Value} (h : PInv C.P f) : (callFunc f vs).run C.P w = .ok (.enter f vs) w := by
  obtain ⟨fn, h1, h2⟩ := h
  have h3 := hC.ng f fn h1 h2
  have h4 : fn.body ≠ none := by cases e : fn.body <;> simp_all
  have h3' : fn.name ≠ "runtime.NumGoroutine" := by simpa using h3
  simp [callFunc, h1, h3', h4]

theorem VL_imms {ivs : List IV} {vs : Array Value} (h : VL (VI M) ivs vs) : VL (VA M ρ G) (ivs.map .imm) vs := by
  refine ⟨by simpa using h.1, fun i x hx => ?_⟩
  rw [List.getElem?_map, Option.map_eq_some_iff] at hx
  obtain ⟨y, hy, rfl⟩ := hx
  exact .imm _ _ (h.2 i y hy)

theorem Inv.empty (hm : ∀ b o, M b = some o → w.heap[b]? = some o) : Inv (QN w) w M (fun _ => none) (fun _ => .gone) 0 := by
  refine ⟨hm, fun o => trivial, fun _ _ => rfl, fun _ _ => rfl, ?_, ?_, fun b hb => hb⟩
  · intro o o' v v' b h; simp [Obj.live] at h
  · intro o v b h; simp [Obj.live] at h

theorem imm_cells (z : IV) : (AV.imm z).cells = z.cells.map .imm := by cases z <;> rfl

/-- What a call of a function comes to. -/
def CallRes (P : Program) (id : Nat) (s : St) (m : List Frame → Machine) (Q : Nat → Prop) (w : World) (M : Mem) (ρ : Ref) (c : Frame) (cs : List Frame) : Ef → Prop
  | .val v ups => ∃ Q' w' M' ρ' cv, Tr (fun o => o = id ∨ s.nx ≤ o) Q w M ρ s.G Q' w' M' ρ' (updL s.G ups) ∧ Inv Q' w' M' ρ' (updL s.G ups) s.nx ∧ Steps P (m (c :: cs)) (lone (c.finish cv) cs w') ∧ VA M' ρ' (updL s.G ups) v cv
  | .wr v s1 => s1 = { s with G := s1.G, nx := s1.nx } ∧ s.nx ≤ s1.nx ∧ ∃ Q' w' M' ρ' cv, Tr (fun o => o = id ∨ s.nx ≤ o) Q w M ρ s.G Q' w' M' ρ' s1.G ∧ Inv Q' w' M' ρ' s1.G s1.nx ∧ Steps P (m (c :: cs)) (lone (c.finish cv) cs w') ∧ VA M' ρ' s1.G v cv
  | .pan v s1 => s1 = { s with G := s1.G, nx := s1.nx } ∧ s.nx ≤ s1.nx ∧ ∃ Q' w' M' ρ' x, Tr (fun o => o = id ∨ s.nx ≤ o) Q w M ρ s.G Q' w' M' ρ' s1.G ∧ Inv Q' w' M' ρ' s1.G s1.nx ∧ Steps P (m (c :: cs)) (lone (c.raise [{ v := x, recovered := false }]) cs w') ∧ VI M' v x

theorem CallEnd.ret {m : Machine} {pk' : Pk} {cs : List Frame} {f : FuncId} {v : AV} {n : Nat} {c : Frame} (h : CallEnd P m pk' .normal (c :: cs) f w' M' ρ' (.ret v G' n)) (hp : pk' = .no) :
    ∃ cv, Steps P m (lone (c.finish cv) cs w') ∧ VA M' ρ' G' v cv := by
  obtain ⟨fr, cv, fn, h1, h2, h3, h4, h5, h6, h7, h8⟩ := h
  subst hp
  refine ⟨cv, h1.trans (.one (step_leave_returned ⟨h2, h3, h4, fn, ?_, h7⟩)), h8⟩
  rw [h5]; exact h6

theorem CallEnd.pan {m : Machine} {pk' : Pk} {cs : List Frame} {f : FuncId} {v : IV} {n : Nat} {c : Frame} (h : CallEnd P m pk' .normal (c :: cs) f w' M' ρ' (.pan v G' n)) (hp : pk' = .no) :
    ∃ x, Steps P m (lone (c.raise [{ v := x, recovered := false }]) cs w') ∧ VI M' v x := by
  obtain ⟨fr, x, fn, h1, h2, h3, h4, h5, h6, h7⟩ := h
  subst hp
  refine ⟨x, h1.trans (.one (step_leave_panicked ⟨h2, h3, fn, ?_⟩)), h7⟩
  rw [h5]; exact h6

theorem PkOK.no_of {b : Frame} {cs : List Frame} {pk : Pk} (h : PkOK M b cs pk) (hk : b.kind = .normal) (hr : b.roundOf = none) : pk = .no := by
  cases pk with
  | no => rfl
  | rnd => exact absurd hr h.2
  | dfr m r => cases m with
    | none => obtain ⟨h1, _⟩ := h; rw [hk] at h1; cases h1
    | some v => obtain ⟨h1, _⟩ := h; rw [hk] at h1; cases h1

theorem Tr.own {N : Nat → Prop} (hm : M.le M') (hw : WS (QN w) w w') (hq : MQ (QN w) M M') (hn : ∀ b, w.heap.size ≤ b → Q b) : Tr N Q w M ρ G Q w' M' ρ G :=
  ⟨fun _ h => h, Ev.mem' hm, hw.sub hn, hq.sub hn, fun _ _ h => h⟩

theorem peeks_VI {args : List AV} {vs : Array Value} {ivs : List IV} {ids : List Nat} (hI : Inv Q w M ρ G nx) (h : peeks G args = some (ivs, ids)) (hv : VL (VA M ρ G) args vs) :
    VL (VI (memOf w M ρ ids)) ivs vs ∧ ∀ o ∈ ids, (G o).data = true := by
  have key : ∀ (l : List AV) (xs : List IV) (is : List Nat), peekL (peek G pkDepth) l = some (xs, is) → (∀ o ∈ is, o ∈ ids) → xs.length = l.length ∧ (∀ o ∈ is, (G o).data = true) ∧ ∀ (i : Nat) x, xs[i]? = some x → ∃ a, l[i]? = some a ∧ ∀ c, VA M ρ G a c → VI (memOf w M ρ ids) x c := by
    intro l
    induction l with
    | nil => intro xs is h hin; simp only [peekL, Option.some.injEq, Prod.mk.injEq] at h; obtain ⟨rfl, rfl⟩ := h; exact ⟨rfl, by simp, by simp⟩
    | cons a r ih =>
      intro xs is h hin
      simp only [peekL] at h
      split at h
      · rename_i x ix h1
        split at h
        rotate_left
        · cases h
        rename_i xr ir h2
        cases h
        have := ih xr ir h2 (fun o ho => hin o (List.mem_append.2 (.inr ho)))
        refine ⟨by simp [this.1], fun o ho => ?_, fun i y hy => ?_⟩
        · rcases List.mem_append.1 ho with ho | ho
          · exact peek_live _ _ _ _ h1 o ho
          · exact this.2.1 o ho
        · cases i with
          | zero => simp at hy; subst hy; exact ⟨a, rfl, fun c hc => peek_VI hI _ _ _ _ _ h1 (fun o ho => hin o (List.mem_append.2 (.inl ho))) hc⟩
          | succ i => simpa using this.2.2 i y (by simpa using hy)
      · cases h
  obtain ⟨k1, k2, k3⟩ := key args ivs ids h (fun o h => h)
  refine ⟨⟨by rw [k1]; exact hv.1, fun i x hx => ?_⟩, k2⟩
  obtain ⟨a, ha, hc⟩ := k3 i x hx
  exact hc _ (hv.2 i a ha)

theorem callA_ok (hC : CfgOK C) (hL : CallOK C.P L) {id : Nat} {s : St} {f : FuncId} {args : List AV} {ef : Ef} (h : callA C L id s f args = some ef) {vs : Array Value} {c : Frame} {cs : List Frame} (hI : Inv Q w M ρ s.G s.nx) (hid : ρ id = none) (hlt : id < s.nx)
    (hv : VL (VA M ρ s.G) args vs) : PInv C.P f ∧ CallRes C.P id s (fun cs => lone (Frame.enter C.P f vs .normal) cs w) Q w M ρ c cs ef := by
  have hpk : ∀ M, PkOK M (Frame.enter C.P f vs .normal) (c :: cs) .no := fun M => ⟨rfl, rfl⟩
  unfold callA at h
  split at h
  · split at h
    · rename_i v G2 n2 pk2 hcall
      cases h
      obtain ⟨h1, h2⟩ := hL _ _ _ _ _ _ _ hcall
      obtain ⟨Q', w', M', ρ', t, i', n', p', e'⟩ := h2 Q w M ρ vs .normal (c :: cs) hI hv (hpk M)
      obtain ⟨cv, st, hcv⟩ := CallEnd.ret e' (p'.no_of rfl rfl)
      exact ⟨h1, rfl, n', Q', w', M', ρ', cv, t.weak (fun _ => .inr), i', st, hcv⟩
    · rename_i v G2 n2 pk2 hcall
      cases h
      obtain ⟨h1, h2⟩ := hL _ _ _ _ _ _ _ hcall
      obtain ⟨Q', w', M', ρ', t, i', n', p', e'⟩ := h2 Q w M ρ vs .normal (c :: cs) hI hv (hpk M)
      obtain ⟨x, st, hx⟩ := CallEnd.pan e' (p'.no_of rfl rfl)
      exact ⟨h1, rfl, n', Q', w', M', ρ', x, t.weak (fun _ => .inr), i', st, hx⟩
    · cases h
  · split at h
    · cases h
    · rename_i ivs ids hpks
      obtain ⟨hvi, hdat⟩ := peeks_VI hI hpks hv
      have hF := hI.frz hdat
      have hE := Ev.frz w M ρ s.G ids
      have hMQ := MQ.memOf hI hdat
      have hn : ∀ b, w.heap.size ≤ b → Q b := hI.new
      have tF : Tr (fun o => o = id ∨ s.nx ≤ o) Q w M ρ s.G Q w (memOf w M ρ ids) ρ (updL s.G (frz ids)) := ⟨fun _ h => h, hE, WS.refl _ _, hMQ, fun _ _ h => h⟩
      -- what comes back, as data
      have back : ∀ (r : IV) (v : AV) (ups : List (Nat × U)) (w' : World) (M' : Mem) (cv : Value), give ids r.scalar (.imm r) = .val v ups → (memOf w M ρ ids).le M' → WS (QN w) w w' → MQ (QN w) (memOf w M ρ ids) M' → (∀ b o, M' b = some o → w'.heap[b]? = some o) →
          VI M' r cv → Steps C.P (lone (Frame.enter C.P f vs .normal) (c :: cs) w) (lone (c.finish cv) cs w') → CallRes C.P id s (fun cs => lone (Frame.enter C.P f vs .normal) cs w) Q w M ρ c cs (.val v ups) := by
        intro r v ups w' M' cv hg hle hws hmq hmem hr hst
        unfold give at hg
        split at hg
        · rename_i hsc
          cases hg
          refine ⟨Q, w', M, ρ, cv, Tr.own (Mem.le_refl M) hws (MQ.refl _ _) hn, ?_, hst, .imm _ _ (hr.any hsc M)⟩
          exact hI.ext (Mem.le_refl M) hws (MQ.refl _ _) fun b o hb => by
            have := hI.mem b o hb
            rw [hws.block b (by have := (Array.getElem?_eq_some_iff.1 this).1; simp only [QN]; omega)]; exact this
        · cases hg
          exact ⟨Q, w', M', ρ, cv, tF.trans (Tr.own hle hws hmq hn) (fun _ h => h) (fun _ h => h), hF.ext hle hws hmq hmem, hst, .imm _ _ hr⟩
      split at h
      · rename_i r horc
        injection h with h
        obtain ⟨h1, h2⟩ := hC.orc f ivs _ horc
        obtain ⟨e, w', fr, ⟨cv, rfl, hws, M', hle, hmq, hmem, hr⟩, hcomes, hfn, hleave⟩ := h2 (memOf w M ρ ids) w vs hF.mem hvi (c :: cs)
        refine ⟨h1, ?_⟩
        cases ef with
        | val v ups => exact back r v ups w' M' cv h hle hws hmq hmem hr (Steps.trans hcomes (.one (step_leave_returned hleave)))
        | wr => unfold give at h; split at h <;> cases h
        | pan => unfold give at h; split at h <;> cases h
      · rename_i et sz xs horc
        cases h
        obtain ⟨h1, h2⟩ := hC.orc f ivs _ horc
        obtain ⟨e, w', fr, ⟨cv, rfl, hws, M', cells, hle, hmq, hmem, hsz, hrow, hblk, hfit, hcell⟩, hcomes, hfn, hleave⟩ := h2 (memOf w M ρ ids) w vs hF.mem hvi (c :: cs)
        have hup : updL s.G (frz ids ++ [(id, .set (.row et sz (xs.map .imm) false))]) = upd (updL s.G (frz ids)) id (.row et sz (xs.map .imm) false) := by
          rw [updL_append]; rfl
        have hI1 := hF.ext hle hws hmq hmem
        have hv1 : Ev M' ρ (updL s.G (frz ids)) M' (upd ρ id (some cv)) (upd (updL s.G (frz ids)) id (.row et sz (xs.map .imm) false)) := Ev.new hid
        have hrow' : w'.ownsRow 0 et sz cv (xs.map AV.imm).length cells := by rw [List.length_map]; exact hrow
        refine ⟨h1, Q, w', M', upd ρ id (some cv), cv, ?_, ?_, Steps.trans hcomes (.one (step_leave_returned hleave)), ?_⟩
        · rw [hup]
          refine (tF.trans (Tr.own (N := fun o => o = id ∨ s.nx ≤ o) hle hws hmq hn) (fun _ h => h) (fun _ h => h)).trans (N2 := fun o => o = id) ⟨fun _ h => h, hv1, WS.refl _ _, MQ.refl _ _, fun o h e => by simp [upd, h, e]⟩ (fun _ h => h) (fun _ h => .inl h)
        · rw [hup]
          refine hI1.add hlt hid ?_ (fun b hb => ⟨(hblk b hb).1, hn b (hblk b hb).2, fun o v hl hv hb' => ?_⟩)
          · unfold ObjOK
            simp only [upd, if_true]
            refine ⟨hsz, cv, cells, rfl, hrow', ⟨fun x hx => ?_, fun i x j y hx hy => ?_⟩, fun h => by cases h⟩
            · obtain ⟨z, hz, rfl⟩ := List.mem_map.1 hx
              exact hfit z hz
            · rw [List.getElem?_map, Option.map_eq_some_iff] at hx
              obtain ⟨z, hz, rfl⟩ := hx
              obtain ⟨u, rfl, hu⟩ := imm_get (l := z.cells) (by rw [← imm_cells z]; exact hy)
              exact .imm _ _ (hcell i z j u hz hu)
          · have h3 := hF.lt hl hv hb'
            have h4 := (hblk b hb).2
            omega
        · rw [hup]
          rcases hrow.2 with ⟨rfl, h1⟩ | ⟨g, cap, cur, rfl, _⟩
          · exact .row id _ none 0 0 (by simp [upd]) fun et' sz' xs' fr' e => by
              simp only [upd, if_true, Obj.row.injEq] at e
              obtain ⟨rfl, rfl, rfl, rfl⟩ := e
              exact ⟨by simp, fun _ => by simp [upd]⟩
          · exact .row id _ _ _ _ (by simp [upd]) fun et' sz' xs' fr' e => by
              simp only [upd, if_true, Obj.row.injEq] at e
              obtain ⟨rfl, rfl, rfl, rfl⟩ := e
              exact ⟨by simp, fun _ => by simp [upd]⟩
      · split at h
        · rename_i v G2 n2 pk2 hcall
          split at h
          · rename_i r is hpeek
            injection h with h
            obtain ⟨h1, h2⟩ := hL _ _ _ _ _ _ _ hcall
            obtain ⟨Q', w', M', ρ', t, i', n', p', e'⟩ := h2 (QN w) w (memOf w M ρ ids) (fun _ => none) vs .normal (c :: cs) (Inv.empty hF.mem) (VL_imms hvi) (hpk _)
            obtain ⟨cv, st, hcv⟩ := CallEnd.ret e' (p'.no_of rfl rfl)
            have hr := peek_VI i' _ _ _ _ _ hpeek (fun o h => h) hcv
            have hdat2 := peek_live _ _ _ _ hpeek
            refine ⟨h1, ?_⟩
            have hle : (memOf w M ρ ids).le (memOf w' M' ρ' is) := Mem.le_trans t.ev.mem (memOf_le _ _ _ _)
            have hmq : MQ (QN w) (memOf w M ρ ids) (memOf w' M' ρ' is) := t.mq.trans ((MQ.memOf i' hdat2).sub t.sub)
            cases ef with
            | val v' ups => exact back r v' ups w' _ cv h hle t.ws hmq (i'.frz hdat2).mem hr st
            | wr => unfold give at h; split at h <;> cases h
            | pan => unfold give at h; split at h <;> cases h
          · cases h
        · rename_i v G2 n2 pk2 hcall
          split at h
          · rename_i hsc
            cases h
            obtain ⟨h1, h2⟩ := hL _ _ _ _ _ _ _ hcall
            obtain ⟨Q', w', M', ρ', t, i', n', p', e'⟩ := h2 (QN w) w (memOf w M ρ ids) (fun _ => none) vs .normal (c :: cs) (Inv.empty hF.mem) (VL_imms hvi) (hpk _)
            obtain ⟨x, st, hx⟩ := CallEnd.pan e' (p'.no_of rfl rfl)
            refine ⟨h1, rfl, Nat.le_refl _, Q, w', M, ρ, x, Tr.own (Mem.le_refl M) t.ws (MQ.refl _ _) hn, ?_, st, hx.any hsc M⟩
            exact hI.ext (Mem.le_refl M) t.ws (MQ.refl _ _) fun b o hb => by
              have := hI.mem b o hb
              rw [t.ws.block b (by have := (Array.getElem?_eq_some_iff.1 this).1; simp only [QN]; omega)]; exact this
          · cases h
        · cases h

end Go.Abs
