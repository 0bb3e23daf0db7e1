/- The abstract interpreter: the machine's steps. -/
import Derived.Test.YtpkmljhdaijanaaAbsOp
import Derived.AtR
import Derived.Defers
import Derived.RangeFuncIn
import Derived.RangeFuncLeaves
namespace Go.Abs

variable {M M' : Mem} {ρ ρ' : Ref} {G G' : Nat → Obj} {w w' : World} {nx : Nat} {Q Q' : Nat → Prop} {P : Program} {C : Cfg} {L : Low}

theorem eval_evV (a : Act) : a.eval = evV a.tmps := funext fun x => by cases x <;> rfl

/-- The callers of a deferred call, that has recovered. -/
def csM : Pk → List Frame → List Frame
  | .dfr (some _) true, c :: rest => { c with mode := match c.mode with
      | .panicking (e :: older) => .panicking ({ e with recovered := true } :: older)
      | m => m } :: rest
  | _, cs => cs

def PkOK (M : Mem) (b : Frame) (cs : List Frame) : Pk → Prop
  | .no => b.kind = .normal ∧ b.roundOf = none
  | .rnd => b.kind = .normal ∧ b.roundOf ≠ none
  | .dfr none _ => b.kind = .deferred ∧ b.roundOf = none ∧ ∃ c rest, cs = c :: rest ∧ c.mode = .returning
  | .dfr (some v) _ => b.kind = .deferred ∧ b.roundOf = none ∧ ∃ c rest x, cs = c :: rest ∧ c.mode = .panicking [{ v := x, recovered := false }] ∧ VI M v x

theorem PkOK.mono {b : Frame} {cs : List Frame} {pk : Pk} (h : PkOK M b cs pk) (hm : M.le M') : PkOK M' b cs pk := by
  cases pk with
  | no => exact h
  | rnd => exact h
  | dfr m r => cases m with
    | none => exact h
    | some v => obtain ⟨h1, h2, c, rest, x, h3, h4, h5⟩ := h; exact ⟨h1, h2, c, rest, x, h3, h4, h5.mono hm⟩

section steps
variable {b : Frame} {a : Act} {k : List Item} {cs : List Frame} {ops : Array Oper} {i : Nat} {rest : List Nat} {o : Oper}

theorem finR (ho : ops[i]? = some o) (v : Value) : (b.atR a (.inRegion ops (i :: rest) :: k)).finish v = b.atR (a.put o.dst v) (.inRegion ops rest :: k) := by
  rw [Frame.finish_atR, ho]; rfl

theorem step_value {c : Value} {nxt : Next} (ho : ops[i]? = some o) (hw : Region.wanted o (yielded ops a.tmps) = true) (hd : ∀ c, o.op ≠ .defer c)
    (hr : (execOp (evV a.tmps) o).run P w = .ok nxt w') (hn : nxt = .value c ∨ nxt = .skip ∧ c = Go.undef) :
    step P (lone (b.atR a (.inRegion ops (i :: rest) :: k)) cs w) = .next (lone (b.atR (a.put o.dst c) (.inRegion ops rest :: k)) cs w') := by
  refine step_lone_go ?_
  rw [stepGR_op ho hw, Oper.semAt_eq _ _ _ hd, eval_evV, ← finR ho]
  rcases hn with rfl | ⟨rfl, rfl⟩ <;> simp [stepG.apply, hr]

theorem step_enter {f : FuncId} {args : Array Value} (ho : ops[i]? = some o) (hw : Region.wanted o (yielded ops a.tmps) = true) (hd : ∀ c, o.op ≠ .defer c)
    (hr : (execOp (evV a.tmps) o).run P w = .ok (.enter f args) w') :
    step P (lone (b.atR a (.inRegion ops (i :: rest) :: k)) cs w) = .next (lone (Frame.enter P f args .normal) (b.atR a (.inRegion ops (i :: rest) :: k) :: cs) w') := by
  refine step_lone_go ?_
  rw [stepGR_op ho hw, Oper.semAt_eq _ _ _ hd, eval_evV]
  simp [stepG.apply, hr, Frame.atR]

theorem step_round {l : Nat} {f : FuncId} {tmps : Array Value} {x y : Code} (ho : ops[i]? = some o) (hw : Region.wanted o (yielded ops a.tmps) = true) (hd : ∀ c, o.op ≠ .defer c)
    (hr : (execOp (evV a.tmps) o).run P w = .ok (.round l f tmps x y) w') :
    step P (lone (b.atR a (.inRegion ops (i :: rest) :: k)) cs w) = .next (lone (Frame.round l f tmps x y .normal) (b.atR a (.inRegion ops (i :: rest) :: k) :: cs) w') := by
  refine step_lone_go ?_
  rw [stepGR_op ho hw, Oper.semAt_eq _ _ _ hd, eval_evV]
  simp [stepG.apply, hr]

theorem step_deferOp {d : Deferred} (hb : b.roundOf = none) (ho : ops[i]? = some o) (hw : Region.wanted o (yielded ops a.tmps) = true)
    (hr : (execOp (evV a.tmps) o).run P w = .ok (.defer d) w') :
    step P (lone (b.atR a (.inRegion ops (i :: rest) :: k)) cs w) = .next (lone (b.atR ({ a with defers := d :: a.defers }.put o.dst undef) (.inRegion ops rest :: k)) cs w') := by
  refine step_lone_go ?_
  rw [stepGR_op ho hw, hb, Oper.semAt_none, eval_evV]
  have : ({ b.atR a (.inRegion ops (i :: rest) :: k) with defers := d :: a.defers } : Frame).finish undef =
      b.atR ({ a with defers := d :: a.defers }.put o.dst undef) (.inRegion ops rest :: k) := by
    have := finR (b := b) (a := { a with defers := d :: a.defers }) (k := k) (rest := rest) ho undef
    exact this
  simp only [stepG.apply, Sem.runT_eq, hr, GStep.bare_after]
  exact congrArg (fun fr => GStep.go { frame := fr, callers := cs, status := .running, dying := none } w') this

theorem step_panic {v : Value} (ho : ops[i]? = some o) (hw : Region.wanted o (yielded ops a.tmps) = true) (hd : ∀ c, o.op ≠ .defer c)
    (hr : (execOp (evV a.tmps) o).run P w = .halt (.panic v) w') :
    step P (lone (b.atR a (.inRegion ops (i :: rest) :: k)) cs w) = .next (lone { b.atR a (.inRegion ops (i :: rest) :: k) with mode := .panicking [{ v, recovered := false }] } cs w') := by
  refine step_lone_go ?_
  rw [stepGR_op ho hw, Oper.semAt_eq _ _ _ hd, eval_evV, ← Frame.raise_atR]
  simp [stepG.apply, hr]

theorem step_recoverOp {v : Value} {c : Frame} {cr : List Frame} (hb : b.roundOf = none) (hk : b.kind = .deferred) (hc : c.mode = .panicking [{ v, recovered := false }]) (ho : ops[i]? = some o) (hw : Region.wanted o (yielded ops a.tmps) = true)
    (hd : ∀ c, o.op ≠ .defer c) (hr : (execOp (evV a.tmps) o).run P w = .ok .recover w') :
    step P (lone (b.atR a (.inRegion ops (i :: rest) :: k)) (c :: cr) w) =
      .next (lone (b.atR (a.put o.dst v) (.inRegion ops rest :: k)) ({ c with mode := .panicking [{ v, recovered := true }] } :: cr) w') := by
  refine step_lone_go ?_
  rw [stepGR_op ho hw, Oper.semAt_eq _ _ _ hd, eval_evV, ← finR ho]
  simp [stepG.apply, hr, Frame.atR, hb, hk, hc, tryRecover]

theorem step_recoverNil {c : Frame} {cr : List Frame} (hb : b.roundOf = none) (hk : b.kind = .deferred) (hc : c.mode = .returning) (ho : ops[i]? = some o) (hw : Region.wanted o (yielded ops a.tmps) = true)
    (hd : ∀ c, o.op ≠ .defer c) (hr : (execOp (evV a.tmps) o).run P w = .ok .recover w') :
    step P (lone (b.atR a (.inRegion ops (i :: rest) :: k)) (c :: cr) w) = .next (lone (b.atR (a.put o.dst .nilIface) (.inRegion ops rest :: k)) (c :: cr) w') := by
  refine step_lone_go ?_
  rw [stepGR_op ho hw, Oper.semAt_eq _ _ _ hd, eval_evV, ← finR ho]
  simp [stepG.apply, hr, Frame.atR, hb, hk, hc, tryRecover]
end steps

end Go.Abs
