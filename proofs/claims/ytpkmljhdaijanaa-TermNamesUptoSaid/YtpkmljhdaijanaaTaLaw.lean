/- From what is reckoned to the machine; and to the given rows. -/
import Derived.Test.YtpkmljhdaijanaaTaSorted
import Derived.Test.YtpkmljhdaijanaaRows
import Derived.ProofKit
import Derived.OpenShut
import Derived.JoinedCond
import Derived.Carry
open Go Go.Abs Go.RowKit Go.ChangeShapes Go.WideShapes Go.ChangeAt
namespace Go.Abs

theorem cfgOK : CfgOK CC where
  mixed := by kernel_rfl
  ng := by
    intro f fn hf hb
    have hall : CC.P.funcs.all (fun fn => !(fn.body.isSome && fn.name == "runtime.NumGoroutine")) = true := by kernel_rfl
    rw [Array.all_eq_true_iff_forall_mem] at hall
    have := hall fn (Array.mem_of_getElem? hf)
    rw [hb] at this
    simpa using this
  orc := orcOK

theorem peek_bool {G : Nat → Obj} {k : Nat} {v : AV} {b : Bool} {ids : List Nat} (h : peek G k v = some (.bool b, ids)) : v = .imm (.bool b) := by
  cases k with
  | zero => cases v <;> simp [peek] at h; exact congrArg AV.imm h.1
  | succ k =>
    cases v with
    | imm x => simp [peek] at h; exact congrArg AV.imm h.1
    | nils => simp [peek] at h
    | undef => simp [peek] at h
    | rptr => simp [peek] at h
    | yld => simp [peek] at h
    | _ =>
      simp only [peek] at h
      (repeat' split at h) <;> simp at h

/-- **A law that is reckoned to be true, is.** -/
theorem calls_of_ret {f : FuncId} {ivs : List IV} {b : Bool} (h : Ret CC f ivs (.bool b)) {M : Mem} {w : World} {vs : Array Value} (hm : ∀ b o, M b = some o → w.heap[b]? = some o) (hv : VL (VI M) ivs vs) :
    Calls Go.Proofs.Try.prog f vs w fun e w' => e = .returned (.bool b) ∧ Below w.heap.size w w' := by
  obtain ⟨n, v, G', nx', pk', ids, h1, h2⟩ := h
  have hb := peek_bool h2
  subst hb
  exact run_bool (C := CC) (n := n) (G := G') (nx := nx') cfgOK (by unfold run; rw [h1]; rfl) hm hv

/-- All arguments read as they did. -/
theorem below_all {H : Type} {enc : TypeId × Value → H} {P : Program} (hl : laidOutB P = true) {W W' : World} (hb : Below W.heap.size W W') : ∀ (ts : List TypeId) (vs : List Value) (ds : List (DataW H)) (ps : List MemPlace),
    (ts.all fun t => P.readableRec t && decide (t < P.types.size)) = true → DataW.TrodAll enc P W 0 (fun _ => true) true ts vs ds ps → (∀ x ∈ ps, x.block < W.heap.size) → DataW.TrodAll enc P W' 0 (fun b => decide (b < W.heap.size)) true ts vs ds ps
  | [], vs, ds, ps, _, h, _ => by
    obtain ⟨rfl, rfl, rfl⟩ := trodAll_nil h
    exact trodAll_mk0
  | t :: ts, vs, ds, ps, hr, h, hlt => by
    obtain ⟨v, vs', d, ds', p, q, rfl, rfl, rfl, h1, h2⟩ := trodAll_cons h
    rw [List.all_cons, Bool.and_eq_true, Bool.and_eq_true] at hr
    exact trodAll_cons_mk (Below.trod hl hr.1.1 (of_decide_eq_true hr.1.2) h1 hb fun x hx => hlt x (by simp [hx])) (below_all hl hb ts vs' ds' q hr.2 h2 fun x hx => hlt x (by simp [hx]))

theorem own : ownKnob Go.Proofs.Try.prog.godebug = none := by kernel_rfl
theorem laidOut : laidOutB Go.Proofs.Try.prog = true := by kernel_rfl

/-- What a law's call leaves, as its row asks. -/
theorem law_post {H : Type} {enc : TypeId × Value → H} {f : Func} {s : ChangeSpec} {W W' : World} {args : Array Value} {ds gs : List (DataW H)} {before : List MemPlace} (hW : DataW.Whole enc Go.Proofs.Try.prog f.params.toList s.vars false W args.toList ds gs before)
    (hres : f.resultTypes = #[4]) (hsv : s.vars = []) (hr : (s.fn H (ds ++ gs)).results = [.lit (.bool true)]) (ha : (s.fn H (ds ++ gs)).args = ds) (hvs : (s.fn H (ds ++ gs)).vars = [])
    (hread : (f.params.toList.all fun t => Go.Proofs.Try.prog.readableRec t && decide (t < Go.Proofs.Try.prog.types.size)) = true) (hb : Below W.heap.size W W') :
    s.post enc Go.Proofs.Try.prog f false true false false W args (.bool true) W' := by
  have hW' := hW
  obtain ⟨p, q, hA, hV, rfl, hfz, hnd⟩ := hW
  rw [hsv] at hV
  obtain ⟨rfl, rfl⟩ := trodVars_none hV
  have hlt : ∀ x ∈ p, x.block < W.heap.size := fun x hx => by simpa using hW'.lt x (by simp [hx])
  refine ⟨ds, [], p ++ [], [], p, [], hW', ?_, ?_, ?_, hb.frame _, fun h => by cases h⟩
  · rw [hr, hres]
    exact trodAll_cons_mk (shut_bool Go.Proofs.Try.underlying4 _) trodAll_mk0
  · rw [ha]
    exact below_all laidOut hb _ _ _ _ hread hA hlt
  · rw [hvs, hsv]
    exact rfl
end Go.Abs
