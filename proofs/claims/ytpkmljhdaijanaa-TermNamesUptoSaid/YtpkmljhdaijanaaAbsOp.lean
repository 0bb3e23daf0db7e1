/- The abstract interpreter: one operation. -/
import Derived.Test.YtpkmljhdaijanaaAbsPure
import Derived.Test.YtpkmljhdaijanaaAbsIter
namespace Go.Abs

variable {id : Nat}
variable {M M' : Mem} {ρ ρ' : Ref} {G G' : Nat → Obj} {w w' : World} {nx : Nat} {Q : Nat → Prop} {P : Program} {C : Cfg} {L : Low}

/-- An operation that is over in one step of its own. -/
def simple : Op → Bool
  | .panic _ | .defer _ => false
  | .call c => match c.callee with
    | .builtin .recover => false
    | .builtin _ => true
    | _ => false
  | _ => true

theorem parts_ok {tmps : Nat → AV} {arr : Array Value} (hT : TR M ρ G tmps arr) (ps : Array (Nat × Operand)) :
    Parts M ρ G (ps.toList.map fun p => (p.1, ev tmps p.2)) (ps.map fun (i, x) => (i, evV arr x)).toList := by
  refine ⟨by simp, fun k p q hp hq => ?_⟩
  simp only [Array.toList_map, List.getElem?_map, Option.map_eq_some_iff] at hp hq
  obtain ⟨a, ha, rfl⟩ := hp
  obtain ⟨b, hb, rfl⟩ := hq
  rw [ha] at hb
  cases hb
  exact ⟨rfl, hT.ev _⟩

theorem vl_ok {tmps : Nat → AV} {arr : Array Value} (hT : TR M ρ G tmps arr) (xs : Array Operand) : VL (VA M ρ G) (xs.toList.map (ev tmps)) (xs.map (evV arr)) := by
  refine ⟨by simp, fun i x hx => ?_⟩
  simp only [List.getElem?_map, Option.map_eq_some_iff] at hx
  obtain ⟨o, ho, rfl⟩ := hx
  have hi := (List.getElem?_eq_some_iff.1 ho).1
  have : at_ (xs.map (evV arr)) i = evV arr o := by
    have hlt : i < xs.size := by simpa using hi
    have e : xs[i] = o := by
      have := (List.getElem?_eq_some_iff.1 ho).2
      simpa using this
    simp [at_, Array.getD_eq_getD_getElem?, hlt, e]
  rw [this]
  exact hT.ev o

theorem Good.val {v : AV} {ups : List (Nat × U)} {s : Sem Value} (hI : Inv Q w M ρ G nx) (h : ups = [] ∧ ∃ u, s.run P w = .ok u w ∧ VA M ρ G v u) : Good id Q M ρ G nx w (updL G ups) v ((vNext s).run P w) := by
  obtain ⟨rfl, u, h1, h2⟩ := h
  exact Good.pure hI (run_vNext h1) h2

theorem arr1 {vs : Array Value} (h : vs.size = 1) : vs = #[at_ vs 0] := by
  apply Array.ext
  · simpa using h
  · intro i h1 h2
    obtain rfl : i = 0 := by simp at h2; omega
    simp [at_, Array.getD_eq_getD_getElem?, h1]

theorem arr2 {vs : Array Value} (h : vs.size = 2) : vs = #[at_ vs 0, at_ vs 1] := by
  apply Array.ext
  · simpa using h
  · intro i h1 h2
    have : i = 0 ∨ i = 1 := by simp at h2; omega
    rcases this with rfl | rfl <;> simp [at_, Array.getD_eq_getD_getElem?, h1]

theorem aBuiltin_ok {s : St} {id : Nat} {b : Builtin} {tys : Array TypeId} {ty : TypeId} {consts : Array Bool} {args : List AV} {vs : Array Value} {v : AV} {ups : List (Nat × U)} (hb : b ≠ .recover)
    (h : aBuiltin C s id b tys.toList args = some (.val v ups)) (hI : Inv Q w M ρ s.G nx) (hid : ρ id = none) (hlt : id < nx) (ha : VL (VA M ρ s.G) args vs) :
    Good id Q M ρ s.G nx w (updL s.G ups) v ((builtin b tys ty consts vs).run C.P w) := by
  have one : ∀ x, args = [x] → ∃ c, vs = #[c] ∧ VA M ρ s.G x c := fun x e => by
    subst e; exact ⟨_, arr1 (by have := ha.1; simpa using this.symm), ha.2 0 x rfl⟩
  have two : ∀ x y, args = [x, y] → ∃ c d, vs = #[c, d] ∧ VA M ρ s.G x c ∧ VA M ρ s.G y d := fun x y e => by
    subst e; exact ⟨_, _, arr2 (by have := ha.1; simpa using this.symm), ha.2 0 x rfl, ha.2 1 y rfl⟩
  unfold aBuiltin at h
  split at h
  · rename_i x
    obtain ⟨c, rfl, hx⟩ := one x rfl
    split at h
    · rename_i t htys
      obtain rfl : tys = #[t] := by apply Array.toList_inj.1; simpa using htys
      split at h
      · rename_i i hi
        split at h
        · rename_i n hn
          cases h
          exact Good.pure hI (run_vNext (lenA_ok hi hn hI hx)) (.imm _ _ (.int _ _))
        · cases h
      · cases h
    · cases h
  · rename_i k a kk b'
    obtain ⟨c, d, rfl, hx, hy⟩ := two _ _ rfl
    obtain rfl := hx.int_inv
    obtain rfl := hy.int_inv
    cases h
    refine Good.pure hI (run_vNext (c := .int k (if b' > a then b' else a)) ?_) (.imm _ _ (.int _ _))
    simp [Builtin.max_, Builtin.max2]
  · rename_i k a kk b'
    obtain ⟨c, d, rfl, hx, hy⟩ := two _ _ rfl
    obtain rfl := hx.int_inv
    obtain rfl := hy.int_inv
    cases h
    refine Good.pure hI (run_vNext (c := .int k (if b' < a then b' else a)) ?_) (.imm _ _ (.int _ _))
    simp [Builtin.min_, Builtin.min2]
  · rename_i a x
    obtain ⟨c, d, rfl, hx, hy⟩ := two _ _ rfl
    split at h
    · rename_i t u htys
      obtain rfl : tys = #[t, u] := by apply Array.toList_inj.1; simpa using htys
      exact aAppend_ok h hI hid hlt hx hy
    · cases h
  · exact absurd rfl hb
  · cases h

theorem opA_simple {s : St} {id : Nat} {o : Oper} {v : AV} {ups : List (Nat × U)} {arr : Array Value} (hs : simple o.op = true) (h : opA C L id s o.op = some (.val v ups)) (hI : Inv Q w M ρ s.G nx) (hid : ρ id = none) (hlt : id < nx)
    (hT : TR M ρ s.G s.tmps arr) : Good id Q M ρ s.G nx w (updL s.G ups) v ((execOp (evV arr) o).run C.P w) := by
  obtain ⟨dst, op, ty, pos, aft, gd⟩ := o
  simp only at hs h
  unfold opA at h
  unfold execOp
  cases op with
  | move x => cases h; exact Good.pure hI rfl (hT.ev x)
  | assign x => cases h; exact Good.pure hI rfl (hT.ev x)
  | pick c a b =>
    simp only at h
    split at h
    · rename_i t hc
      cases h
      have := hT.ev c
      rw [hc] at this
      have e := this.bool_inv
      refine Good.pure hI (c := if t then evV arr a else evV arr b) ?_ ?_
      · simp [e, asBool]
      · cases t
        · exact hT.ev b
        · exact hT.ev a
    · cases h
  | alloc t => exact aAlloc_ok h hI hid hlt
  | box t x => exact aBox_ok h hI hid hlt (hT.ev x)
  | build t ps => exact Good.val hI (aBuild_ok h (parts_ok hT ps))
  | buildSlice t n ps => exact aBuildSlice_ok h hI hid hlt (parts_ok hT ps)
  | makeSlice t l c => exact aMakeSlice_ok h hI hid hlt (hT.ev l) (hT.ev c)
  | load t a => exact Good.val hI (aLoad_ok h hI (hT.ev a))
  | store t a x => exact aStore_ok h hI (hT.ev a) (hT.ev x)
  | nilCheck x =>
    have hx := hT.ev x
    simp only at h ⊢
    generalize ev s.tmps x = ax at h hx
    generalize evV arr x = cx at hx ⊢
    unfold aNilCheck at h
    split at h
    · cases h; cases hx; exact Good.pure hI rfl (.ptr _ _ _ (by assumption))
    · cases h
      have hx' := hx
      have := hx.imm_inv
      cases this
      exact Good.pure hI rfl hx'
    · cases h
      have hx' := hx
      have := hx.imm_inv
      cases this
      rename_i f cap vs hl h'
      refine Good.pure hI (c := .func f #[] vs) ?_ hx'
      cases f <;> rfl
    · cases h
      have hx' := hx
      cases hx
      rename_i f cap vs hl h'
      refine Good.pure hI (c := .func f #[] vs) ?_ hx'
      cases f <;> rfl
    · cases h
      have hx' := hx
      cases hx
      exact Good.pure hI rfl hx'
    · cases h
  | binOp op t x y z =>
    simp only at h
    split at h
    · rename_i v' hv
      cases h
      exact Good.val hI ⟨rfl, binA_ok hv (hT.ev x) (hT.ev y)⟩
    · cases h
  | unOp op t x =>
    simp only at h
    split at h
    · rename_i v' hv
      cases h
      exact Good.val hI ⟨rfl, unA_ok hv (hT.ev x)⟩
    · cases h
  | convert a b x => exact Good.val hI (aConvert_ok h hI (hT.ev x))
  | makeInterface t x => exact Good.val hI (aMakeInterface_ok h (hT.ev x))
  | makeFunc f first cap =>
    simp only at h
    split at h
    · rename_i h0
      cases h
      have : first.map (evV arr) = #[] := Array.eq_empty_of_size_eq_zero (by simpa using h0)
      refine Good.pure hI (c := .func f #[] (cap.map (evV arr))) ?_ (VA_mkFn (vl_ok hT cap))
      show (vNext (Instr.makeFunc f (first.map (evV arr)) (cap.map (evV arr)))).run C.P w = _
      rw [this]
      rfl
    · cases h
  | makeMap t r =>
    cases r with
    | some _ => simp at h
    | none =>
      simp only at h
      cases h
      exact makeMap_ok hI hid hlt
  | fieldAddr t x f => exact Good.val hI (aFieldAddr_ok h (hT.ev x))
  | indexAddr t x ix => exact Good.val hI (aIndexAddr_ok h hI (hT.ev x) (hT.ev ix))
  | index t x ix => exact Good.val hI (aIndex_ok h (hT.ev x) (hT.ev ix))
  | lookup t m k ok => exact Good.val hI (lookA_ok h hI (hT.ev m) (hT.ev k))
  | mapUpdate t m k x => exact aMapUpdate_ok h hI (hT.ev m) (hT.ev k) (hT.ev x)
  | insert t m k x => exact aMapUpdate_ok h hI (hT.ev m) (hT.ev k) (hT.ev x)
  | extract x i => exact Good.val hI (aExtract_ok h (hT.ev x))
  | range t x => exact aRange_ok h hI hid hlt (hT.ev x)
  | next x b => exact aNext_ok h hI (hT.ev x)
  | entry x => exact Good.val hI (aEntry_ok h hI (hT.ev x))
  | slice t x lo hi mx =>
    cases mx with
    | some _ => simp at h
    | none => exact aSlice_ok h hI hT
  | typeAssert x t' t ok => exact Good.val hI (aTypeAssert_ok h (hT.ev x))
  | call c =>
    obtain ⟨callee, args, ats⟩ := c
    cases callee with
    | builtin b =>
      simp only at h
      have hb : b ≠ .recover := fun e => by subst e; simp [simple] at hs
      have key := fun consts => aBuiltin_ok (w := w) (ty := ty) (consts := consts) hb h hI hid hlt (vl_ok hT args)
      simp only [resolve, invoke, pure_bind]
      exact key _
    | _ => simp [simple] at hs
  | _ => simp [simple] at hs h

end Go.Abs
