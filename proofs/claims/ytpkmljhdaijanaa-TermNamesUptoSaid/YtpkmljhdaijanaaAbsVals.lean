/- The abstract interpreter: values, types, operands. -/
import Derived.Test.YtpkmljhdaijanaaAbsInv
import Derived.Laws.Cells
import Derived.Laws.Rows
import Derived.Laws.Alloc2
import Derived.Laws.Entries
import Derived.Laws.Append
import Derived.Laws.AppendOwn
namespace Go.Abs

variable {M M' : Mem} {ρ ρ' : Ref} {G G' : Nat → Obj} {w w' : World} {nx : Nat} {Q : Nat → Prop} {P : Program}

/-! ### cells -/
theorem VI.cells {x : IV} {v : Value} (h : VI M x v) : VL (VI M) x.cells v.cells := by
  cases h with
  | agg xs vs h hl => exact ⟨h, hl⟩
  | _ =>
    refine ⟨rfl, fun i y hy => ?_⟩
    cases i with
    | zero => simp [IV.cells] at hy; subst hy; simp only [at_, Value.cells]; first | exact .bool _ | exact .int _ _ | exact .str _ | exact .nil | exact .empty _ _ _ | constructor <;> assumption
    | succ i => simp [IV.cells] at hy

theorem VA.one {x : AV} {v : Value} (h : VA M ρ G x v) (h1 : x.one = true) : v.oneCell' = true := by
  cases h with
  | imm x v h => cases h <;> first | rfl | simp [AV.one] at h1
  | undef => simp [AV.one] at h1
  | agg => simp [AV.one] at h1
  | tup => simp [AV.one] at h1
  | _ => rfl

theorem AV.fits_len {x : AV} {n : Nat} (h : x.fits n = true) : x.cells.length = n := by simp [AV.fits] at h; exact h.1
theorem AV.fits_one {x : AV} {n : Nat} (h : x.fits n = true) : ∀ y ∈ x.cells, y.one = true := by simp [AV.fits] at h; exact h.2

theorem VA.cells {x : AV} {v : Value} (h : VA M ρ G x v) {n : Nat} (hf : x.fits n = true) : VL (VA M ρ G) x.cells v.cells := by
  have h1 := AV.fits_one hf
  cases h with
  | imm x v h =>
    have hc := h.cells
    cases x with
    | agg cs => simp only [AV.cells]; exact ⟨by simpa [IV.cells] using hc.1, fun i y hy => by
        rw [List.getElem?_map] at hy
        cases e : cs[i]? with
        | none => rw [e] at hy; cases hy
        | some z => rw [e] at hy; cases hy; exact .imm _ _ (hc.2 i z e)⟩
    | _ =>
      refine ⟨by simpa [AV.cells, IV.cells] using hc.1, fun i y hy => ?_⟩
      cases i with
      | zero => simp [AV.cells] at hy; subst hy; exact .imm _ _ (hc.2 0 _ (by simp [IV.cells]))
      | succ i => simp [AV.cells] at hy
  | undef => simp [AV.cells, AV.one] at h1
  | agg xs vs h hl => exact ⟨h, hl⟩
  | tup xs vs h hl => simp [AV.cells, AV.one] at h1
  | nils => exact ⟨rfl, fun i y hy => by cases i with
      | zero => simp [AV.cells] at hy; subst hy; exact .nils
      | succ i => simp [AV.cells] at hy⟩
  | ptr o off b h => exact ⟨rfl, fun i y hy => by cases i with
      | zero => simp [AV.cells] at hy; subst hy; exact .ptr o off b h
      | succ i => simp [AV.cells] at hy⟩
  | row o n a l c hb h => exact ⟨rfl, fun i y hy => by cases i with
      | zero => simp [AV.cells] at hy; subst hy; exact .row o n a l c hb h
      | succ i => simp [AV.cells] at hy⟩
  | rptr o n i off b f hb h => exact ⟨rfl, fun i y hy => by cases i with
      | zero => simp [AV.cells] at hy; subst hy; exact .rptr o n _ off b f hb h
      | succ i => simp [AV.cells] at hy⟩
  | map o b h => exact ⟨rfl, fun i y hy => by cases i with
      | zero => simp [AV.cells] at hy; subst hy; exact .map o b h
      | succ i => simp [AV.cells] at hy⟩
  | yld o l h => exact ⟨rfl, fun i y hy => by cases i with
      | zero => simp [AV.cells] at hy; subst hy; exact .yld o l h
      | succ i => simp [AV.cells] at hy⟩
  | fn f cap vs h hl => exact ⟨rfl, fun i y hy => by cases i with
      | zero => simp [AV.cells] at hy; subst hy; exact .fn f cap vs h hl
      | succ i => simp [AV.cells] at hy⟩

theorem VL.one {l : List AV} {vs : Array Value} (h : VL (VA M ρ G) l vs) (h1 : ∀ y ∈ l, y.one = true) : ∀ v ∈ vs, v.oneCell' = true := by
  intro v hv
  obtain ⟨i, hi, rfl⟩ := Array.mem_iff_getElem.1 hv
  have hl : i < l.length := by rw [h.1]; exact hi
  have := h.2 i l[i] (List.getElem?_eq_getElem hl)
  have e : at_ vs i = vs[i] := by simp [at_, Array.getD_eq_getD_getElem?, hi]
  rw [e] at this
  exact this.one (h1 _ (List.getElem_mem hl))

theorem VA.imm_inv {x : IV} {c : Value} (h : VA M ρ G (.imm x) c) : VI M x c := by cases h with | imm _ _ h => exact h
theorem VA.int_inv {k : IntKind} {n : Int} {c : Value} (h : VA M ρ G (.imm (.int k n)) c) : c = .int k n := by have h := h.imm_inv; cases h; rfl
theorem VA.bool_inv {b : Bool} {c : Value} (h : VA M ρ G (.imm (.bool b)) c) : c = .bool b := by have h := h.imm_inv; cases h; rfl
theorem VA.str_inv {s : ByteArray} {c : Value} (h : VA M ρ G (.imm (.str s)) c) : c = .string s := by have h := h.imm_inv; cases h; rfl

theorem allImm_some {cs : List AV} {l : List IV} (h : allImm cs = some l) : cs = l.map .imm := by
  induction cs generalizing l with
  | nil => simp [allImm] at h; subst h; rfl
  | cons v r ih =>
    cases v <;> simp only [allImm, Option.map_eq_some_iff, reduceCtorEq] at h
    obtain ⟨a, ha, rfl⟩ := h
    rw [ih ha]; rfl

theorem VL_imm {l : List IV} {vs : Array Value} (h : VL (VA M ρ G) (l.map .imm) vs) : VL (VI M) l vs := by
  refine ⟨by simpa using h.1, fun i x hx => ?_⟩
  have := h.2 i (.imm x) (by simp [hx])
  cases this; assumption

theorem VA_mkAgg {cs : List AV} {vs : Array Value} (h : VL (VA M ρ G) cs vs) : VA M ρ G (mkAgg cs) (.agg vs) := by
  unfold mkAgg
  cases e : allImm cs with
  | none => exact .agg cs vs h.1 h.2
  | some l => rw [allImm_some e] at h; have := VL_imm h; exact .imm _ _ (.agg l vs this.1 this.2)

theorem VA_mkTup {cs : List AV} {vs : Array Value} (h : VL (VA M ρ G) cs vs) : VA M ρ G (mkTup cs) (.tuple vs) := by
  unfold mkTup
  cases e : allImm cs with
  | none => exact .tup cs vs h.1 h.2
  | some l => rw [allImm_some e] at h; have := VL_imm h; exact .imm _ _ (.tup l vs this.1 this.2)

theorem VA_mkFn {f : Fn} {cs : List AV} {vs : Array Value} (h : VL (VA M ρ G) cs vs) : VA M ρ G (mkFn f cs) (.func f #[] vs) := by
  unfold mkFn
  cases e : allImm cs with
  | none => exact .fn f cs vs h.1 h.2
  | some l => rw [allImm_some e] at h; have := VL_imm h; exact .imm _ _ (.fn f l vs this.1 this.2)

/-! ### constants -/
theorem VA_cv1 (v : Value) : VA M ρ G (cv1 v) v := by
  unfold cv1
  split
  · exact .imm _ _ (.bool _)
  · exact .imm _ _ (.int _ _)
  · exact .imm _ _ (.str _)
  · exact .nils
  · exact .imm _ _ .nilp
  · exact .imm _ _ .nilmap
  · exact .imm _ _ .nilfn
  · exact .imm _ _ .niliface
  · exact .undef _

theorem at_toList {vs : Array Value} {i : Nat} {z : Value} (e : vs.toList[i]? = some z) : at_ vs i = z := by
  have e' : vs[i]? = some z := by rw [← Array.getElem?_toList]; exact e
  simp [at_, Array.getD_eq_getD_getElem?, e']

theorem VL_cv1 (vs : Array Value) : VL (VA M ρ G) (vs.toList.map cv1) vs := by
  refine ⟨by simp, fun i x hx => ?_⟩
  rw [List.getElem?_map] at hx
  cases e : vs.toList[i]? with
  | none => rw [e] at hx; cases hx
  | some z => rw [e] at hx; cases hx; rw [at_toList e]; exact VA_cv1 z

theorem cv_agg (cs : Array Value) : cv (.agg cs) = mkAgg (cs.toList.map cv1) := rfl
theorem cv_other {v : Value} (h : ∀ cs, v ≠ .agg cs) : cv v = cv1 v := by
  cases v <;> first | rfl | exact absurd rfl (h _)

theorem VA_cv (v : Value) : VA M ρ G (cv v) v := by
  by_cases h : ∃ cs, v = .agg cs
  · obtain ⟨cs, rfl⟩ := h
    rw [cv_agg]; exact VA_mkAgg (VL_cv1 cs)
  · rw [cv_other fun cs e => h ⟨cs, e⟩]; exact VA_cv1 v

theorem cells_mkAgg (l : List AV) : (mkAgg l).cells = l := by
  unfold mkAgg
  cases e : allImm l with
  | none => rfl
  | some x => simp only [AV.cells]; exact (allImm_some e).symm

theorem cells_one {a : AV} (h1 : ∀ l, a ≠ .imm (.agg l)) (h2 : ∀ l, a ≠ .agg l) : a.cells = [a] := by
  cases a with
  | imm x => cases x <;> first | rfl | exact absurd rfl (h1 _)
  | agg l => exact absurd rfl (h2 l)
  | _ => rfl

theorem cv1_not (v : Value) : (∀ l, cv1 v ≠ .imm (.agg l)) ∧ (∀ l, cv1 v ≠ .agg l) := by
  unfold cv1
  split <;> exact ⟨fun l => by simp, fun l => by simp⟩

theorem cells_cv (v : Value) : (cv v).cells.length = v.cells.size ∧ VL (VA M ρ G) (cv v).cells v.cells := by
  by_cases h : ∃ cs, v = .agg cs
  · obtain ⟨cs, rfl⟩ := h
    rw [cv_agg, cells_mkAgg]; exact ⟨by simp [Value.cells], VL_cv1 cs⟩
  · have hn : ∀ cs, v ≠ .agg cs := fun cs e => h ⟨cs, e⟩
    have hv : v.cells = #[v] := by cases v <;> first | rfl | exact absurd rfl (hn _)
    rw [cv_other hn, cells_one (cv1_not v).1 (cv1_not v).2, hv]
    refine ⟨rfl, rfl, fun i x hx => ?_⟩
    cases i with
    | zero => simp at hx; subst hx; exact VA_cv1 v
    | succ i => simp at hx

/-! ### operands -/
def evV (arr : Array Value) : Operand → Value
  | .tmp t => arr.getD t Go.undef
  | .const v => v
  | .global g => .pointer (some ⟨g, 0, none⟩)
  | .func f => .func (.func f) #[] #[]

def TR (M : Mem) (ρ : Ref) (G : Nat → Obj) (tmps : Nat → AV) (arr : Array Value) : Prop := ∀ t, VA M ρ G (tmps t) (arr.getD t Go.undef)

theorem TR.ev {tmps : Nat → AV} {arr : Array Value} (h : TR M ρ G tmps arr) (x : Operand) : VA M ρ G (ev tmps x) (evV arr x) := by
  cases x with
  | tmp t => exact h t
  | const v => exact VA_cv v
  | global g => exact .undef _
  | func f => exact .imm _ _ (.fn _ _ _ rfl (fun i x hx => by simp at hx))

theorem TR.mono {tmps : Nat → AV} {arr : Array Value} (h : TR M ρ G tmps arr) (hv : Ev M ρ G M' ρ' G') : TR M' ρ' G' tmps arr := fun t => (h t).mono hv

/-! ### types -/
theorem tyOf_some {t : TypeId} {i : TyI} (h : tyOf P t = some i) :
    ∃ info zv d, P.info? t = some info ∧ P.underlying t = some d ∧ info.zero = some zv ∧ fieldsOk P d = true ∧ i.d = tyd P d ∧ i.sz = info.size ∧ i.bytes = info.bytes ∧ i.zero = cv zv := by
  unfold tyOf at h
  split at h
  · rename_i info d h1 h2
    split at h
    · rename_i zv h3 h4
      cases h
      exact ⟨info, zv, d, h1, h2, h3, h4, rfl, rfl, rfl, rfl⟩
    · cases h
  · cases h

theorem run_typeInfo' {t : TypeId} {info : TypeInfo} (h : P.info? t = some info) : (typeInfo t).run P w = .ok info w := by simp [typeInfo, h]
theorem run_sizeOf' {t : TypeId} {info : TypeInfo} (h : P.info? t = some info) : (sizeOf t).run P w = .ok info.size w := by simp [sizeOf, run_typeInfo' h]
theorem run_underlying' {t : TypeId} {d : TypeDesc} (h : P.underlying t = some d) : (underlying t).run P w = .ok d w := by simp [underlying, h]
theorem run_zeroValue' {t : TypeId} {info : TypeInfo} {v : Value} (h : P.info? t = some info) (hz : info.zero = some v) : (zeroValue t).run P w = .ok v w := by simp [zeroValue, run_typeInfo' h, hz]
theorem run_isAgg' {t : TypeId} {d : TypeDesc} (h : P.underlying t = some d) : (isAgg t).run P w = .ok (tyd P d).isAgg w := by
  simp only [isAgg, Sem.run_bind, run_underlying' h, Result.andThen_ok]
  cases d <;> rfl

end Go.Abs
