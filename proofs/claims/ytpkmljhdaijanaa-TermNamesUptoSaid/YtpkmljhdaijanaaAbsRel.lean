/- The abstract interpreter: what abstract values and states say of the machine's. -/
import Derived.Test.YtpkmljhdaijanaaAbsRun
import Derived.Below
import Derived.Laws.AppendOwn
namespace Go.Abs

/-- Memory that doesn't change: blocks and what they hold. -/
abbrev Mem := Nat → Option Go.Obj

def at_ (vs : Array Value) (i : Nat) : Value := vs.getD i Go.undef

def VL {α : Type} (P : α → Value → Prop) (l : List α) (vs : Array Value) : Prop :=
  l.length = vs.size ∧ ∀ (i : Nat) x, l[i]? = some x → P x (at_ vs i)

/-- A row of elements, each of so many cells, from a place on. -/
structure Lay {α : Type} (cells : α → List α) (P : α → Value → Prop) (sz off : Nat) (xs : List α) (cs : Array Value) : Prop where
  len : ∀ (i : Nat) x, xs[i]? = some x → (cells x).length = sz
  fit : off + xs.length * sz ≤ cs.size
  cell : ∀ (i : Nat) x (j : Nat) y, xs[i]? = some x → (cells x)[j]? = some y → P y (at_ cs (off + i * sz + j))

/-- A map's entries are told apart by when they were made, and none is of later. -/
def Born (es : Array MapEntry) (clk : Nat) : Prop := (∀ x ∈ es.toList, x.born < clk) ∧ (es.toList.map (·.born)).Nodup

inductive VI (M : Mem) : IV → Value → Prop where
  | bool (b) : VI M (.bool b) (.bool b)
  | int (k n) : VI M (.int k n) (.int k n)
  | str (s) : VI M (.str s) (.string s)
  | nil : VI M (.lst []) (.slice none 0 0)
  | empty (a : Addr) (c) : VI M (.lst []) (.slice (some a) 0 c)
  | lst (xs b off c cs e fr sz) (h0 : xs ≠ []) (hc : xs.length ≤ c) (h : M b = some (.cells cs e fr)) (hs : 0 < sz)
      (h1 : ∀ (i : Nat) x, xs[i]? = some x → (IV.cells x).length = sz) (h2 : off + xs.length * sz ≤ cs.size)
      (hl : ∀ (i : Nat) x (j : Nat) y, xs[i]? = some x → (IV.cells x)[j]? = some y → VI M y (at_ cs (off + i * sz + j))) :
      VI M (.lst xs) (.slice (some ⟨b, off, none⟩) xs.length c)
  | agg (xs) (vs : Array Value) (h : xs.length = vs.size) (hl : ∀ (i : Nat) x, xs[i]? = some x → VI M x (at_ vs i)) : VI M (.agg xs) (.agg vs)
  | tup (xs) (vs : Array Value) (h : xs.length = vs.size) (hl : ∀ (i : Nat) x, xs[i]? = some x → VI M x (at_ vs i)) : VI M (.tup xs) (.tuple vs)
  | fptr (cs off b vs e fr o0) (h : M b = some (.cells vs e fr)) (h2 : o0 + cs.length ≤ vs.size) (hl : ∀ (j : Nat) y, cs[j]? = some y → VI M y (at_ vs (o0 + j))) :
      VI M (.fptr cs off) (.pointer (some ⟨b, o0 + off, none⟩))
  | eptr (xs i off b vs e fr o0 sz) (h : M b = some (.cells vs e fr)) (hs : 0 < sz)
      (h1 : ∀ (i : Nat) x, xs[i]? = some x → (IV.cells x).length = sz) (h2 : o0 + xs.length * sz ≤ vs.size)
      (hl : ∀ (i : Nat) x (j : Nat) y, xs[i]? = some x → (IV.cells x)[j]? = some y → VI M y (at_ vs (o0 + i * sz + j))) :
      VI M (.eptr xs i off) (.pointer (some ⟨b, o0 + i * sz + off, none⟩))
  | nilp : VI M .nilp (.pointer none)
  | nilfn : VI M .nilfn .nilFunc
  | nilmap : VI M .nilmap (.map none)
  | niliface : VI M .niliface .nilIface
  | iface (t x v) (h : VI M x v) : VI M (.iface t x) (.iface t v)
  | fn (f cap) (vs : Array Value) (h : cap.length = vs.size) (hl : ∀ (i : Nat) x, cap[i]? = some x → VI M x (at_ vs i)) : VI M (.fn f cap) (.func f #[] vs)
  | fmp (ks vs b es clk) (h : M b = some (.map es clk)) (hk : ks.length = es.size) (hv : vs.length = es.size)
      (hks : ∀ (i : Nat) x, ks[i]? = some x → VI M x (es.getD i default).key) (hvs : ∀ (i : Nat) x, vs[i]? = some x → VI M x (es.getD i default).val) (hbn : Born es clk) :
      VI M (.fmp ks vs) (.map (some b))

def Mem.le (M M' : Mem) : Prop := ∀ b o, M b = some o → M' b = some o

theorem Mem.le_refl (M : Mem) : M.le M := fun _ _ h => h
theorem Mem.le_trans {A B C : Mem} (h : A.le B) (k : B.le C) : A.le C := fun b o e => k b o (h b o e)

theorem VI.mono {M M' : Mem} (hm : M.le M') {x : IV} {v : Value} (h : VI M x v) : VI M' x v := by
  induction h with
  | bool => exact .bool _
  | int => exact .int _ _
  | str => exact .str _
  | nil => exact .nil
  | empty => exact .empty _ _
  | lst xs b off c cs e fr sz h0 hc h hs h1 h2 _ ih => exact .lst xs b off c cs e fr sz h0 hc (hm _ _ h) hs h1 h2 ih
  | agg xs vs h _ ih => exact .agg xs vs h ih
  | tup xs vs h _ ih => exact .tup xs vs h ih
  | fptr cs off b vs e fr o0 h h2 _ ih => exact .fptr cs off b vs e fr o0 (hm _ _ h) h2 ih
  | eptr xs i off b vs e fr o0 sz h hs h1 h2 _ ih => exact .eptr xs i off b vs e fr o0 sz (hm _ _ h) hs h1 h2 ih
  | nilp => exact .nilp
  | nilfn => exact .nilfn
  | nilmap => exact .nilmap
  | niliface => exact .niliface
  | iface t x v _ ih => exact .iface t x v ih
  | fn f cap vs h _ ih => exact .fn f cap vs h ih
  | fmp ks vs b es clk h hk hv _ _ hbn ih1 ih2 => exact .fmp ks vs b es clk (hm _ _ h) hk hv ih1 ih2 hbn

/-- What is small leads to no memory. -/
theorem VI.any {M : Mem} {x : IV} {v : Value} (h : VI M x v) (hs : x.scalar = true) (M' : Mem) : VI M' x v := by
  have key : ∀ l : List IV, IV.scalars l = true → ∀ (i : Nat) x, l[i]? = some x → x.scalar = true := by
    intro l
    induction l with
    | nil => intro _ i x hx; simp at hx
    | cons y r ih =>
      intro hl i x hx
      simp only [IV.scalars, Bool.and_eq_true] at hl
      cases i with
      | zero => simp at hx; exact hx ▸ hl.1
      | succ i => exact ih hl.2 i x (by simpa using hx)
  induction h with
  | bool => exact .bool _
  | int => exact .int _ _
  | str => exact .str _
  | agg xs vs h _ ih => exact .agg xs vs h fun i x hx => ih i x hx (key _ (by simpa [IV.scalar] using hs) i x hx)
  | tup xs vs h _ ih => exact .tup xs vs h fun i x hx => ih i x hx (key _ (by simpa [IV.scalar] using hs) i x hx)
  | nilp => exact .nilp
  | nilfn => exact .nilfn
  | nilmap => exact .nilmap
  | niliface => exact .niliface
  | iface t x v _ ih => exact .iface t x v (ih (by simpa [IV.scalar] using hs))
  | _ => simp [IV.scalar] at hs

abbrev Ref := Nat → Option Value

inductive VA (M : Mem) (ρ : Ref) (G : Nat → Obj) : AV → Value → Prop where
  | imm (x v) (h : VI M x v) : VA M ρ G (.imm x) v
  | undef (v) : VA M ρ G .undef v
  | nils : VA M ρ G .nils (.slice none 0 0)
  | ptr (o off b) (h : ρ o = some (.pointer (some ⟨b, 0, none⟩))) : VA M ρ G (.ptr o off) (.pointer (some ⟨b, off, none⟩))
  | row (o n a l c) (hb : ρ o ≠ none) (h : ∀ et sz xs fr, G o = .row et sz xs fr → n ≤ xs.length ∧ (n = xs.length → ρ o = some (.slice a l c))) : VA M ρ G (.row o n) (.slice a l c)
  | rptr (o n i off b f) (hb : ρ o ≠ none)
      (h : ∀ et sz xs fr, G o = .row et sz xs fr → n ≤ xs.length ∧ (n = xs.length → ∃ l c, ρ o = some (.slice (some ⟨b, 0, none⟩) l c) ∧ f = i * sz + off)) :
      VA M ρ G (.rptr o n i off) (.pointer (some ⟨b, f, none⟩))
  | map (o b) (h : ρ o = some (.map (some b))) : VA M ρ G (.map o) (.map (some b))
  | yld (o l) (h : ρ o = some (.func (.yield l) #[] #[])) : VA M ρ G (.yld o) (.func (.yield l) #[] #[])
  | fn (f cap) (vs : Array Value) (h : cap.length = vs.size) (hl : ∀ (i : Nat) x, cap[i]? = some x → VA M ρ G x (at_ vs i)) : VA M ρ G (.fn f cap) (.func f #[] vs)
  | agg (xs) (vs : Array Value) (h : xs.length = vs.size) (hl : ∀ (i : Nat) x, xs[i]? = some x → VA M ρ G x (at_ vs i)) : VA M ρ G (.agg xs) (.agg vs)
  | tup (xs) (vs : Array Value) (h : xs.length = vs.size) (hl : ∀ (i : Nat) x, xs[i]? = some x → VA M ρ G x (at_ vs i)) : VA M ρ G (.tup xs) (.tuple vs)

/-- How what is known grows. -/
structure Ev (M : Mem) (ρ : Ref) (G : Nat → Obj) (M' : Mem) (ρ' : Ref) (G' : Nat → Obj) : Prop where
  mem : M.le M'
  ref : ∀ o v, ρ o = some v → ρ' o = some v ∨ (∃ a l c, v = .slice a l c) ∧ ρ' o ≠ none
  row : ∀ o, ρ o ≠ none → ∀ et sz xs fr, G' o = .row et sz xs fr → ∃ xs0 fr0, G o = .row et sz xs0 fr0 ∧ xs0.length ≤ xs.length ∧ (xs0.length = xs.length → ρ' o = ρ o)

theorem Ev.refl (M : Mem) (ρ : Ref) (G : Nat → Obj) : Ev M ρ G M ρ G := ⟨Mem.le_refl M, fun _ _ h => .inl h, fun _ _ _ _ xs fr h => ⟨xs, fr, h, Nat.le_refl _, fun _ => rfl⟩⟩

theorem Ev.born {M M' : Mem} {ρ ρ' : Ref} {G G' : Nat → Obj} (h : Ev M ρ G M' ρ' G') {o : Nat} (hb : ρ o ≠ none) : ρ' o ≠ none := by
  cases e : ρ o with
  | none => exact absurd e hb
  | some v => rcases h.ref o v e with h | ⟨_, h⟩
              · rw [h]; simp
              · exact h

theorem Ev.trans {A B C : Mem} {ρ ρ1 ρ2 : Ref} {G G1 G2 : Nat → Obj} (h : Ev A ρ G B ρ1 G1) (k : Ev B ρ1 G1 C ρ2 G2) : Ev A ρ G C ρ2 G2 := by
  refine ⟨Mem.le_trans h.mem k.mem, fun o v e => ?_, fun o hb et sz xs fr e => ?_⟩
  · rcases h.ref o v e with h1 | ⟨h1, h2⟩
    · exact k.ref o v h1
    · exact .inr ⟨h1, k.born h2⟩
  · obtain ⟨x1, f1, e1, l1, p1⟩ := k.row o (h.born hb) et sz xs fr e
    obtain ⟨x0, f0, e0, l0, p0⟩ := h.row o hb et sz x1 f1 e1
    exact ⟨x0, f0, e0, Nat.le_trans l0 l1, fun hq => (p1 (by omega)).trans (p0 (by omega))⟩

theorem VA.mono {M M' : Mem} {ρ ρ' : Ref} {G G' : Nat → Obj} (hv : Ev M ρ G M' ρ' G') {x : AV} {v : Value} (h : VA M ρ G x v) : VA M' ρ' G' x v := by
  induction h with
  | imm x v h => exact .imm x v (h.mono hv.mem)
  | undef => exact .undef _
  | nils => exact .nils
  | ptr o off b h =>
    refine .ptr o off b ?_
    rcases hv.ref _ _ h with h | ⟨⟨a, l, c, h⟩, _⟩
    · exact h
    · cases h
  | row o n a l c hb h =>
    refine .row o n a l c (hv.born hb) fun et sz xs fr e => ?_
    obtain ⟨x0, f0, e0, l0, p0⟩ := hv.row o hb et sz xs fr e
    obtain ⟨h1, h2⟩ := h et sz x0 f0 e0
    exact ⟨by omega, fun hq => (p0 (by omega)).trans (h2 (by omega))⟩
  | rptr o n i off b f hb h =>
    refine .rptr o n i off b f (hv.born hb) fun et sz xs fr e => ?_
    obtain ⟨x0, f0, e0, l0, p0⟩ := hv.row o hb et sz xs fr e
    obtain ⟨h1, h2⟩ := h et sz x0 f0 e0
    exact ⟨by omega, fun hq => by rw [p0 (by omega)]; exact h2 (by omega)⟩
  | map o b h =>
    refine .map o b ?_
    rcases hv.ref _ _ h with h | ⟨⟨a, l, c, h⟩, _⟩
    · exact h
    · cases h
  | yld o l h =>
    refine .yld o l ?_
    rcases hv.ref _ _ h with h | ⟨⟨a, l, c, h⟩, _⟩
    · exact h
    · cases h
  | fn f cap vs h _ ih => exact .fn f cap vs h ih
  | agg xs vs h _ ih => exact .agg xs vs h ih
  | tup xs vs h _ ih => exact .tup xs vs h ih

/-- The block that a live object owns. -/
def blk : Value → Option Nat
  | .pointer (some a) => some a.block
  | .slice (some a) _ _ => some a.block
  | .map (some b) => some b
  | .func (.yield l) _ _ => some l
  | _ => none

/-- A row's cells are those of its elements. -/
structure RowIs (M : Mem) (ρ : Ref) (G : Nat → Obj) (sz : Nat) (xs : List AV) (cs : List Value) : Prop where
  fit : ∀ x ∈ xs, x.fits sz = true
  cell : ∀ (i : Nat) x (j : Nat) y, xs[i]? = some x → x.cells[j]? = some y → VA M ρ G y (cs.getD (i * sz + j) Go.undef)

/-- A loop's record. -/
structure LoopIs (M : Mem) (ρ : Ref) (G : Nat → Obj) (tmps : Nat → AV) (nt : Nat) (params : List Nat) (assign body : Code) (fn : FuncId) (st : Nat) (pending : Option Code) (r : Loop) : Prop where
  tmps : ∀ t, VA M ρ G (tmps t) (r.tmps.getD t Go.undef)
  size : r.tmps.size = nt
  params : r.params.toList = params
  assign : r.assign = assign
  body : r.body = body
  fn : r.fn = fn
  state : (st = 0 ∧ r.state = .ready) ∨ (st = 1 ∧ r.state = .busy) ∨ (st = 2 ∧ r.state = .done)
  pending : r.pending = pending

/-- What an object is in memory. -/
def ObjOK (w : World) (M : Mem) (ρ : Ref) (G : Nat → Obj) (o : Nat) : Prop :=
  match G o with
  | .gone => True
  | .box cs fr => ∃ b vs e, ρ o = some (.pointer (some ⟨b, 0, none⟩)) ∧ w.heap[b]? = some (.cells vs e (0, 0)) ∧ VL (VA M ρ G) cs vs ∧ (fr = true → M b ≠ none)
  | .row et sz xs fr => 0 < sz ∧ ∃ v cs, ρ o = some v ∧ w.ownsRow 0 et sz v xs.length cs ∧ RowIs M ρ G sz xs cs ∧ (fr = true → ∀ b, blk v = some b → M b ≠ none)
  | .mp ks vs fr => ∃ b es clk, ρ o = some (.map (some b)) ∧ w.heap[b]? = some (.map es clk) ∧ ks.length = es.size ∧ vs.length = es.size ∧
      (∀ (i : Nat) x, ks[i]? = some x → VI M x (es.getD i default).key) ∧ (∀ (i : Nat) x, vs[i]? = some x → VA M ρ G x (es.getD i default).val) ∧ (fr = true → M b ≠ none) ∧ Born es clk
  | .it ks vs done => ∃ r, ρ o = some (.pointer (some ⟨r, 0, none⟩)) ∧ ((w.heap[r]? = some (.mapIter none 0 #[] 0) ∧ ks = []) ∨ ∃ bm es clk seen, w.heap[r]? = some (.mapIter (some bm) clk seen clk) ∧ M bm = some (.map es clk) ∧ Born es clk ∧
      ks.length = es.size ∧ vs.length = es.size ∧ es.size ≤ 1 ∧ (∀ (i : Nat) x, ks[i]? = some x → VI M x (es.getD i default).key) ∧ (∀ (i : Nat) x, vs[i]? = some x → VI M x (es.getD i default).val) ∧
      (done = false → seen = #[]) ∧ (done = true → ∃ e, es = #[e] ∧ seen = #[e.born]))
  | .lp tmps nt params assign body fn st pending => ∃ l r, ρ o = some (.func (.yield l) #[] #[]) ∧ w.heap[l]? = some (.loop r) ∧ LoopIs M ρ G tmps nt params assign body fn st pending r

def Obj.live : Obj → Bool
  | .gone => false
  | _ => true

structure Inv (Q : Nat → Prop) (w : World) (M : Mem) (ρ : Ref) (G : Nat → Obj) (nx : Nat) : Prop where
  mem : ∀ b o, M b = some o → w.heap[b]? = some o
  obj : ∀ o, ObjOK w M ρ G o
  free : ∀ o, nx ≤ o → ρ o = none
  gone : ∀ o, ρ o = none → G o = .gone
  sep : ∀ o o' v v' b, (G o).live = true → (G o').live = true → ρ o = some v → ρ o' = some v' → blk v = some b → blk v' = some b → o = o'
  own : ∀ o v b, (G o).live = true → (G o).frozen = false → ρ o = some v → blk v = some b → M b = none ∧ Q b
  new : ∀ b, w.heap.size ≤ b → Q b

/-- How the world may change. -/
structure WS (Q : Nat → Prop) (w w' : World) : Prop where
  os : w'.os = w.os
  tape : w'.tape = w.tape
  output : w'.output = w.output
  size : w.heap.size ≤ w'.heap.size
  block : ∀ b, ¬ Q b → w'.heap[b]? = w.heap[b]?

theorem WS.refl (Q : Nat → Prop) (w : World) : WS Q w w := ⟨rfl, rfl, rfl, Nat.le_refl _, fun _ _ => rfl⟩
theorem WS.trans {Q : Nat → Prop} {a b c : World} (h : WS Q a b) (k : WS Q b c) : WS Q a c :=
  ⟨k.os.trans h.os, k.tape.trans h.tape, k.output.trans h.output, Nat.le_trans h.size k.size, fun i hi => (k.block i hi).trans (h.block i hi)⟩

end Go.Abs
