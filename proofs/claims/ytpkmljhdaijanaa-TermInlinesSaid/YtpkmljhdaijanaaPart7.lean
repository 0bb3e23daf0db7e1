/- Programs as trees: terms, expressions, definitions. -/
import Derived.Test.YtpkmljhdaijanaaPart6
open Go Go.Abs
namespace Go.Abs
set_option maxRecDepth 100000

inductive Trm where
  | mk (op n : Int) (kids : List Trm)
inductive Exp where
  | mk (op : Int) (name : Str) (n fold : Int) (calcs : List Trm) (kids : List Exp)
structure Dfn where
  name : Str
  exp : Exp
structure Pgm where
  srcs : List Str
  defs : List Dfn

def Trm.op : Trm → Int
  | .mk o _ _ => o
def Trm.n : Trm → Int
  | .mk _ n _ => n
def Trm.kids : Trm → List Trm
  | .mk _ _ k => k
def Exp.op : Exp → Int
  | .mk o .. => o
def Exp.name : Exp → Str
  | .mk _ s .. => s
def Exp.n : Exp → Int
  | .mk _ _ n .. => n
def Exp.fold : Exp → Int
  | .mk _ _ _ f .. => f
def Exp.calcs : Exp → List Trm
  | .mk _ _ _ _ c _ => c
def Exp.kids : Exp → List Exp
  | .mk _ _ _ _ _ k => k

mutual
def Trm.iv : Trm → IV
  | .mk op n kids => .agg [.int .i64 op, .int .i64 n, .lst (Trm.ivs kids)]
def Trm.ivs : List Trm → List IV
  | [] => []
  | c :: r => c.iv :: Trm.ivs r
end
mutual
def Exp.iv : Exp → IV
  | .mk op name n fold calcs kids => .agg [.int .i64 op, sv name, .int .i64 n, .int .i64 fold, .lst (Trm.ivs calcs), .lst (Exp.ivs kids)]
def Exp.ivs : List Exp → List IV
  | [] => []
  | c :: r => c.iv :: Exp.ivs r
end
def Dfn.iv (d : Dfn) : IV := .agg (sv d.name :: d.exp.iv.cells)
def Pgm.iv (p : Pgm) : IV := .agg [.lst (p.srcs.map sv), .lst (p.defs.map Dfn.iv)]

theorem Trm.ivs_map : ∀ l, Trm.ivs l = l.map Trm.iv
  | [] => rfl
  | c :: r => by rw [Trm.ivs, Trm.ivs_map r]; rfl
theorem Exp.ivs_map : ∀ l, Exp.ivs l = l.map Exp.iv
  | [] => rfl
  | c :: r => by rw [Exp.ivs, Exp.ivs_map r]; rfl

def maxI : Nat := 9223372036854775807

/-- Lists and strings are no longer than the machine bears. -/
inductive Trm.Fits : Trm → Prop where
  | mk (op n kids) (h : kids.length ≤ maxI) (hk : ∀ k ∈ kids, Trm.Fits k) : Trm.Fits (.mk op n kids)
inductive Exp.Fits : Exp → Prop where
  | mk (op name n fold calcs kids) (hn : name.length ≤ maxI) (hw : (Lit.int .i64 n).wf = true) (hc : calcs.length ≤ maxI) (hk : kids.length ≤ maxI) (hcs : ∀ c ∈ calcs, Trm.Fits c) (hks : ∀ k ∈ kids, Exp.Fits k) : Exp.Fits (.mk op name n fold calcs kids)
structure Pgm.Fits (p : Pgm) : Prop where
  srcs : p.srcs.length ≤ maxI
  src : ∀ s ∈ p.srcs, s.length ≤ maxI
  defs : p.defs.length ≤ maxI
  name : ∀ d ∈ p.defs, d.name.length ≤ maxI
  exp : ∀ d ∈ p.defs, d.exp.Fits

theorem len3 {α : Type} {l : List α} (h : l.length = 3) : ∃ a b c, l = [a, b, c] := by
  match l, h with
  | [a, b, c], _ => exact ⟨a, b, c, rfl⟩
theorem len2 {α : Type} {l : List α} (h : l.length = 2) : ∃ a b, l = [a, b] := by
  match l, h with
  | [a, b], _ => exact ⟨a, b, rfl⟩
theorem len6 {α : Type} {l : List α} (h : l.length = 6) : ∃ a b c d e f, l = [a, b, c, d, e, f] := by
  match l, h with
  | [a, b, c, d, e, f], _ => exact ⟨a, b, c, d, e, f, rfl⟩

theorem list_of {α : Type} {f : α → IV} {p : α → Prop} : ∀ {xs : List IV}, (∀ x ∈ xs, ∃ a, x = f a ∧ p a) → ∃ l : List α, xs = l.map f ∧ ∀ a ∈ l, p a
  | [], _ => ⟨[], rfl, fun a h => by cases h⟩
  | x :: r, h => by
    obtain ⟨a, rfl, ha⟩ := h x (by simp)
    obtain ⟨l, rfl, hl⟩ := list_of (xs := r) fun y hy => h y (by simp [hy])
    exact ⟨a :: l, rfl, fun b hb => by rcases List.mem_cons.1 hb with rfl | hb
                                       · exact ha
                                       · exact hl b hb⟩

open Go.Proofs in
theorem shape_int {t : TypeId} {k : IntKind} {ivs : List IV} (hu : Try.prog.underlying t = some (.int k)) (h : Shape Try.prog t ivs) : ∃ n, ivs = [.int k n] ∧ (Lit.int k n).wf = true := by
  cases h with
  | int _ k' n h hw => rw [hu] at h; cases h; exact ⟨n, rfl, hw⟩
  | bool _ _ h => rw [hu] at h; cases h
  | str _ _ h => rw [hu] at h; cases h
  | sl _ _ _ h => rw [hu] at h; cases h
  | st _ _ _ h => rw [hu] at h; cases h
open Go.Proofs in
theorem shape_str {t : TypeId} {ivs : List IV} (hu : Try.prog.underlying t = some .string) (h : Shape Try.prog t ivs) : ∃ s : Str, ivs = [sv s] ∧ s.length ≤ maxI := by
  cases h with
  | int _ k' n h hw => rw [hu] at h; cases h
  | bool _ _ h => rw [hu] at h; cases h
  | str _ s h hl => exact ⟨s, rfl, hl⟩
  | sl _ _ _ h => rw [hu] at h; cases h
  | st _ _ _ h => rw [hu] at h; cases h
open Go.Proofs in
theorem shape_sl {t e : TypeId} {ivs : List IV} (hu : Try.prog.underlying t = some (.slice e)) (h : Shape Try.prog t ivs) : ∃ xs, ivs = [.lst xs] ∧ xs.length ≤ maxI ∧ (∀ x ∈ xs, Shape Try.prog e x.cells) ∧ (∀ x ∈ xs, isSt Try.prog e = true → ∃ cs, x = .agg cs) ∧ (∀ x ∈ xs, isSt Try.prog e = false → x.cells = [x]) := by
  cases h with
  | int _ k' n h hw => rw [hu] at h; cases h
  | bool _ _ h => rw [hu] at h; cases h
  | str _ s h hl => rw [hu] at h; cases h
  | sl _ e' xs h hl hx ha hn => rw [hu] at h; cases h; exact ⟨xs, rfl, hl, hx, ha, hn⟩
  | st _ _ _ h => rw [hu] at h; cases h
open Go.Proofs in
theorem shape_st {t : TypeId} {fs : Array Field} {ivs : List IV} (hu : Try.prog.underlying t = some (.struct fs)) (h : Shape Try.prog t ivs) : ∃ css : List (List IV), ivs = css.flatten ∧ css.length = fs.size ∧ ∀ (i : Nat) f cs, fs[i]? = some f → css[i]? = some cs → Shape Try.prog f.type cs := by
  cases h with
  | int _ k' n h hw => rw [hu] at h; cases h
  | bool _ _ h => rw [hu] at h; cases h
  | str _ s h hl => rw [hu] at h; cases h
  | sl _ e' xs h hl hx ha hn => rw [hu] at h; cases h
  | st _ fs' css h hl hc => rw [hu] at h; cases h; exact ⟨css, rfl, hl, hc⟩


open Go.Proofs in
/-- A term, as it is read. -/
theorem shape_trm {t : TypeId} {ivs : List IV} (h : Shape Try.prog t ivs) : (t = 123 → ∃ c : Trm, .agg ivs = c.iv ∧ c.Fits) ∧ (t = 57 → ∃ l : List Trm, ivs = [.lst (Trm.ivs l)] ∧ l.length ≤ maxI ∧ ∀ c ∈ l, c.Fits) := by
  induction h with
  | bool t b hu => exact ⟨(fun e => by subst e; rw [Try.underlying123] at hu; cases hu), (fun e => by subst e; rw [Try.underlying57] at hu; cases hu)⟩
  | int t k n hu => exact ⟨(fun e => by subst e; rw [Try.underlying123] at hu; cases hu), (fun e => by subst e; rw [Try.underlying57] at hu; cases hu)⟩
  | str t s hu => exact ⟨(fun e => by subst e; rw [Try.underlying123] at hu; cases hu), (fun e => by subst e; rw [Try.underlying57] at hu; cases hu)⟩
  | sl t e xs hu hl hx ha hn ih =>
    refine ⟨(fun e => by subst e; rw [Try.underlying123] at hu; cases hu), fun e => ?_⟩
    subst e
    rw [Try.underlying57] at hu
    cases hu
    obtain ⟨l, rfl, hl2⟩ := list_of (f := Trm.iv) (p := Trm.Fits) (xs := xs) fun x hxm => by
      obtain ⟨c, hc, hf⟩ := (ih x hxm).1 rfl
      obtain ⟨cs, rfl⟩ := ha x hxm (by kernel_rfl)
      exact ⟨c, hc, hf⟩
    exact ⟨l, by rw [Trm.ivs_map], (show l.length ≤ maxLen by simpa using hl), hl2⟩
  | st t fs css hu hl hc ih =>
    refine ⟨fun e => ?_, (fun e => by subst e; rw [Try.underlying57] at hu; cases hu)⟩
    subst e
    rw [Try.underlying123] at hu
    cases hu
    obtain ⟨a, b, c, rfl⟩ := len3 hl
    obtain ⟨op, rfl, _⟩ := shape_int Try.underlying121 (hc 0 _ _ rfl rfl)
    obtain ⟨n, rfl, _⟩ := shape_int Try.underlying3 (hc 1 _ _ rfl rfl)
    obtain ⟨l, rfl, h1, h2⟩ := (ih 2 _ _ rfl rfl).2 rfl
    exact ⟨.mk op n l, rfl, .mk op n l h1 h2⟩

open Go.Proofs in
theorem shape_exp {t : TypeId} {ivs : List IV} (h : Shape Try.prog t ivs) : (t = 59 → ∃ c : Exp, .agg ivs = c.iv ∧ c.Fits) ∧ (t = 50 → ∃ l : List Exp, ivs = [.lst (Exp.ivs l)] ∧ l.length ≤ maxI ∧ ∀ c ∈ l, c.Fits) := by
  induction h with
  | bool t b hu => exact ⟨(fun e => by subst e; rw [Try.underlying59] at hu; cases hu), (fun e => by subst e; rw [Try.underlying50] at hu; cases hu)⟩
  | int t k n hu => exact ⟨(fun e => by subst e; rw [Try.underlying59] at hu; cases hu), (fun e => by subst e; rw [Try.underlying50] at hu; cases hu)⟩
  | str t s hu => exact ⟨(fun e => by subst e; rw [Try.underlying59] at hu; cases hu), (fun e => by subst e; rw [Try.underlying50] at hu; cases hu)⟩
  | sl t e xs hu hl hx ha hn ih =>
    refine ⟨(fun e => by subst e; rw [Try.underlying59] at hu; cases hu), fun e => ?_⟩
    subst e
    rw [Try.underlying50] at hu
    cases hu
    obtain ⟨l, rfl, hl2⟩ := list_of (f := Exp.iv) (p := Exp.Fits) (xs := xs) fun x hxm => by
      obtain ⟨c, hc, hf⟩ := (ih x hxm).1 rfl
      obtain ⟨cs, rfl⟩ := ha x hxm (by kernel_rfl)
      exact ⟨c, hc, hf⟩
    exact ⟨l, by rw [Exp.ivs_map], (show l.length ≤ maxLen by simpa using hl), hl2⟩
  | st t fs css hu hl hc ih =>
    refine ⟨fun e => ?_, (fun e => by subst e; rw [Try.underlying50] at hu; cases hu)⟩
    subst e
    rw [Try.underlying59] at hu
    cases hu
    obtain ⟨a, b, c, d, e, f, rfl⟩ := len6 hl
    obtain ⟨op, rfl, _⟩ := shape_int Try.underlying55 (hc 0 _ _ rfl rfl)
    obtain ⟨s, rfl, hs⟩ := shape_str Try.underlying9 (hc 1 _ _ rfl rfl)
    obtain ⟨n, rfl, hn⟩ := shape_int Try.underlying3 (hc 2 _ _ rfl rfl)
    obtain ⟨fo, rfl, _⟩ := shape_int Try.underlying56 (hc 3 _ _ rfl rfl)
    obtain ⟨cl, rfl, g1, g2⟩ := (shape_trm (hc 4 _ _ rfl rfl)).2 rfl
    obtain ⟨l, rfl, h1, h2⟩ := (ih 5 _ _ rfl rfl).2 rfl
    exact ⟨.mk op s n fo cl l, rfl, .mk op s n fo cl l hs hn g1 h1 g2 h2⟩

open Go.Proofs in
theorem shape_strs {ivs : List IV} (h : Shape Try.prog 22 ivs) : ∃ l : List Str, ivs = [.lst (l.map sv)] ∧ l.length ≤ maxI ∧ ∀ s ∈ l, s.length ≤ maxI := by
  obtain ⟨xs, rfl, hl, hx, ha, hn⟩ := shape_sl Try.underlying22 h
  obtain ⟨l, rfl, hl2⟩ := list_of (f := sv) (p := fun s : Str => s.length ≤ maxI) (xs := xs) fun x hxm => by
    obtain ⟨s, h1, h2⟩ := shape_str Try.underlying9 (hx x hxm)
    have := hn x hxm (by kernel_rfl)
    rw [this] at h1
    exact ⟨s, by simpa using h1, h2⟩
  exact ⟨l, rfl, by simpa using hl, hl2⟩

open Go.Proofs in
theorem shape_ints {ivs : List IV} (h : Shape Try.prog 30 ivs) : ∃ l : List Int, ivs = [.lst (l.map (.int .i64))] ∧ l.length ≤ maxI ∧ ∀ n ∈ l, (Lit.int .i64 n).wf = true := by
  obtain ⟨xs, rfl, hl, hx, ha, hn⟩ := shape_sl Try.underlying30 h
  obtain ⟨l, rfl, hl2⟩ := list_of (f := fun n : Int => IV.int .i64 n) (p := fun n => (Lit.int .i64 n).wf = true) (xs := xs) fun x hxm => by
    obtain ⟨n, h1, h2⟩ := shape_int Try.underlying3 (hx x hxm)
    have := hn x hxm (by kernel_rfl)
    rw [this] at h1
    exact ⟨n, by simpa using h1, h2⟩
  exact ⟨l, rfl, by simpa using hl, hl2⟩

open Go.Proofs in
theorem shape_dfn {ivs : List IV} (h : Shape Try.prog 70 ivs) : ∃ d : Dfn, .agg ivs = d.iv ∧ d.name.length ≤ maxI ∧ d.exp.Fits := by
  obtain ⟨css, rfl, hl, hc⟩ := shape_st Try.underlying70 h
  obtain ⟨a, b, rfl⟩ := len2 hl
  obtain ⟨s, rfl, hs⟩ := shape_str Try.underlying9 (hc 0 _ _ rfl rfl)
  obtain ⟨e, he, hf⟩ := (shape_exp (hc 1 _ _ rfl rfl)).1 rfl
  refine ⟨⟨s, e⟩, ?_, hs, hf⟩
  unfold Dfn.iv
  rw [← he]
  simp [IV.cells]

open Go.Proofs in
theorem shape_pgm {ivs : List IV} (h : Shape Try.prog 29 ivs) : ∃ p : Pgm, .agg ivs = p.iv ∧ p.Fits := by
  obtain ⟨css, rfl, hl, hc⟩ := shape_st Try.underlying29 h
  obtain ⟨a, b, rfl⟩ := len2 hl
  obtain ⟨ss, rfl, h1, h2⟩ := shape_strs (hc 0 _ _ rfl rfl)
  obtain ⟨xs, rfl, hl2, hx, ha, hn⟩ := shape_sl Try.underlying27 (hc 1 _ _ rfl rfl)
  obtain ⟨ds, rfl, hd⟩ := list_of (f := Dfn.iv) (p := fun d : Dfn => d.name.length ≤ maxI ∧ d.exp.Fits) (xs := xs) fun x hxm => by
    obtain ⟨d, q1, q2⟩ := shape_dfn (hx x hxm)
    obtain ⟨cs, rfl⟩ := ha x hxm (by kernel_rfl)
    exact ⟨d, q1, q2⟩
  exact ⟨⟨ss, ds⟩, rfl, h1, h2, by simpa using hl2, fun d h => (hd d h).1, fun d h => (hd d h).2⟩

/-- The types of programs. -/
def pgmTypes : List TypeId := [3, 4, 5, 9, 22, 27, 29, 30, 50, 55, 56, 57, 59, 70, 121, 123]
theorem pgm_closed : closedS Go.Proofs.Try.prog pgmTypes = true := by kernel_rfl

/-- **A program, as it is read.** -/
theorem read_pgm {H : Type} {enc : TypeId × Value → H} {w : World} {held : Bool} {sp : Nat → Bool} {v : Value} {d : DataW H} {ps : List MemPlace} {b0 : Nat} (hv : Value.okWide Go.Proofs.Try.prog w .any b0 29 v) (h : DataW.Trod enc Go.Proofs.Try.prog w 0 sp held 29 v d ps) :
    ∃ p : Pgm, VI (heapM w) p.iv v ∧ p.Fits := by
  obtain ⟨n, hn⟩ := h
  obtain ⟨ivs, h1, h2, h3, h4⟩ := read_ok pgm_closed n 29 _ _ (by decide) hn
  obtain ⟨p, hp, hf⟩ := shape_pgm h4
  have hst : ∃ cs, v = .agg cs := by
    simp only [Value.okWide, Go.Proofs.Try.underlying29] at hv
    obtain ⟨cs, h, _⟩ := hv
    exact ⟨cs, h⟩
  obtain ⟨cs, rfl⟩ := hst
  refine ⟨p, ?_, hf⟩
  rw [← hp]
  refine .agg ivs cs (by simpa [Value.cells] using h1) fun i x hx => ?_
  have := h3 i x hx
  simpa [Value.cells, at_] using this
end Go.Abs

/- Names: which strings are names. -/
open Go Go.Abs
namespace Go.Abs
instance fnis69 : FnIs CC 69 := ⟨rfl, fun _ => rfl⟩
instance fnis70 : FnIs CC 70 := ⟨rfl, fun _ => rfl⟩
instance fnis39 : FnIs CC 39 := ⟨rfl, fun _ => rfl⟩
instance fnis42 : FnIs CC 42 := ⟨rfl, fun _ => rfl⟩
instance fnis38 : FnIs CC 38 := ⟨rfl, fun _ => rfl⟩
instance fnis40 : FnIs CC 40 := ⟨rfl, fun _ => rfl⟩
instance fnis10 : FnIs CC 10 := ⟨rfl, fun _ => rfl⟩
instance fnis11 : FnIs CC 11 := ⟨rfl, fun _ => rfl⟩
set_option maxRecDepth 100000
set_option maxHeartbeats 1000000

/-- Where a string stands in a list. -/
def idxFrom (l : List Str) (s : Str) (i : Nat) : Int :=
  match l with
  | [] => -1
  | x :: r => if (x == s) = true then i else idxFrom r s (i + 1)

theorem idxFrom_drop {l : List Str} {s x : Str} {i k : Nat} (h : l[i]? = some x) : idxFrom (l.drop i) s k = if (x == s) = true then (k : Int) else idxFrom (l.drop (i + 1)) s (k + 1) := by
  have : l.drop i = x :: l.drop (i + 1) := by
    rw [List.getElem?_eq_some_iff] at h
    obtain ⟨hi, rfl⟩ := h
    exact List.drop_eq_getElem_cons hi
  rw [this, idxFrom]

theorem idxFrom_nonneg (s : Str) : ∀ (l : List Str) (k : Nat), decide (idxFrom l s k ≥ 0) = l.contains s
  | [], k => rfl
  | x :: r, k => by
    unfold idxFrom
    rw [List.contains_cons]
    by_cases h : (x == s) = true
    · rw [if_pos h]
      have : (s == x) = true := by rw [beq_iff_eq] at h ⊢; exact h.symm
      rw [this]
      simp
    · rw [if_neg h, idxFrom_nonneg s r (k + 1)]
      have : (s == x) = false := by
        rw [← Bool.not_eq_true, beq_iff_eq]
        rw [beq_iff_eq] at h
        exact fun e => h e.symm
      rw [this, Bool.false_or]

theorem ret69 (l : List Str) (s : Str) (hl : l.length ≤ 9223372036854775807) : Ret CC 69 [.lst (l.map sv), sv s] (.int .i64 (idxFrom l s 0)) := by
  refine Ret.of (fn := Go.Proofs.Try.f69) (by kernel_rfl) rfl rfl ?_
  (repeat (first | (apply R.op0; (first | exact O.move rfl | exact O.assign rfl | exact O.fieldP rfl rfl rfl rfl | exact O.loadP rfl rfl rfl (by first | rfl | assumption) rfl | exact O.cmp rfl rfl rfl | exact O.int rfl rfl (add64 (by omega)) | exact O.int rfl rfl (sub64 (by omega)) | exact O.int rfl rfl (add8 (by omega)) | exact O.pickT rfl (by first | with_reducible rfl | with_reducible assumption | decide) rfl | exact O.pickF rfl (by first | with_reducible rfl | with_reducible assumption | decide) rfl | exact O.lenL rfl rfl | exact O.lenSv rfl rfl | exact O.lenS rfl rfl | exact O.not rfl | exact O.svEq rfl rfl | exact O.svNe rfl rfl | exact O.str rfl rfl rfl | exact O.boolEq rfl rfl rfl | exact O.fieldE rfl rfl rfl rfl | exact O.fieldR rfl rfl rfl rfl | exact O.loadPA rfl rfl (by first | rfl | assumption) rfl rfl | exact O.extr rfl rfl); exact rfl) | (apply R.guardT1; exact rfl; exact rfl; (first | with_reducible rfl | with_reducible assumption | decide)) | (apply R.guardT0; exact rfl; exact rfl; (first | with_reducible rfl | with_reducible assumption | decide)) | (apply R.guardF1; exact rfl; exact rfl; (first | with_reducible rfl | with_reducible assumption | decide); exact rfl) | (apply R.guardF0; exact rfl; exact rfl; (first | with_reducible rfl | with_reducible assumption | decide); exact rfl) | (apply R.guardN; exact rfl; exact rfl; exact rfl) | apply R.done | apply W.seq | apply W.region | apply W.draw | apply W.block | (apply W.condT; exact rfl; (first | with_reducible rfl | with_reducible assumption | decide)) | (apply W.condF; exact rfl; (first | with_reducible rfl | with_reducible assumption | decide)) | apply W.retAft | apply W.retBlk | apply W.retLop | apply W.exitAft | apply W.exitLop | apply W.exitBlk | (apply W.exitBlkNe; exact rfl) | apply W.skipAft | apply W.skipBlk | apply W.retCut | apply W.exitCut | apply R.skip))
  refine W.loop (X := Nat) (fun i => [(0, .imm (.lst (l.map sv))), (1, .imm (sv s)), (5, .imm (.int .i64 i))]) (fun i _ _ => i ≤ l.length ∧ idxFrom l s 0 = idxFrom (l.drop i) s i) (fun i => l.length - i) 0 (.cons rfl (.cons rfl (.cons rfl (.nil _)))) ⟨Nat.zero_le _, rfl⟩ ?_
  intro i nx G ⟨hi, he⟩
  (repeat (first | (apply R.op0; (first | exact O.move rfl | exact O.assign rfl | exact O.fieldP rfl rfl rfl rfl | exact O.loadP rfl rfl rfl (by first | rfl | assumption) rfl | exact O.cmp rfl rfl rfl | exact O.int rfl rfl (add64 (by omega)) | exact O.int rfl rfl (sub64 (by omega)) | exact O.int rfl rfl (add8 (by omega)) | exact O.pickT rfl (by first | with_reducible rfl | with_reducible assumption | decide) rfl | exact O.pickF rfl (by first | with_reducible rfl | with_reducible assumption | decide) rfl | exact O.lenL rfl rfl | exact O.lenSv rfl rfl | exact O.lenS rfl rfl | exact O.not rfl | exact O.svEq rfl rfl | exact O.svNe rfl rfl | exact O.str rfl rfl rfl | exact O.boolEq rfl rfl rfl | exact O.fieldE rfl rfl rfl rfl | exact O.fieldR rfl rfl rfl rfl | exact O.loadPA rfl rfl (by first | rfl | assumption) rfl rfl | exact O.extr rfl rfl); exact rfl) | (apply R.guardT1; exact rfl; exact rfl; (first | with_reducible rfl | with_reducible assumption | decide)) | (apply R.guardT0; exact rfl; exact rfl; (first | with_reducible rfl | with_reducible assumption | decide)) | (apply R.guardF1; exact rfl; exact rfl; (first | with_reducible rfl | with_reducible assumption | decide); exact rfl) | (apply R.guardF0; exact rfl; exact rfl; (first | with_reducible rfl | with_reducible assumption | decide); exact rfl) | (apply R.guardN; exact rfl; exact rfl; exact rfl) | apply R.done | apply W.seq | apply W.region | apply W.draw | apply W.block | (apply W.condT; exact rfl; (first | with_reducible rfl | with_reducible assumption | decide)) | (apply W.condF; exact rfl; (first | with_reducible rfl | with_reducible assumption | decide)) | apply W.retAft | apply W.retBlk | apply W.retLop | apply W.exitAft | apply W.exitLop | apply W.exitBlk | (apply W.exitBlkNe; exact rfl) | apply W.skipAft | apply W.skipBlk | apply W.retCut | apply W.exitCut | apply R.skip))
  refine W.cond rfl (fun hc => ?_) (fun hc => ?_)
  · have hlt : i < l.length := by have := of_decide_eq_true hc; rw [List.length_map] at this; omega
    obtain ⟨x, hx⟩ : ∃ x, l[i]? = some x := ⟨l[i], by simp [hlt]⟩
    rw [idxFrom_drop hx] at he
    (repeat (first | (apply R.op0; (first | exact O.move rfl | exact O.assign rfl | exact O.fieldP rfl rfl rfl rfl | exact O.loadP rfl rfl rfl (by first | rfl | assumption) rfl | exact O.cmp rfl rfl rfl | exact O.int rfl rfl (add64 (by omega)) | exact O.int rfl rfl (sub64 (by omega)) | exact O.int rfl rfl (add8 (by omega)) | exact O.pickT rfl (by first | with_reducible rfl | with_reducible assumption | decide) rfl | exact O.pickF rfl (by first | with_reducible rfl | with_reducible assumption | decide) rfl | exact O.lenL rfl rfl | exact O.lenSv rfl rfl | exact O.lenS rfl rfl | exact O.not rfl | exact O.svEq rfl rfl | exact O.svNe rfl rfl | exact O.str rfl rfl rfl | exact O.boolEq rfl rfl rfl | exact O.fieldE rfl rfl rfl rfl | exact O.fieldR rfl rfl rfl rfl | exact O.loadPA rfl rfl (by first | rfl | assumption) rfl rfl | exact O.extr rfl rfl); exact rfl) | (apply R.guardT1; exact rfl; exact rfl; (first | with_reducible rfl | with_reducible assumption | decide)) | (apply R.guardT0; exact rfl; exact rfl; (first | with_reducible rfl | with_reducible assumption | decide)) | (apply R.guardF1; exact rfl; exact rfl; (first | with_reducible rfl | with_reducible assumption | decide); exact rfl) | (apply R.guardF0; exact rfl; exact rfl; (first | with_reducible rfl | with_reducible assumption | decide); exact rfl) | (apply R.guardN; exact rfl; exact rfl; exact rfl) | apply R.done | apply W.seq | apply W.region | apply W.draw | apply W.block | (apply W.condT; exact rfl; (first | with_reducible rfl | with_reducible assumption | decide)) | (apply W.condF; exact rfl; (first | with_reducible rfl | with_reducible assumption | decide)) | apply W.retAft | apply W.retBlk | apply W.retLop | apply W.exitAft | apply W.exitLop | apply W.exitBlk | (apply W.exitBlkNe; exact rfl) | apply W.skipAft | apply W.skipBlk | apply W.retCut | apply W.exitCut | apply R.skip))
    refine R.op0 (O.addrL (u := sv x) rfl rfl rfl (by omega) (by simp [hx]) rfl) rfl ?_
    refine R.op0 (O.load1 (u := sv x) rfl (by simp [hx]) rfl rfl rfl) rfl ?_
    (repeat (first | (apply R.op0; (first | exact O.move rfl | exact O.assign rfl | exact O.fieldP rfl rfl rfl rfl | exact O.loadP rfl rfl rfl (by first | rfl | assumption) rfl | exact O.cmp rfl rfl rfl | exact O.int rfl rfl (add64 (by omega)) | exact O.int rfl rfl (sub64 (by omega)) | exact O.int rfl rfl (add8 (by omega)) | exact O.pickT rfl (by first | with_reducible rfl | with_reducible assumption | decide) rfl | exact O.pickF rfl (by first | with_reducible rfl | with_reducible assumption | decide) rfl | exact O.lenL rfl rfl | exact O.lenSv rfl rfl | exact O.lenS rfl rfl | exact O.not rfl | exact O.svEq rfl rfl | exact O.svNe rfl rfl | exact O.str rfl rfl rfl | exact O.boolEq rfl rfl rfl | exact O.fieldE rfl rfl rfl rfl | exact O.fieldR rfl rfl rfl rfl | exact O.loadPA rfl rfl (by first | rfl | assumption) rfl rfl | exact O.extr rfl rfl); exact rfl) | (apply R.guardT1; exact rfl; exact rfl; (first | with_reducible rfl | with_reducible assumption | decide)) | (apply R.guardT0; exact rfl; exact rfl; (first | with_reducible rfl | with_reducible assumption | decide)) | (apply R.guardF1; exact rfl; exact rfl; (first | with_reducible rfl | with_reducible assumption | decide); exact rfl) | (apply R.guardF0; exact rfl; exact rfl; (first | with_reducible rfl | with_reducible assumption | decide); exact rfl) | (apply R.guardN; exact rfl; exact rfl; exact rfl) | apply R.done | apply W.seq | apply W.region | apply W.draw | apply W.block | (apply W.condT; exact rfl; (first | with_reducible rfl | with_reducible assumption | decide)) | (apply W.condF; exact rfl; (first | with_reducible rfl | with_reducible assumption | decide)) | apply W.retAft | apply W.retBlk | apply W.retLop | apply W.exitAft | apply W.exitLop | apply W.exitBlk | (apply W.exitBlkNe; exact rfl) | apply W.skipAft | apply W.skipBlk | apply W.retCut | apply W.exitCut | apply R.skip))
    refine W.cond rfl (fun hc => ?_) (fun hc => ?_)
    · rw [if_pos hc] at he
      (repeat (first | (apply R.op0; (first | exact O.move rfl | exact O.assign rfl | exact O.fieldP rfl rfl rfl rfl | exact O.loadP rfl rfl rfl (by first | rfl | assumption) rfl | exact O.cmp rfl rfl rfl | exact O.int rfl rfl (add64 (by omega)) | exact O.int rfl rfl (sub64 (by omega)) | exact O.int rfl rfl (add8 (by omega)) | exact O.pickT rfl (by first | with_reducible rfl | with_reducible assumption | decide) rfl | exact O.pickF rfl (by first | with_reducible rfl | with_reducible assumption | decide) rfl | exact O.lenL rfl rfl | exact O.lenSv rfl rfl | exact O.lenS rfl rfl | exact O.not rfl | exact O.svEq rfl rfl | exact O.svNe rfl rfl | exact O.str rfl rfl rfl | exact O.boolEq rfl rfl rfl | exact O.fieldE rfl rfl rfl rfl | exact O.fieldR rfl rfl rfl rfl | exact O.loadPA rfl rfl (by first | rfl | assumption) rfl rfl | exact O.extr rfl rfl); exact rfl) | (apply R.guardT1; exact rfl; exact rfl; (first | with_reducible rfl | with_reducible assumption | decide)) | (apply R.guardT0; exact rfl; exact rfl; (first | with_reducible rfl | with_reducible assumption | decide)) | (apply R.guardF1; exact rfl; exact rfl; (first | with_reducible rfl | with_reducible assumption | decide); exact rfl) | (apply R.guardF0; exact rfl; exact rfl; (first | with_reducible rfl | with_reducible assumption | decide); exact rfl) | (apply R.guardN; exact rfl; exact rfl; exact rfl) | apply R.done | apply W.seq | apply W.region | apply W.draw | apply W.block | (apply W.condT; exact rfl; (first | with_reducible rfl | with_reducible assumption | decide)) | (apply W.condF; exact rfl; (first | with_reducible rfl | with_reducible assumption | decide)) | apply W.retAft | apply W.retBlk | apply W.retLop | apply W.exitAft | apply W.exitLop | apply W.exitBlk | (apply W.exitBlkNe; exact rfl) | apply W.skipAft | apply W.skipBlk | apply W.retCut | apply W.exitCut | apply R.skip))
      exact W.retFin1 rfl ⟨_, by rw [he]; rfl⟩
    · rw [if_neg (by simp [hc])] at he
      (repeat (first | (apply R.op0; (first | exact O.move rfl | exact O.assign rfl | exact O.fieldP rfl rfl rfl rfl | exact O.loadP rfl rfl rfl (by first | rfl | assumption) rfl | exact O.cmp rfl rfl rfl | exact O.int rfl rfl (add64 (by omega)) | exact O.int rfl rfl (sub64 (by omega)) | exact O.int rfl rfl (add8 (by omega)) | exact O.pickT rfl (by first | with_reducible rfl | with_reducible assumption | decide) rfl | exact O.pickF rfl (by first | with_reducible rfl | with_reducible assumption | decide) rfl | exact O.lenL rfl rfl | exact O.lenSv rfl rfl | exact O.lenS rfl rfl | exact O.not rfl | exact O.svEq rfl rfl | exact O.svNe rfl rfl | exact O.str rfl rfl rfl | exact O.boolEq rfl rfl rfl | exact O.fieldE rfl rfl rfl rfl | exact O.fieldR rfl rfl rfl rfl | exact O.loadPA rfl rfl (by first | rfl | assumption) rfl rfl | exact O.extr rfl rfl); exact rfl) | (apply R.guardT1; exact rfl; exact rfl; (first | with_reducible rfl | with_reducible assumption | decide)) | (apply R.guardT0; exact rfl; exact rfl; (first | with_reducible rfl | with_reducible assumption | decide)) | (apply R.guardF1; exact rfl; exact rfl; (first | with_reducible rfl | with_reducible assumption | decide); exact rfl) | (apply R.guardF0; exact rfl; exact rfl; (first | with_reducible rfl | with_reducible assumption | decide); exact rfl) | (apply R.guardN; exact rfl; exact rfl; exact rfl) | apply R.done | apply W.seq | apply W.region | apply W.draw | apply W.block | (apply W.condT; exact rfl; (first | with_reducible rfl | with_reducible assumption | decide)) | (apply W.condF; exact rfl; (first | with_reducible rfl | with_reducible assumption | decide)) | apply W.retAft | apply W.retBlk | apply W.retLop | apply W.exitAft | apply W.exitLop | apply W.exitBlk | (apply W.exitBlkNe; exact rfl) | apply W.skipAft | apply W.skipBlk | apply W.retCut | apply W.exitCut | apply R.skip))
      refine W.skipLop (i + 1) ?_ ?_ ⟨hlt, he⟩
      · show l.length - (i + 1) < l.length - i; omega
      · exact .cons rfl (.cons rfl (.cons rfl (.nil _)))
  · have hge : ¬ i < l.length := by have := of_decide_eq_false hc; rw [List.length_map] at this; omega
    have : l.drop i = [] := List.drop_eq_nil_of_le (by omega)
    (repeat (first | (apply R.op0; (first | exact O.move rfl | exact O.assign rfl | exact O.fieldP rfl rfl rfl rfl | exact O.loadP rfl rfl rfl (by first | rfl | assumption) rfl | exact O.cmp rfl rfl rfl | exact O.int rfl rfl (add64 (by omega)) | exact O.int rfl rfl (sub64 (by omega)) | exact O.int rfl rfl (add8 (by omega)) | exact O.pickT rfl (by first | with_reducible rfl | with_reducible assumption | decide) rfl | exact O.pickF rfl (by first | with_reducible rfl | with_reducible assumption | decide) rfl | exact O.lenL rfl rfl | exact O.lenSv rfl rfl | exact O.lenS rfl rfl | exact O.not rfl | exact O.svEq rfl rfl | exact O.svNe rfl rfl | exact O.str rfl rfl rfl | exact O.boolEq rfl rfl rfl | exact O.fieldE rfl rfl rfl rfl | exact O.fieldR rfl rfl rfl rfl | exact O.loadPA rfl rfl (by first | rfl | assumption) rfl rfl | exact O.extr rfl rfl); exact rfl) | (apply R.guardT1; exact rfl; exact rfl; (first | with_reducible rfl | with_reducible assumption | decide)) | (apply R.guardT0; exact rfl; exact rfl; (first | with_reducible rfl | with_reducible assumption | decide)) | (apply R.guardF1; exact rfl; exact rfl; (first | with_reducible rfl | with_reducible assumption | decide); exact rfl) | (apply R.guardF0; exact rfl; exact rfl; (first | with_reducible rfl | with_reducible assumption | decide); exact rfl) | (apply R.guardN; exact rfl; exact rfl; exact rfl) | apply R.done | apply W.seq | apply W.region | apply W.draw | apply W.block | (apply W.condT; exact rfl; (first | with_reducible rfl | with_reducible assumption | decide)) | (apply W.condF; exact rfl; (first | with_reducible rfl | with_reducible assumption | decide)) | apply W.retAft | apply W.retBlk | apply W.retLop | apply W.exitAft | apply W.exitLop | apply W.exitBlk | (apply W.exitBlkNe; exact rfl) | apply W.skipAft | apply W.skipBlk | apply W.retCut | apply W.exitCut | apply R.skip))
    exact W.retFin1 rfl ⟨_, by rw [he, this]; rfl⟩

theorem idxFrom_sym {x s : Str} : (x == s) = (s == x) := by
  rw [Bool.eq_iff_iff, beq_iff_eq, beq_iff_eq]; exact ⟨Eq.symm, Eq.symm⟩

theorem ret70 (l : List Str) (s : Str) (hl : l.length ≤ 9223372036854775807) : Ret CC 70 [.lst (l.map sv), sv s] (.int .i64 (idxFrom l s 0)) := by
  refine Ret.of (fn := Go.Proofs.Try.f70) (by kernel_rfl) rfl rfl ?_
  (repeat (first | (apply R.op0; (first | exact O.move rfl | exact O.assign rfl | exact O.fieldP rfl rfl rfl rfl | exact O.loadP rfl rfl rfl (by first | rfl | assumption) rfl | exact O.cmp rfl rfl rfl | exact O.int rfl rfl (add64 (by omega)) | exact O.int rfl rfl (sub64 (by omega)) | exact O.int rfl rfl (add8 (by omega)) | exact O.pickT rfl (by first | with_reducible rfl | with_reducible assumption | decide) rfl | exact O.pickF rfl (by first | with_reducible rfl | with_reducible assumption | decide) rfl | exact O.lenL rfl rfl | exact O.lenSv rfl rfl | exact O.lenS rfl rfl | exact O.not rfl | exact O.svEq rfl rfl | exact O.svNe rfl rfl | exact O.str rfl rfl rfl | exact O.boolEq rfl rfl rfl | exact O.fieldE rfl rfl rfl rfl | exact O.fieldR rfl rfl rfl rfl | exact O.loadPA rfl rfl (by first | rfl | assumption) rfl rfl | exact O.extr rfl rfl); exact rfl) | (apply R.guardT1; exact rfl; exact rfl; (first | with_reducible rfl | with_reducible assumption | decide)) | (apply R.guardT0; exact rfl; exact rfl; (first | with_reducible rfl | with_reducible assumption | decide)) | (apply R.guardF1; exact rfl; exact rfl; (first | with_reducible rfl | with_reducible assumption | decide); exact rfl) | (apply R.guardF0; exact rfl; exact rfl; (first | with_reducible rfl | with_reducible assumption | decide); exact rfl) | (apply R.guardN; exact rfl; exact rfl; exact rfl) | apply R.done | apply W.seq | apply W.region | apply W.draw | apply W.block | (apply W.condT; exact rfl; (first | with_reducible rfl | with_reducible assumption | decide)) | (apply W.condF; exact rfl; (first | with_reducible rfl | with_reducible assumption | decide)) | apply W.retAft | apply W.retBlk | apply W.retLop | apply W.exitAft | apply W.exitLop | apply W.exitBlk | (apply W.exitBlkNe; exact rfl) | apply W.skipAft | apply W.skipBlk | apply W.retCut | apply W.exitCut | apply R.skip))
  refine W.loop (X := Nat) (fun i => [(0, .imm (.lst (l.map sv))), (1, .imm (sv s)), (7, .imm (.int .i64 ((l.map sv).length : Nat))), (8, .imm (.int .i64 i))]) (fun i _ _ => i ≤ l.length ∧ idxFrom l s 0 = idxFrom (l.drop i) s i) (fun i => l.length - i) 0 (.cons rfl (.cons rfl (.cons rfl (.cons rfl (.nil _))))) ⟨Nat.zero_le _, rfl⟩ ?_
  intro i nx G ⟨hi, he⟩
  (repeat (first | (apply R.op0; (first | exact O.move rfl | exact O.assign rfl | exact O.fieldP rfl rfl rfl rfl | exact O.loadP rfl rfl rfl (by first | rfl | assumption) rfl | exact O.cmp rfl rfl rfl | exact O.int rfl rfl (add64 (by omega)) | exact O.int rfl rfl (sub64 (by omega)) | exact O.int rfl rfl (add8 (by omega)) | exact O.pickT rfl (by first | with_reducible rfl | with_reducible assumption | decide) rfl | exact O.pickF rfl (by first | with_reducible rfl | with_reducible assumption | decide) rfl | exact O.lenL rfl rfl | exact O.lenSv rfl rfl | exact O.lenS rfl rfl | exact O.not rfl | exact O.svEq rfl rfl | exact O.svNe rfl rfl | exact O.str rfl rfl rfl | exact O.boolEq rfl rfl rfl | exact O.fieldE rfl rfl rfl rfl | exact O.fieldR rfl rfl rfl rfl | exact O.loadPA rfl rfl (by first | rfl | assumption) rfl rfl | exact O.extr rfl rfl); exact rfl) | (apply R.guardT1; exact rfl; exact rfl; (first | with_reducible rfl | with_reducible assumption | decide)) | (apply R.guardT0; exact rfl; exact rfl; (first | with_reducible rfl | with_reducible assumption | decide)) | (apply R.guardF1; exact rfl; exact rfl; (first | with_reducible rfl | with_reducible assumption | decide); exact rfl) | (apply R.guardF0; exact rfl; exact rfl; (first | with_reducible rfl | with_reducible assumption | decide); exact rfl) | (apply R.guardN; exact rfl; exact rfl; exact rfl) | apply R.done | apply W.seq | apply W.region | apply W.draw | apply W.block | (apply W.condT; exact rfl; (first | with_reducible rfl | with_reducible assumption | decide)) | (apply W.condF; exact rfl; (first | with_reducible rfl | with_reducible assumption | decide)) | apply W.retAft | apply W.retBlk | apply W.retLop | apply W.exitAft | apply W.exitLop | apply W.exitBlk | (apply W.exitBlkNe; exact rfl) | apply W.skipAft | apply W.skipBlk | apply W.retCut | apply W.exitCut | apply R.skip))
  refine W.cond rfl (fun hc => ?_) (fun hc => ?_)
  · have hlt : i < l.length := by have := of_decide_eq_true hc; rw [List.length_map] at this; omega
    obtain ⟨x, hx⟩ : ∃ x, l[i]? = some x := ⟨l[i], by simp [hlt]⟩
    rw [idxFrom_drop hx, idxFrom_sym] at he
    (repeat (first | (apply R.op0; (first | exact O.move rfl | exact O.assign rfl | exact O.fieldP rfl rfl rfl rfl | exact O.loadP rfl rfl rfl (by first | rfl | assumption) rfl | exact O.cmp rfl rfl rfl | exact O.int rfl rfl (add64 (by omega)) | exact O.int rfl rfl (sub64 (by omega)) | exact O.int rfl rfl (add8 (by omega)) | exact O.pickT rfl (by first | with_reducible rfl | with_reducible assumption | decide) rfl | exact O.pickF rfl (by first | with_reducible rfl | with_reducible assumption | decide) rfl | exact O.lenL rfl rfl | exact O.lenSv rfl rfl | exact O.lenS rfl rfl | exact O.not rfl | exact O.svEq rfl rfl | exact O.svNe rfl rfl | exact O.str rfl rfl rfl | exact O.boolEq rfl rfl rfl | exact O.fieldE rfl rfl rfl rfl | exact O.fieldR rfl rfl rfl rfl | exact O.loadPA rfl rfl (by first | rfl | assumption) rfl rfl | exact O.extr rfl rfl); exact rfl) | (apply R.guardT1; exact rfl; exact rfl; (first | with_reducible rfl | with_reducible assumption | decide)) | (apply R.guardT0; exact rfl; exact rfl; (first | with_reducible rfl | with_reducible assumption | decide)) | (apply R.guardF1; exact rfl; exact rfl; (first | with_reducible rfl | with_reducible assumption | decide); exact rfl) | (apply R.guardF0; exact rfl; exact rfl; (first | with_reducible rfl | with_reducible assumption | decide); exact rfl) | (apply R.guardN; exact rfl; exact rfl; exact rfl) | apply R.done | apply W.seq | apply W.region | apply W.draw | apply W.block | (apply W.condT; exact rfl; (first | with_reducible rfl | with_reducible assumption | decide)) | (apply W.condF; exact rfl; (first | with_reducible rfl | with_reducible assumption | decide)) | apply W.retAft | apply W.retBlk | apply W.retLop | apply W.exitAft | apply W.exitLop | apply W.exitBlk | (apply W.exitBlkNe; exact rfl) | apply W.skipAft | apply W.skipBlk | apply W.retCut | apply W.exitCut | apply R.skip))
    refine R.op0 (O.addrL (u := sv x) rfl rfl rfl (by omega) (by simp [hx]) rfl) rfl ?_
    refine R.op0 (O.load1 (u := sv x) rfl (by simp [hx]) rfl rfl rfl) rfl ?_
    (repeat (first | (apply R.op0; (first | exact O.move rfl | exact O.assign rfl | exact O.fieldP rfl rfl rfl rfl | exact O.loadP rfl rfl rfl (by first | rfl | assumption) rfl | exact O.cmp rfl rfl rfl | exact O.int rfl rfl (add64 (by omega)) | exact O.int rfl rfl (sub64 (by omega)) | exact O.int rfl rfl (add8 (by omega)) | exact O.pickT rfl (by first | with_reducible rfl | with_reducible assumption | decide) rfl | exact O.pickF rfl (by first | with_reducible rfl | with_reducible assumption | decide) rfl | exact O.lenL rfl rfl | exact O.lenSv rfl rfl | exact O.lenS rfl rfl | exact O.not rfl | exact O.svEq rfl rfl | exact O.svNe rfl rfl | exact O.str rfl rfl rfl | exact O.boolEq rfl rfl rfl | exact O.fieldE rfl rfl rfl rfl | exact O.fieldR rfl rfl rfl rfl | exact O.loadPA rfl rfl (by first | rfl | assumption) rfl rfl | exact O.extr rfl rfl); exact rfl) | (apply R.guardT1; exact rfl; exact rfl; (first | with_reducible rfl | with_reducible assumption | decide)) | (apply R.guardT0; exact rfl; exact rfl; (first | with_reducible rfl | with_reducible assumption | decide)) | (apply R.guardF1; exact rfl; exact rfl; (first | with_reducible rfl | with_reducible assumption | decide); exact rfl) | (apply R.guardF0; exact rfl; exact rfl; (first | with_reducible rfl | with_reducible assumption | decide); exact rfl) | (apply R.guardN; exact rfl; exact rfl; exact rfl) | apply R.done | apply W.seq | apply W.region | apply W.draw | apply W.block | (apply W.condT; exact rfl; (first | with_reducible rfl | with_reducible assumption | decide)) | (apply W.condF; exact rfl; (first | with_reducible rfl | with_reducible assumption | decide)) | apply W.retAft | apply W.retBlk | apply W.retLop | apply W.exitAft | apply W.exitLop | apply W.exitBlk | (apply W.exitBlkNe; exact rfl) | apply W.skipAft | apply W.skipBlk | apply W.retCut | apply W.exitCut | apply R.skip))
    refine W.cond rfl (fun hc => ?_) (fun hc => ?_)
    · rw [if_pos hc] at he
      (repeat (first | (apply R.op0; (first | exact O.move rfl | exact O.assign rfl | exact O.fieldP rfl rfl rfl rfl | exact O.loadP rfl rfl rfl (by first | rfl | assumption) rfl | exact O.cmp rfl rfl rfl | exact O.int rfl rfl (add64 (by omega)) | exact O.int rfl rfl (sub64 (by omega)) | exact O.int rfl rfl (add8 (by omega)) | exact O.pickT rfl (by first | with_reducible rfl | with_reducible assumption | decide) rfl | exact O.pickF rfl (by first | with_reducible rfl | with_reducible assumption | decide) rfl | exact O.lenL rfl rfl | exact O.lenSv rfl rfl | exact O.lenS rfl rfl | exact O.not rfl | exact O.svEq rfl rfl | exact O.svNe rfl rfl | exact O.str rfl rfl rfl | exact O.boolEq rfl rfl rfl | exact O.fieldE rfl rfl rfl rfl | exact O.fieldR rfl rfl rfl rfl | exact O.loadPA rfl rfl (by first | rfl | assumption) rfl rfl | exact O.extr rfl rfl); exact rfl) | (apply R.guardT1; exact rfl; exact rfl; (first | with_reducible rfl | with_reducible assumption | decide)) | (apply R.guardT0; exact rfl; exact rfl; (first | with_reducible rfl | with_reducible assumption | decide)) | (apply R.guardF1; exact rfl; exact rfl; (first | with_reducible rfl | with_reducible assumption | decide); exact rfl) | (apply R.guardF0; exact rfl; exact rfl; (first | with_reducible rfl | with_reducible assumption | decide); exact rfl) | (apply R.guardN; exact rfl; exact rfl; exact rfl) | apply R.done | apply W.seq | apply W.region | apply W.draw | apply W.block | (apply W.condT; exact rfl; (first | with_reducible rfl | with_reducible assumption | decide)) | (apply W.condF; exact rfl; (first | with_reducible rfl | with_reducible assumption | decide)) | apply W.retAft | apply W.retBlk | apply W.retLop | apply W.exitAft | apply W.exitLop | apply W.exitBlk | (apply W.exitBlkNe; exact rfl) | apply W.skipAft | apply W.skipBlk | apply W.retCut | apply W.exitCut | apply R.skip))
      exact W.retFin1 rfl ⟨_, by rw [he]; rfl⟩
    · rw [if_neg (by simp [hc])] at he
      (repeat (first | (apply R.op0; (first | exact O.move rfl | exact O.assign rfl | exact O.fieldP rfl rfl rfl rfl | exact O.loadP rfl rfl rfl (by first | rfl | assumption) rfl | exact O.cmp rfl rfl rfl | exact O.int rfl rfl (add64 (by omega)) | exact O.int rfl rfl (sub64 (by omega)) | exact O.int rfl rfl (add8 (by omega)) | exact O.pickT rfl (by first | with_reducible rfl | with_reducible assumption | decide) rfl | exact O.pickF rfl (by first | with_reducible rfl | with_reducible assumption | decide) rfl | exact O.lenL rfl rfl | exact O.lenSv rfl rfl | exact O.lenS rfl rfl | exact O.not rfl | exact O.svEq rfl rfl | exact O.svNe rfl rfl | exact O.str rfl rfl rfl | exact O.boolEq rfl rfl rfl | exact O.fieldE rfl rfl rfl rfl | exact O.fieldR rfl rfl rfl rfl | exact O.loadPA rfl rfl (by first | rfl | assumption) rfl rfl | exact O.extr rfl rfl); exact rfl) | (apply R.guardT1; exact rfl; exact rfl; (first | with_reducible rfl | with_reducible assumption | decide)) | (apply R.guardT0; exact rfl; exact rfl; (first | with_reducible rfl | with_reducible assumption | decide)) | (apply R.guardF1; exact rfl; exact rfl; (first | with_reducible rfl | with_reducible assumption | decide); exact rfl) | (apply R.guardF0; exact rfl; exact rfl; (first | with_reducible rfl | with_reducible assumption | decide); exact rfl) | (apply R.guardN; exact rfl; exact rfl; exact rfl) | apply R.done | apply W.seq | apply W.region | apply W.draw | apply W.block | (apply W.condT; exact rfl; (first | with_reducible rfl | with_reducible assumption | decide)) | (apply W.condF; exact rfl; (first | with_reducible rfl | with_reducible assumption | decide)) | apply W.retAft | apply W.retBlk | apply W.retLop | apply W.exitAft | apply W.exitLop | apply W.exitBlk | (apply W.exitBlkNe; exact rfl) | apply W.skipAft | apply W.skipBlk | apply W.retCut | apply W.exitCut | apply R.skip))
      refine W.skipLop (i + 1) ?_ ?_ ⟨hlt, he⟩
      · show l.length - (i + 1) < l.length - i; omega
      · exact .cons rfl (.cons rfl (.cons rfl (.cons rfl (.nil _))))
  · have hge : ¬ i < l.length := by have := of_decide_eq_false hc; rw [List.length_map] at this; omega
    have : l.drop i = [] := List.drop_eq_nil_of_le (by omega)
    (repeat (first | (apply R.op0; (first | exact O.move rfl | exact O.assign rfl | exact O.fieldP rfl rfl rfl rfl | exact O.loadP rfl rfl rfl (by first | rfl | assumption) rfl | exact O.cmp rfl rfl rfl | exact O.int rfl rfl (add64 (by omega)) | exact O.int rfl rfl (sub64 (by omega)) | exact O.int rfl rfl (add8 (by omega)) | exact O.pickT rfl (by first | with_reducible rfl | with_reducible assumption | decide) rfl | exact O.pickF rfl (by first | with_reducible rfl | with_reducible assumption | decide) rfl | exact O.lenL rfl rfl | exact O.lenSv rfl rfl | exact O.lenS rfl rfl | exact O.not rfl | exact O.svEq rfl rfl | exact O.svNe rfl rfl | exact O.str rfl rfl rfl | exact O.boolEq rfl rfl rfl | exact O.fieldE rfl rfl rfl rfl | exact O.fieldR rfl rfl rfl rfl | exact O.loadPA rfl rfl (by first | rfl | assumption) rfl rfl | exact O.extr rfl rfl); exact rfl) | (apply R.guardT1; exact rfl; exact rfl; (first | with_reducible rfl | with_reducible assumption | decide)) | (apply R.guardT0; exact rfl; exact rfl; (first | with_reducible rfl | with_reducible assumption | decide)) | (apply R.guardF1; exact rfl; exact rfl; (first | with_reducible rfl | with_reducible assumption | decide); exact rfl) | (apply R.guardF0; exact rfl; exact rfl; (first | with_reducible rfl | with_reducible assumption | decide); exact rfl) | (apply R.guardN; exact rfl; exact rfl; exact rfl) | apply R.done | apply W.seq | apply W.region | apply W.draw | apply W.block | (apply W.condT; exact rfl; (first | with_reducible rfl | with_reducible assumption | decide)) | (apply W.condF; exact rfl; (first | with_reducible rfl | with_reducible assumption | decide)) | apply W.retAft | apply W.retBlk | apply W.retLop | apply W.exitAft | apply W.exitLop | apply W.exitBlk | (apply W.exitBlkNe; exact rfl) | apply W.skipAft | apply W.skipBlk | apply W.retCut | apply W.exitCut | apply R.skip))
    exact W.retFin1 rfl ⟨_, by rw [he, this]; rfl⟩

theorem ret39 (l : List Str) (s : Str) (hl : l.length ≤ 9223372036854775807) : Ret CC 39 [.lst (l.map sv), sv s] (.bool (l.contains s)) := by
  refine Ret.of (fn := Go.Proofs.Try.f39) (by kernel_rfl) rfl rfl ?_
  (repeat (first | (apply R.op0; (first | exact O.move rfl | exact O.assign rfl | exact O.fieldP rfl rfl rfl rfl | exact O.loadP rfl rfl rfl (by first | rfl | assumption) rfl | exact O.cmp rfl rfl rfl | exact O.int rfl rfl (add64 (by omega)) | exact O.int rfl rfl (sub64 (by omega)) | exact O.int rfl rfl (add8 (by omega)) | exact O.pickT rfl (by first | with_reducible rfl | with_reducible assumption | decide) rfl | exact O.pickF rfl (by first | with_reducible rfl | with_reducible assumption | decide) rfl | exact O.lenL rfl rfl | exact O.lenSv rfl rfl | exact O.lenS rfl rfl | exact O.not rfl | exact O.svEq rfl rfl | exact O.svNe rfl rfl | exact O.str rfl rfl rfl | exact O.boolEq rfl rfl rfl | exact O.fieldE rfl rfl rfl rfl | exact O.fieldR rfl rfl rfl rfl | exact O.loadPA rfl rfl (by first | rfl | assumption) rfl rfl | exact O.extr rfl rfl); exact rfl) | (apply R.guardT1; exact rfl; exact rfl; (first | with_reducible rfl | with_reducible assumption | decide)) | (apply R.guardT0; exact rfl; exact rfl; (first | with_reducible rfl | with_reducible assumption | decide)) | (apply R.guardF1; exact rfl; exact rfl; (first | with_reducible rfl | with_reducible assumption | decide); exact rfl) | (apply R.guardF0; exact rfl; exact rfl; (first | with_reducible rfl | with_reducible assumption | decide); exact rfl) | (apply R.guardN; exact rfl; exact rfl; exact rfl) | apply R.done | apply W.seq | apply W.region | apply W.draw | apply W.block | (apply W.condT; exact rfl; (first | with_reducible rfl | with_reducible assumption | decide)) | (apply W.condF; exact rfl; (first | with_reducible rfl | with_reducible assumption | decide)) | apply W.retAft | apply W.retBlk | apply W.retLop | apply W.exitAft | apply W.exitLop | apply W.exitBlk | (apply W.exitBlkNe; exact rfl) | apply W.skipAft | apply W.skipBlk | apply W.retCut | apply W.exitCut | apply R.skip))
  refine R.op0 (O.call rfl rfl (ret69 l s hl)) rfl ?_
  (repeat (first | (apply R.op0; (first | exact O.move rfl | exact O.assign rfl | exact O.fieldP rfl rfl rfl rfl | exact O.loadP rfl rfl rfl (by first | rfl | assumption) rfl | exact O.cmp rfl rfl rfl | exact O.int rfl rfl (add64 (by omega)) | exact O.int rfl rfl (sub64 (by omega)) | exact O.int rfl rfl (add8 (by omega)) | exact O.pickT rfl (by first | with_reducible rfl | with_reducible assumption | decide) rfl | exact O.pickF rfl (by first | with_reducible rfl | with_reducible assumption | decide) rfl | exact O.lenL rfl rfl | exact O.lenSv rfl rfl | exact O.lenS rfl rfl | exact O.not rfl | exact O.svEq rfl rfl | exact O.svNe rfl rfl | exact O.str rfl rfl rfl | exact O.boolEq rfl rfl rfl | exact O.fieldE rfl rfl rfl rfl | exact O.fieldR rfl rfl rfl rfl | exact O.loadPA rfl rfl (by first | rfl | assumption) rfl rfl | exact O.extr rfl rfl); exact rfl) | (apply R.guardT1; exact rfl; exact rfl; (first | with_reducible rfl | with_reducible assumption | decide)) | (apply R.guardT0; exact rfl; exact rfl; (first | with_reducible rfl | with_reducible assumption | decide)) | (apply R.guardF1; exact rfl; exact rfl; (first | with_reducible rfl | with_reducible assumption | decide); exact rfl) | (apply R.guardF0; exact rfl; exact rfl; (first | with_reducible rfl | with_reducible assumption | decide); exact rfl) | (apply R.guardN; exact rfl; exact rfl; exact rfl) | apply R.done | apply W.seq | apply W.region | apply W.draw | apply W.block | (apply W.condT; exact rfl; (first | with_reducible rfl | with_reducible assumption | decide)) | (apply W.condF; exact rfl; (first | with_reducible rfl | with_reducible assumption | decide)) | apply W.retAft | apply W.retBlk | apply W.retLop | apply W.exitAft | apply W.exitLop | apply W.exitBlk | (apply W.exitBlkNe; exact rfl) | apply W.skipAft | apply W.skipBlk | apply W.retCut | apply W.exitCut | apply R.skip))
  exact W.retFin1 rfl ⟨_, by rw [← idxFrom_nonneg s l 0]; rfl⟩
theorem ret42 (l : List Str) (s : Str) (hl : l.length ≤ 9223372036854775807) : Ret CC 42 [.lst (l.map sv), sv s] (.bool (l.contains s)) := by
  refine Ret.of (fn := Go.Proofs.Try.f42) (by kernel_rfl) rfl rfl ?_
  (repeat (first | (apply R.op0; (first | exact O.move rfl | exact O.assign rfl | exact O.fieldP rfl rfl rfl rfl | exact O.loadP rfl rfl rfl (by first | rfl | assumption) rfl | exact O.cmp rfl rfl rfl | exact O.int rfl rfl (add64 (by omega)) | exact O.int rfl rfl (sub64 (by omega)) | exact O.int rfl rfl (add8 (by omega)) | exact O.pickT rfl (by first | with_reducible rfl | with_reducible assumption | decide) rfl | exact O.pickF rfl (by first | with_reducible rfl | with_reducible assumption | decide) rfl | exact O.lenL rfl rfl | exact O.lenSv rfl rfl | exact O.lenS rfl rfl | exact O.not rfl | exact O.svEq rfl rfl | exact O.svNe rfl rfl | exact O.str rfl rfl rfl | exact O.boolEq rfl rfl rfl | exact O.fieldE rfl rfl rfl rfl | exact O.fieldR rfl rfl rfl rfl | exact O.loadPA rfl rfl (by first | rfl | assumption) rfl rfl | exact O.extr rfl rfl); exact rfl) | (apply R.guardT1; exact rfl; exact rfl; (first | with_reducible rfl | with_reducible assumption | decide)) | (apply R.guardT0; exact rfl; exact rfl; (first | with_reducible rfl | with_reducible assumption | decide)) | (apply R.guardF1; exact rfl; exact rfl; (first | with_reducible rfl | with_reducible assumption | decide); exact rfl) | (apply R.guardF0; exact rfl; exact rfl; (first | with_reducible rfl | with_reducible assumption | decide); exact rfl) | (apply R.guardN; exact rfl; exact rfl; exact rfl) | apply R.done | apply W.seq | apply W.region | apply W.draw | apply W.block | (apply W.condT; exact rfl; (first | with_reducible rfl | with_reducible assumption | decide)) | (apply W.condF; exact rfl; (first | with_reducible rfl | with_reducible assumption | decide)) | apply W.retAft | apply W.retBlk | apply W.retLop | apply W.exitAft | apply W.exitLop | apply W.exitBlk | (apply W.exitBlkNe; exact rfl) | apply W.skipAft | apply W.skipBlk | apply W.retCut | apply W.exitCut | apply R.skip))
  refine R.op0 (O.call rfl rfl (ret70 l s hl)) rfl ?_
  (repeat (first | (apply R.op0; (first | exact O.move rfl | exact O.assign rfl | exact O.fieldP rfl rfl rfl rfl | exact O.loadP rfl rfl rfl (by first | rfl | assumption) rfl | exact O.cmp rfl rfl rfl | exact O.int rfl rfl (add64 (by omega)) | exact O.int rfl rfl (sub64 (by omega)) | exact O.int rfl rfl (add8 (by omega)) | exact O.pickT rfl (by first | with_reducible rfl | with_reducible assumption | decide) rfl | exact O.pickF rfl (by first | with_reducible rfl | with_reducible assumption | decide) rfl | exact O.lenL rfl rfl | exact O.lenSv rfl rfl | exact O.lenS rfl rfl | exact O.not rfl | exact O.svEq rfl rfl | exact O.svNe rfl rfl | exact O.str rfl rfl rfl | exact O.boolEq rfl rfl rfl | exact O.fieldE rfl rfl rfl rfl | exact O.fieldR rfl rfl rfl rfl | exact O.loadPA rfl rfl (by first | rfl | assumption) rfl rfl | exact O.extr rfl rfl); exact rfl) | (apply R.guardT1; exact rfl; exact rfl; (first | with_reducible rfl | with_reducible assumption | decide)) | (apply R.guardT0; exact rfl; exact rfl; (first | with_reducible rfl | with_reducible assumption | decide)) | (apply R.guardF1; exact rfl; exact rfl; (first | with_reducible rfl | with_reducible assumption | decide); exact rfl) | (apply R.guardF0; exact rfl; exact rfl; (first | with_reducible rfl | with_reducible assumption | decide); exact rfl) | (apply R.guardN; exact rfl; exact rfl; exact rfl) | apply R.done | apply W.seq | apply W.region | apply W.draw | apply W.block | (apply W.condT; exact rfl; (first | with_reducible rfl | with_reducible assumption | decide)) | (apply W.condF; exact rfl; (first | with_reducible rfl | with_reducible assumption | decide)) | apply W.retAft | apply W.retBlk | apply W.retLop | apply W.exitAft | apply W.exitLop | apply W.exitBlk | (apply W.exitBlkNe; exact rfl) | apply W.skipAft | apply W.skipBlk | apply W.retCut | apply W.exitCut | apply R.skip))
  exact W.retFin1 rfl ⟨_, by rw [← idxFrom_nonneg s l 0]; rfl⟩
end Go.Abs

/- Names: which strings are names. -/
open Go Go.Abs
namespace Go.Abs
instance fnis43 : FnIs CC 43 := ⟨rfl, fun _ => rfl⟩
instance fnis13 : FnIs CC 13 := ⟨rfl, fun _ => rfl⟩
instance fnis12 : FnIs CC 12 := ⟨rfl, fun _ => rfl⟩
set_option maxRecDepth 100000
set_option maxHeartbeats 1000000

def kws : List Str := [[97, 102, 116, 101, 114], [97, 110, 100], [97, 115], [97, 116], [98, 111, 116, 104], [98, 121], [99, 111, 117, 110, 116], [101, 97, 99, 104], [101, 108, 115, 101], [103, 114, 101, 97, 116], [103, 114, 111, 117, 112], [105, 110], [105, 115], [107, 101, 121], [108, 97, 99, 107], [108, 101, 97, 115, 116], [108, 101, 115, 115], [108, 101, 116], [111, 102], [111, 110, 99, 101], [111, 114], [111, 116, 104, 101, 114], [112, 97, 105, 114], [112, 114, 101, 118], [114, 101, 115, 116], [115, 97, 109, 101], [115, 104, 105, 102, 116], [115, 108, 105, 100, 101], [115, 111, 117, 114, 99, 101], [115, 117, 109], [116, 111, 116, 97, 108], [118, 97, 108], [119, 104, 101, 114, 101], [119, 105, 116, 104, 105, 110]]

theorem ret38 : Ret CC 38 [] (.fmp (kws.map sv) (List.replicate 34 (.bool true))) := Ret.reckon (n := 60) (by kernel_rfl)
theorem ret40 : Ret CC 40 [] (.lst (kws.map sv)) := Ret.reckon (n := 60) (by kernel_rfl)

def okc (c : UInt8) : Bool := !(decide ((c.toNat : Int) < 97) || decide ((c.toNat : Int) > 122))
def lows (s : Str) : Bool := s.all okc
def nameOk (s : Str) : Bool := decide (0 < s.length) && decide (s.length ≤ 8) && !kws.contains s && lows s

theorem low_drop {s : Str} {c : UInt8} {i : Nat} (h : s[i]? = some c) : lows (s.drop i) = (okc c && lows (s.drop (i + 1))) := by
  have : s.drop i = c :: s.drop (i + 1) := by
    rw [List.getElem?_eq_some_iff] at h
    obtain ⟨hi, rfl⟩ := h
    exact List.drop_eq_getElem_cons hi
  rw [this, lows, List.all_cons]; rfl

theorem keyFind_sv (s : Str) : ∀ l : List Str, keyFind (sv s) (l.map sv) = some (l.findIdx? fun x => s == x)
  | [] => rfl
  | x :: r => by
    have h : scalarEq (sv s) (sv x) = some (s == x) := by
      show some ((ByteArray.mk s.toArray) == (ByteArray.mk x.toArray)) = _
      rw [sv_beq]
    rw [List.map_cons, keyFind, h, List.findIdx?_cons, keyFind_sv s r]
    cases s == x <;> rfl

theorem kw_at (s : Str) : keyAt (sv s) (kws.map sv) (List.replicate 34 (.bool true)) (.bool false) = some (.bool (kws.contains s)) := by
  unfold keyAt
  rw [keyFind_sv]
  have hc : kws.contains s = (kws.findIdx? fun x => s == x).isSome := by
    rw [List.findIdx?_isSome, List.contains_eq_any_beq]
  cases hf : kws.findIdx? fun x => s == x with
  | none => rw [hc, hf]; rfl
  | some j =>
    rw [hc, hf]
    have hj : j < kws.length := by
      rw [List.findIdx?_eq_some_iff_getElem] at hf
      exact hf.1
    have hj' : j < 34 := hj
    show (List.replicate 34 (IV.bool true))[j]? = some (IV.bool true)
    rw [List.getElem?_replicate, if_pos hj']

theorem ret10 (s : Str) (hs : s.length ≤ 9223372036854775807) : Ret CC 10 [sv s] (.bool (nameOk s)) := by
  refine Ret.of (fn := Go.Proofs.Try.f10) (by kernel_rfl) rfl rfl ?_
  (repeat (first | (apply R.op0; (first | exact O.move rfl | exact O.assign rfl | exact O.fieldP rfl rfl rfl rfl | exact O.loadP rfl rfl rfl (by first | rfl | assumption) rfl | exact O.cmp rfl rfl rfl | exact O.int rfl rfl (add64 (by omega)) | exact O.int rfl rfl (sub64 (by omega)) | exact O.int rfl rfl (add8 (by omega)) | exact O.pickT rfl (by first | with_reducible rfl | with_reducible assumption | decide) rfl | exact O.pickF rfl (by first | with_reducible rfl | with_reducible assumption | decide) rfl | exact O.lenL rfl rfl | exact O.lenSv rfl rfl | exact O.lenS rfl rfl | exact O.not rfl | exact O.svEq rfl rfl | exact O.svNe rfl rfl | exact O.str rfl rfl rfl | exact O.boolEq rfl rfl rfl | exact O.fieldE rfl rfl rfl rfl | exact O.fieldR rfl rfl rfl rfl | exact O.loadPA rfl rfl (by first | rfl | assumption) rfl rfl | exact O.extr rfl rfl); exact rfl) | (apply R.guardT1; exact rfl; exact rfl; (first | with_reducible rfl | with_reducible assumption | decide)) | (apply R.guardT0; exact rfl; exact rfl; (first | with_reducible rfl | with_reducible assumption | decide)) | (apply R.guardF1; exact rfl; exact rfl; (first | with_reducible rfl | with_reducible assumption | decide); exact rfl) | (apply R.guardF0; exact rfl; exact rfl; (first | with_reducible rfl | with_reducible assumption | decide); exact rfl) | (apply R.guardN; exact rfl; exact rfl; exact rfl) | apply R.done | apply W.seq | apply W.region | apply W.draw | apply W.block | (apply W.condT; exact rfl; (first | with_reducible rfl | with_reducible assumption | decide)) | (apply W.condF; exact rfl; (first | with_reducible rfl | with_reducible assumption | decide)) | apply W.retAft | apply W.retBlk | apply W.retLop | apply W.exitAft | apply W.exitLop | apply W.exitBlk | (apply W.exitBlkNe; exact rfl) | apply W.skipAft | apply W.skipBlk | apply W.retCut | apply W.exitCut | apply R.skip))
  refine W.loop (X := Nat) (fun i => [(0, .imm (sv s)), (5, .imm (.int .i64 s.length)), (6, .imm (.int .i64 i))]) (fun i _ _ => i ≤ s.length ∧ lows s = lows (s.drop i)) (fun i => s.length - i) 0 (.cons rfl (.cons rfl (.cons rfl (.nil _)))) ⟨Nat.zero_le _, rfl⟩ ?_
  intro i nx G ⟨hi, he⟩
  (repeat (first | (apply R.op0; (first | exact O.move rfl | exact O.assign rfl | exact O.fieldP rfl rfl rfl rfl | exact O.loadP rfl rfl rfl (by first | rfl | assumption) rfl | exact O.cmp rfl rfl rfl | exact O.int rfl rfl (add64 (by omega)) | exact O.int rfl rfl (sub64 (by omega)) | exact O.int rfl rfl (add8 (by omega)) | exact O.pickT rfl (by first | with_reducible rfl | with_reducible assumption | decide) rfl | exact O.pickF rfl (by first | with_reducible rfl | with_reducible assumption | decide) rfl | exact O.lenL rfl rfl | exact O.lenSv rfl rfl | exact O.lenS rfl rfl | exact O.not rfl | exact O.svEq rfl rfl | exact O.svNe rfl rfl | exact O.str rfl rfl rfl | exact O.boolEq rfl rfl rfl | exact O.fieldE rfl rfl rfl rfl | exact O.fieldR rfl rfl rfl rfl | exact O.loadPA rfl rfl (by first | rfl | assumption) rfl rfl | exact O.extr rfl rfl); exact rfl) | (apply R.guardT1; exact rfl; exact rfl; (first | with_reducible rfl | with_reducible assumption | decide)) | (apply R.guardT0; exact rfl; exact rfl; (first | with_reducible rfl | with_reducible assumption | decide)) | (apply R.guardF1; exact rfl; exact rfl; (first | with_reducible rfl | with_reducible assumption | decide); exact rfl) | (apply R.guardF0; exact rfl; exact rfl; (first | with_reducible rfl | with_reducible assumption | decide); exact rfl) | (apply R.guardN; exact rfl; exact rfl; exact rfl) | apply R.done | apply W.seq | apply W.region | apply W.draw | apply W.block | (apply W.condT; exact rfl; (first | with_reducible rfl | with_reducible assumption | decide)) | (apply W.condF; exact rfl; (first | with_reducible rfl | with_reducible assumption | decide)) | apply W.retAft | apply W.retBlk | apply W.retLop | apply W.exitAft | apply W.exitLop | apply W.exitBlk | (apply W.exitBlkNe; exact rfl) | apply W.skipAft | apply W.skipBlk | apply W.retCut | apply W.exitCut | apply R.skip))
  refine W.cond rfl (fun hc => ?_) (fun hc => ?_)
  · have hlt : i < s.length := by have := of_decide_eq_true hc; omega
    obtain ⟨c, hx⟩ : ∃ c, s[i]? = some c := ⟨s[i], by simp [hlt]⟩
    rw [low_drop hx, okc] at he
    (repeat (first | (apply R.op0; (first | exact O.move rfl | exact O.assign rfl | exact O.fieldP rfl rfl rfl rfl | exact O.loadP rfl rfl rfl (by first | rfl | assumption) rfl | exact O.cmp rfl rfl rfl | exact O.int rfl rfl (add64 (by omega)) | exact O.int rfl rfl (sub64 (by omega)) | exact O.int rfl rfl (add8 (by omega)) | exact O.pickT rfl (by first | with_reducible rfl | with_reducible assumption | decide) rfl | exact O.pickF rfl (by first | with_reducible rfl | with_reducible assumption | decide) rfl | exact O.lenL rfl rfl | exact O.lenSv rfl rfl | exact O.lenS rfl rfl | exact O.not rfl | exact O.svEq rfl rfl | exact O.svNe rfl rfl | exact O.str rfl rfl rfl | exact O.boolEq rfl rfl rfl | exact O.fieldE rfl rfl rfl rfl | exact O.fieldR rfl rfl rfl rfl | exact O.loadPA rfl rfl (by first | rfl | assumption) rfl rfl | exact O.extr rfl rfl); exact rfl) | (apply R.guardT1; exact rfl; exact rfl; (first | with_reducible rfl | with_reducible assumption | decide)) | (apply R.guardT0; exact rfl; exact rfl; (first | with_reducible rfl | with_reducible assumption | decide)) | (apply R.guardF1; exact rfl; exact rfl; (first | with_reducible rfl | with_reducible assumption | decide); exact rfl) | (apply R.guardF0; exact rfl; exact rfl; (first | with_reducible rfl | with_reducible assumption | decide); exact rfl) | (apply R.guardN; exact rfl; exact rfl; exact rfl) | apply R.done | apply W.seq | apply W.region | apply W.draw | apply W.block | (apply W.condT; exact rfl; (first | with_reducible rfl | with_reducible assumption | decide)) | (apply W.condF; exact rfl; (first | with_reducible rfl | with_reducible assumption | decide)) | apply W.retAft | apply W.retBlk | apply W.retLop | apply W.exitAft | apply W.exitLop | apply W.exitBlk | (apply W.exitBlkNe; exact rfl) | apply W.skipAft | apply W.skipBlk | apply W.retCut | apply W.exitCut | apply R.skip))
    refine R.op0 (O.indexSv rfl rfl rfl hx) rfl ?_
    (repeat (first | (apply R.op0; (first | exact O.move rfl | exact O.assign rfl | exact O.fieldP rfl rfl rfl rfl | exact O.loadP rfl rfl rfl (by first | rfl | assumption) rfl | exact O.cmp rfl rfl rfl | exact O.int rfl rfl (add64 (by omega)) | exact O.int rfl rfl (sub64 (by omega)) | exact O.int rfl rfl (add8 (by omega)) | exact O.pickT rfl (by first | with_reducible rfl | with_reducible assumption | decide) rfl | exact O.pickF rfl (by first | with_reducible rfl | with_reducible assumption | decide) rfl | exact O.lenL rfl rfl | exact O.lenSv rfl rfl | exact O.lenS rfl rfl | exact O.not rfl | exact O.svEq rfl rfl | exact O.svNe rfl rfl | exact O.str rfl rfl rfl | exact O.boolEq rfl rfl rfl | exact O.fieldE rfl rfl rfl rfl | exact O.fieldR rfl rfl rfl rfl | exact O.loadPA rfl rfl (by first | rfl | assumption) rfl rfl | exact O.extr rfl rfl); exact rfl) | (apply R.guardT1; exact rfl; exact rfl; (first | with_reducible rfl | with_reducible assumption | decide)) | (apply R.guardT0; exact rfl; exact rfl; (first | with_reducible rfl | with_reducible assumption | decide)) | (apply R.guardF1; exact rfl; exact rfl; (first | with_reducible rfl | with_reducible assumption | decide); exact rfl) | (apply R.guardF0; exact rfl; exact rfl; (first | with_reducible rfl | with_reducible assumption | decide); exact rfl) | (apply R.guardN; exact rfl; exact rfl; exact rfl) | apply R.done | apply W.seq | apply W.region | apply W.draw | apply W.block | (apply W.condT; exact rfl; (first | with_reducible rfl | with_reducible assumption | decide)) | (apply W.condF; exact rfl; (first | with_reducible rfl | with_reducible assumption | decide)) | apply W.retAft | apply W.retBlk | apply W.retLop | apply W.exitAft | apply W.exitLop | apply W.exitBlk | (apply W.exitBlkNe; exact rfl) | apply W.skipAft | apply W.skipBlk | apply W.retCut | apply W.exitCut | apply R.skip))
    refine R.guardC0 rfl rfl rfl (fun h1 => ?_) (fun h1 => ?_)
    · refine R.op0 (O.move rfl) rfl ?_
      (repeat (first | (apply R.op0; (first | exact O.move rfl | exact O.assign rfl | exact O.fieldP rfl rfl rfl rfl | exact O.loadP rfl rfl rfl (by first | rfl | assumption) rfl | exact O.cmp rfl rfl rfl | exact O.int rfl rfl (add64 (by omega)) | exact O.int rfl rfl (sub64 (by omega)) | exact O.int rfl rfl (add8 (by omega)) | exact O.pickT rfl (by first | with_reducible rfl | with_reducible assumption | decide) rfl | exact O.pickF rfl (by first | with_reducible rfl | with_reducible assumption | decide) rfl | exact O.lenL rfl rfl | exact O.lenSv rfl rfl | exact O.lenS rfl rfl | exact O.not rfl | exact O.svEq rfl rfl | exact O.svNe rfl rfl | exact O.str rfl rfl rfl | exact O.boolEq rfl rfl rfl | exact O.fieldE rfl rfl rfl rfl | exact O.fieldR rfl rfl rfl rfl | exact O.loadPA rfl rfl (by first | rfl | assumption) rfl rfl | exact O.extr rfl rfl); exact rfl) | (apply R.guardT1; exact rfl; exact rfl; (first | with_reducible rfl | with_reducible assumption | decide)) | (apply R.guardT0; exact rfl; exact rfl; (first | with_reducible rfl | with_reducible assumption | decide)) | (apply R.guardF1; exact rfl; exact rfl; (first | with_reducible rfl | with_reducible assumption | decide); exact rfl) | (apply R.guardF0; exact rfl; exact rfl; (first | with_reducible rfl | with_reducible assumption | decide); exact rfl) | (apply R.guardN; exact rfl; exact rfl; exact rfl) | apply R.done | apply W.seq | apply W.region | apply W.draw | apply W.block | (apply W.condT; exact rfl; (first | with_reducible rfl | with_reducible assumption | decide)) | (apply W.condF; exact rfl; (first | with_reducible rfl | with_reducible assumption | decide)) | apply W.retAft | apply W.retBlk | apply W.retLop | apply W.exitAft | apply W.exitLop | apply W.exitBlk | (apply W.exitBlkNe; exact rfl) | apply W.skipAft | apply W.skipBlk | apply W.retCut | apply W.exitCut | apply R.skip))
      refine R.op0 (O.indexSv rfl rfl rfl hx) rfl ?_
      (repeat (first | (apply R.op0; (first | exact O.move rfl | exact O.assign rfl | exact O.fieldP rfl rfl rfl rfl | exact O.loadP rfl rfl rfl (by first | rfl | assumption) rfl | exact O.cmp rfl rfl rfl | exact O.int rfl rfl (add64 (by omega)) | exact O.int rfl rfl (sub64 (by omega)) | exact O.int rfl rfl (add8 (by omega)) | exact O.pickT rfl (by first | with_reducible rfl | with_reducible assumption | decide) rfl | exact O.pickF rfl (by first | with_reducible rfl | with_reducible assumption | decide) rfl | exact O.lenL rfl rfl | exact O.lenSv rfl rfl | exact O.lenS rfl rfl | exact O.not rfl | exact O.svEq rfl rfl | exact O.svNe rfl rfl | exact O.str rfl rfl rfl | exact O.boolEq rfl rfl rfl | exact O.fieldE rfl rfl rfl rfl | exact O.fieldR rfl rfl rfl rfl | exact O.loadPA rfl rfl (by first | rfl | assumption) rfl rfl | exact O.extr rfl rfl); exact rfl) | (apply R.guardT1; exact rfl; exact rfl; (first | with_reducible rfl | with_reducible assumption | decide)) | (apply R.guardT0; exact rfl; exact rfl; (first | with_reducible rfl | with_reducible assumption | decide)) | (apply R.guardF1; exact rfl; exact rfl; (first | with_reducible rfl | with_reducible assumption | decide); exact rfl) | (apply R.guardF0; exact rfl; exact rfl; (first | with_reducible rfl | with_reducible assumption | decide); exact rfl) | (apply R.guardN; exact rfl; exact rfl; exact rfl) | apply R.done | apply W.seq | apply W.region | apply W.draw | apply W.block | (apply W.condT; exact rfl; (first | with_reducible rfl | with_reducible assumption | decide)) | (apply W.condF; exact rfl; (first | with_reducible rfl | with_reducible assumption | decide)) | apply W.retAft | apply W.retBlk | apply W.retLop | apply W.exitAft | apply W.exitLop | apply W.exitBlk | (apply W.exitBlkNe; exact rfl) | apply W.skipAft | apply W.skipBlk | apply W.retCut | apply W.exitCut | apply R.skip))
      refine W.cond rfl (fun h2 => ?_) (fun h2 => ?_)
      · (repeat (first | (apply R.op0; (first | exact O.move rfl | exact O.assign rfl | exact O.fieldP rfl rfl rfl rfl | exact O.loadP rfl rfl rfl (by first | rfl | assumption) rfl | exact O.cmp rfl rfl rfl | exact O.int rfl rfl (add64 (by omega)) | exact O.int rfl rfl (sub64 (by omega)) | exact O.int rfl rfl (add8 (by omega)) | exact O.pickT rfl (by first | with_reducible rfl | with_reducible assumption | decide) rfl | exact O.pickF rfl (by first | with_reducible rfl | with_reducible assumption | decide) rfl | exact O.lenL rfl rfl | exact O.lenSv rfl rfl | exact O.lenS rfl rfl | exact O.not rfl | exact O.svEq rfl rfl | exact O.svNe rfl rfl | exact O.str rfl rfl rfl | exact O.boolEq rfl rfl rfl | exact O.fieldE rfl rfl rfl rfl | exact O.fieldR rfl rfl rfl rfl | exact O.loadPA rfl rfl (by first | rfl | assumption) rfl rfl | exact O.extr rfl rfl); exact rfl) | (apply R.guardT1; exact rfl; exact rfl; (first | with_reducible rfl | with_reducible assumption | decide)) | (apply R.guardT0; exact rfl; exact rfl; (first | with_reducible rfl | with_reducible assumption | decide)) | (apply R.guardF1; exact rfl; exact rfl; (first | with_reducible rfl | with_reducible assumption | decide); exact rfl) | (apply R.guardF0; exact rfl; exact rfl; (first | with_reducible rfl | with_reducible assumption | decide); exact rfl) | (apply R.guardN; exact rfl; exact rfl; exact rfl) | apply R.done | apply W.seq | apply W.region | apply W.draw | apply W.block | (apply W.condT; exact rfl; (first | with_reducible rfl | with_reducible assumption | decide)) | (apply W.condF; exact rfl; (first | with_reducible rfl | with_reducible assumption | decide)) | apply W.retAft | apply W.retBlk | apply W.retLop | apply W.exitAft | apply W.exitLop | apply W.exitBlk | (apply W.exitBlkNe; exact rfl) | apply W.skipAft | apply W.skipBlk | apply W.retCut | apply W.exitCut | apply R.skip))
        refine W.retFin1 rfl ⟨[], ?_⟩
        have : lows s = false := by rw [he, h1, h2]; rfl
        rw [nameOk, this]; simp [peek]
      · rw [h1, h2] at he
        (repeat (first | (apply R.op0; (first | exact O.move rfl | exact O.assign rfl | exact O.fieldP rfl rfl rfl rfl | exact O.loadP rfl rfl rfl (by first | rfl | assumption) rfl | exact O.cmp rfl rfl rfl | exact O.int rfl rfl (add64 (by omega)) | exact O.int rfl rfl (sub64 (by omega)) | exact O.int rfl rfl (add8 (by omega)) | exact O.pickT rfl (by first | with_reducible rfl | with_reducible assumption | decide) rfl | exact O.pickF rfl (by first | with_reducible rfl | with_reducible assumption | decide) rfl | exact O.lenL rfl rfl | exact O.lenSv rfl rfl | exact O.lenS rfl rfl | exact O.not rfl | exact O.svEq rfl rfl | exact O.svNe rfl rfl | exact O.str rfl rfl rfl | exact O.boolEq rfl rfl rfl | exact O.fieldE rfl rfl rfl rfl | exact O.fieldR rfl rfl rfl rfl | exact O.loadPA rfl rfl (by first | rfl | assumption) rfl rfl | exact O.extr rfl rfl); exact rfl) | (apply R.guardT1; exact rfl; exact rfl; (first | with_reducible rfl | with_reducible assumption | decide)) | (apply R.guardT0; exact rfl; exact rfl; (first | with_reducible rfl | with_reducible assumption | decide)) | (apply R.guardF1; exact rfl; exact rfl; (first | with_reducible rfl | with_reducible assumption | decide); exact rfl) | (apply R.guardF0; exact rfl; exact rfl; (first | with_reducible rfl | with_reducible assumption | decide); exact rfl) | (apply R.guardN; exact rfl; exact rfl; exact rfl) | apply R.done | apply W.seq | apply W.region | apply W.draw | apply W.block | (apply W.condT; exact rfl; (first | with_reducible rfl | with_reducible assumption | decide)) | (apply W.condF; exact rfl; (first | with_reducible rfl | with_reducible assumption | decide)) | apply W.retAft | apply W.retBlk | apply W.retLop | apply W.exitAft | apply W.exitLop | apply W.exitBlk | (apply W.exitBlkNe; exact rfl) | apply W.skipAft | apply W.skipBlk | apply W.retCut | apply W.exitCut | apply R.skip))
        refine W.skipLop (i + 1) ?_ ?_ ⟨hlt, he.trans (by simp)⟩
        · show s.length - (i + 1) < s.length - i; omega
        · exact .cons rfl (.cons rfl (.cons rfl (.nil _)))
    · (repeat (first | (apply R.op0; (first | exact O.move rfl | exact O.assign rfl | exact O.fieldP rfl rfl rfl rfl | exact O.loadP rfl rfl rfl (by first | rfl | assumption) rfl | exact O.cmp rfl rfl rfl | exact O.int rfl rfl (add64 (by omega)) | exact O.int rfl rfl (sub64 (by omega)) | exact O.int rfl rfl (add8 (by omega)) | exact O.pickT rfl (by first | with_reducible rfl | with_reducible assumption | decide) rfl | exact O.pickF rfl (by first | with_reducible rfl | with_reducible assumption | decide) rfl | exact O.lenL rfl rfl | exact O.lenSv rfl rfl | exact O.lenS rfl rfl | exact O.not rfl | exact O.svEq rfl rfl | exact O.svNe rfl rfl | exact O.str rfl rfl rfl | exact O.boolEq rfl rfl rfl | exact O.fieldE rfl rfl rfl rfl | exact O.fieldR rfl rfl rfl rfl | exact O.loadPA rfl rfl (by first | rfl | assumption) rfl rfl | exact O.extr rfl rfl); exact rfl) | (apply R.guardT1; exact rfl; exact rfl; (first | with_reducible rfl | with_reducible assumption | decide)) | (apply R.guardT0; exact rfl; exact rfl; (first | with_reducible rfl | with_reducible assumption | decide)) | (apply R.guardF1; exact rfl; exact rfl; (first | with_reducible rfl | with_reducible assumption | decide); exact rfl) | (apply R.guardF0; exact rfl; exact rfl; (first | with_reducible rfl | with_reducible assumption | decide); exact rfl) | (apply R.guardN; exact rfl; exact rfl; exact rfl) | apply R.done | apply W.seq | apply W.region | apply W.draw | apply W.block | (apply W.condT; exact rfl; (first | with_reducible rfl | with_reducible assumption | decide)) | (apply W.condF; exact rfl; (first | with_reducible rfl | with_reducible assumption | decide)) | apply W.retAft | apply W.retBlk | apply W.retLop | apply W.exitAft | apply W.exitLop | apply W.exitBlk | (apply W.exitBlkNe; exact rfl) | apply W.skipAft | apply W.skipBlk | apply W.retCut | apply W.exitCut | apply R.skip))
      refine W.retFin1 rfl ⟨[], ?_⟩
      have : lows s = false := by rw [he, h1]; rfl
      rw [nameOk, this]; simp [peek]
  · have hge : ¬ i < s.length := by have := of_decide_eq_false hc; omega
    have hlow : lows s = true := by rw [he, List.drop_eq_nil_of_le (by omega)]; rfl
    (repeat (first | (apply R.op0; (first | exact O.move rfl | exact O.assign rfl | exact O.fieldP rfl rfl rfl rfl | exact O.loadP rfl rfl rfl (by first | rfl | assumption) rfl | exact O.cmp rfl rfl rfl | exact O.int rfl rfl (add64 (by omega)) | exact O.int rfl rfl (sub64 (by omega)) | exact O.int rfl rfl (add8 (by omega)) | exact O.pickT rfl (by first | with_reducible rfl | with_reducible assumption | decide) rfl | exact O.pickF rfl (by first | with_reducible rfl | with_reducible assumption | decide) rfl | exact O.lenL rfl rfl | exact O.lenSv rfl rfl | exact O.lenS rfl rfl | exact O.not rfl | exact O.svEq rfl rfl | exact O.svNe rfl rfl | exact O.str rfl rfl rfl | exact O.boolEq rfl rfl rfl | exact O.fieldE rfl rfl rfl rfl | exact O.fieldR rfl rfl rfl rfl | exact O.loadPA rfl rfl (by first | rfl | assumption) rfl rfl | exact O.extr rfl rfl); exact rfl) | (apply R.guardT1; exact rfl; exact rfl; (first | with_reducible rfl | with_reducible assumption | decide)) | (apply R.guardT0; exact rfl; exact rfl; (first | with_reducible rfl | with_reducible assumption | decide)) | (apply R.guardF1; exact rfl; exact rfl; (first | with_reducible rfl | with_reducible assumption | decide); exact rfl) | (apply R.guardF0; exact rfl; exact rfl; (first | with_reducible rfl | with_reducible assumption | decide); exact rfl) | (apply R.guardN; exact rfl; exact rfl; exact rfl) | apply R.done | apply W.seq | apply W.region | apply W.draw | apply W.block | (apply W.condT; exact rfl; (first | with_reducible rfl | with_reducible assumption | decide)) | (apply W.condF; exact rfl; (first | with_reducible rfl | with_reducible assumption | decide)) | apply W.retAft | apply W.retBlk | apply W.retLop | apply W.exitAft | apply W.exitLop | apply W.exitBlk | (apply W.exitBlkNe; exact rfl) | apply W.skipAft | apply W.skipBlk | apply W.retCut | apply W.exitCut | apply R.skip))
    refine R.guardC1 rfl rfl rfl (fun h1 => ?_) (fun h1 => ?_)
    · (repeat (first | (apply R.op0; (first | exact O.move rfl | exact O.assign rfl | exact O.fieldP rfl rfl rfl rfl | exact O.loadP rfl rfl rfl (by first | rfl | assumption) rfl | exact O.cmp rfl rfl rfl | exact O.int rfl rfl (add64 (by omega)) | exact O.int rfl rfl (sub64 (by omega)) | exact O.int rfl rfl (add8 (by omega)) | exact O.pickT rfl (by first | with_reducible rfl | with_reducible assumption | decide) rfl | exact O.pickF rfl (by first | with_reducible rfl | with_reducible assumption | decide) rfl | exact O.lenL rfl rfl | exact O.lenSv rfl rfl | exact O.lenS rfl rfl | exact O.not rfl | exact O.svEq rfl rfl | exact O.svNe rfl rfl | exact O.str rfl rfl rfl | exact O.boolEq rfl rfl rfl | exact O.fieldE rfl rfl rfl rfl | exact O.fieldR rfl rfl rfl rfl | exact O.loadPA rfl rfl (by first | rfl | assumption) rfl rfl | exact O.extr rfl rfl); exact rfl) | (apply R.guardT1; exact rfl; exact rfl; (first | with_reducible rfl | with_reducible assumption | decide)) | (apply R.guardT0; exact rfl; exact rfl; (first | with_reducible rfl | with_reducible assumption | decide)) | (apply R.guardF1; exact rfl; exact rfl; (first | with_reducible rfl | with_reducible assumption | decide); exact rfl) | (apply R.guardF0; exact rfl; exact rfl; (first | with_reducible rfl | with_reducible assumption | decide); exact rfl) | (apply R.guardN; exact rfl; exact rfl; exact rfl) | apply R.done | apply W.seq | apply W.region | apply W.draw | apply W.block | (apply W.condT; exact rfl; (first | with_reducible rfl | with_reducible assumption | decide)) | (apply W.condF; exact rfl; (first | with_reducible rfl | with_reducible assumption | decide)) | apply W.retAft | apply W.retBlk | apply W.retLop | apply W.exitAft | apply W.exitLop | apply W.exitBlk | (apply W.exitBlkNe; exact rfl) | apply W.skipAft | apply W.skipBlk | apply W.retCut | apply W.exitCut | apply R.skip))
      refine R.guardC1 rfl rfl rfl (fun h2 => ?_) (fun h2 => ?_)
      · refine R.op0 (O.call rfl rfl ret38) rfl ?_
        (repeat (first | (apply R.op0; (first | exact O.move rfl | exact O.assign rfl | exact O.fieldP rfl rfl rfl rfl | exact O.loadP rfl rfl rfl (by first | rfl | assumption) rfl | exact O.cmp rfl rfl rfl | exact O.int rfl rfl (add64 (by omega)) | exact O.int rfl rfl (sub64 (by omega)) | exact O.int rfl rfl (add8 (by omega)) | exact O.pickT rfl (by first | with_reducible rfl | with_reducible assumption | decide) rfl | exact O.pickF rfl (by first | with_reducible rfl | with_reducible assumption | decide) rfl | exact O.lenL rfl rfl | exact O.lenSv rfl rfl | exact O.lenS rfl rfl | exact O.not rfl | exact O.svEq rfl rfl | exact O.svNe rfl rfl | exact O.str rfl rfl rfl | exact O.boolEq rfl rfl rfl | exact O.fieldE rfl rfl rfl rfl | exact O.fieldR rfl rfl rfl rfl | exact O.loadPA rfl rfl (by first | rfl | assumption) rfl rfl | exact O.extr rfl rfl); exact rfl) | (apply R.guardT1; exact rfl; exact rfl; (first | with_reducible rfl | with_reducible assumption | decide)) | (apply R.guardT0; exact rfl; exact rfl; (first | with_reducible rfl | with_reducible assumption | decide)) | (apply R.guardF1; exact rfl; exact rfl; (first | with_reducible rfl | with_reducible assumption | decide); exact rfl) | (apply R.guardF0; exact rfl; exact rfl; (first | with_reducible rfl | with_reducible assumption | decide); exact rfl) | (apply R.guardN; exact rfl; exact rfl; exact rfl) | apply R.done | apply W.seq | apply W.region | apply W.draw | apply W.block | (apply W.condT; exact rfl; (first | with_reducible rfl | with_reducible assumption | decide)) | (apply W.condF; exact rfl; (first | with_reducible rfl | with_reducible assumption | decide)) | apply W.retAft | apply W.retBlk | apply W.retLop | apply W.exitAft | apply W.exitLop | apply W.exitBlk | (apply W.exitBlkNe; exact rfl) | apply W.skipAft | apply W.skipBlk | apply W.retCut | apply W.exitCut | apply R.skip))
        refine R.op0 (O.lookF rfl rfl rfl rfl rfl (kw_at s)) rfl ?_
        (repeat (first | (apply R.op0; (first | exact O.move rfl | exact O.assign rfl | exact O.fieldP rfl rfl rfl rfl | exact O.loadP rfl rfl rfl (by first | rfl | assumption) rfl | exact O.cmp rfl rfl rfl | exact O.int rfl rfl (add64 (by omega)) | exact O.int rfl rfl (sub64 (by omega)) | exact O.int rfl rfl (add8 (by omega)) | exact O.pickT rfl (by first | with_reducible rfl | with_reducible assumption | decide) rfl | exact O.pickF rfl (by first | with_reducible rfl | with_reducible assumption | decide) rfl | exact O.lenL rfl rfl | exact O.lenSv rfl rfl | exact O.lenS rfl rfl | exact O.not rfl | exact O.svEq rfl rfl | exact O.svNe rfl rfl | exact O.str rfl rfl rfl | exact O.boolEq rfl rfl rfl | exact O.fieldE rfl rfl rfl rfl | exact O.fieldR rfl rfl rfl rfl | exact O.loadPA rfl rfl (by first | rfl | assumption) rfl rfl | exact O.extr rfl rfl); exact rfl) | (apply R.guardT1; exact rfl; exact rfl; (first | with_reducible rfl | with_reducible assumption | decide)) | (apply R.guardT0; exact rfl; exact rfl; (first | with_reducible rfl | with_reducible assumption | decide)) | (apply R.guardF1; exact rfl; exact rfl; (first | with_reducible rfl | with_reducible assumption | decide); exact rfl) | (apply R.guardF0; exact rfl; exact rfl; (first | with_reducible rfl | with_reducible assumption | decide); exact rfl) | (apply R.guardN; exact rfl; exact rfl; exact rfl) | apply R.done | apply W.seq | apply W.region | apply W.draw | apply W.block | (apply W.condT; exact rfl; (first | with_reducible rfl | with_reducible assumption | decide)) | (apply W.condF; exact rfl; (first | with_reducible rfl | with_reducible assumption | decide)) | apply W.retAft | apply W.retBlk | apply W.retLop | apply W.exitAft | apply W.exitLop | apply W.exitBlk | (apply W.exitBlkNe; exact rfl) | apply W.skipAft | apply W.skipBlk | apply W.retCut | apply W.exitCut | apply R.skip))
        refine W.retFin1 rfl ⟨[], ?_⟩
        have h1' := of_decide_eq_true h1
        have h2' := of_decide_eq_true h2
        simp [nameOk, hlow, peek]
        omega
      · (repeat (first | (apply R.op0; (first | exact O.move rfl | exact O.assign rfl | exact O.fieldP rfl rfl rfl rfl | exact O.loadP rfl rfl rfl (by first | rfl | assumption) rfl | exact O.cmp rfl rfl rfl | exact O.int rfl rfl (add64 (by omega)) | exact O.int rfl rfl (sub64 (by omega)) | exact O.int rfl rfl (add8 (by omega)) | exact O.pickT rfl (by first | with_reducible rfl | with_reducible assumption | decide) rfl | exact O.pickF rfl (by first | with_reducible rfl | with_reducible assumption | decide) rfl | exact O.lenL rfl rfl | exact O.lenSv rfl rfl | exact O.lenS rfl rfl | exact O.not rfl | exact O.svEq rfl rfl | exact O.svNe rfl rfl | exact O.str rfl rfl rfl | exact O.boolEq rfl rfl rfl | exact O.fieldE rfl rfl rfl rfl | exact O.fieldR rfl rfl rfl rfl | exact O.loadPA rfl rfl (by first | rfl | assumption) rfl rfl | exact O.extr rfl rfl); exact rfl) | (apply R.guardT1; exact rfl; exact rfl; (first | with_reducible rfl | with_reducible assumption | decide)) | (apply R.guardT0; exact rfl; exact rfl; (first | with_reducible rfl | with_reducible assumption | decide)) | (apply R.guardF1; exact rfl; exact rfl; (first | with_reducible rfl | with_reducible assumption | decide); exact rfl) | (apply R.guardF0; exact rfl; exact rfl; (first | with_reducible rfl | with_reducible assumption | decide); exact rfl) | (apply R.guardN; exact rfl; exact rfl; exact rfl) | apply R.done | apply W.seq | apply W.region | apply W.draw | apply W.block | (apply W.condT; exact rfl; (first | with_reducible rfl | with_reducible assumption | decide)) | (apply W.condF; exact rfl; (first | with_reducible rfl | with_reducible assumption | decide)) | apply W.retAft | apply W.retBlk | apply W.retLop | apply W.exitAft | apply W.exitLop | apply W.exitBlk | (apply W.exitBlkNe; exact rfl) | apply W.skipAft | apply W.skipBlk | apply W.retCut | apply W.exitCut | apply R.skip))
        refine W.retFin1 rfl ⟨[], ?_⟩
        have h2' := of_decide_eq_false h2
        simp [nameOk, hlow, peek]
        omega
    · (repeat (first | (apply R.op0; (first | exact O.move rfl | exact O.assign rfl | exact O.fieldP rfl rfl rfl rfl | exact O.loadP rfl rfl rfl (by first | rfl | assumption) rfl | exact O.cmp rfl rfl rfl | exact O.int rfl rfl (add64 (by omega)) | exact O.int rfl rfl (sub64 (by omega)) | exact O.int rfl rfl (add8 (by omega)) | exact O.pickT rfl (by first | with_reducible rfl | with_reducible assumption | decide) rfl | exact O.pickF rfl (by first | with_reducible rfl | with_reducible assumption | decide) rfl | exact O.lenL rfl rfl | exact O.lenSv rfl rfl | exact O.lenS rfl rfl | exact O.not rfl | exact O.svEq rfl rfl | exact O.svNe rfl rfl | exact O.str rfl rfl rfl | exact O.boolEq rfl rfl rfl | exact O.fieldE rfl rfl rfl rfl | exact O.fieldR rfl rfl rfl rfl | exact O.loadPA rfl rfl (by first | rfl | assumption) rfl rfl | exact O.extr rfl rfl); exact rfl) | (apply R.guardT1; exact rfl; exact rfl; (first | with_reducible rfl | with_reducible assumption | decide)) | (apply R.guardT0; exact rfl; exact rfl; (first | with_reducible rfl | with_reducible assumption | decide)) | (apply R.guardF1; exact rfl; exact rfl; (first | with_reducible rfl | with_reducible assumption | decide); exact rfl) | (apply R.guardF0; exact rfl; exact rfl; (first | with_reducible rfl | with_reducible assumption | decide); exact rfl) | (apply R.guardN; exact rfl; exact rfl; exact rfl) | apply R.done | apply W.seq | apply W.region | apply W.draw | apply W.block | (apply W.condT; exact rfl; (first | with_reducible rfl | with_reducible assumption | decide)) | (apply W.condF; exact rfl; (first | with_reducible rfl | with_reducible assumption | decide)) | apply W.retAft | apply W.retBlk | apply W.retLop | apply W.exitAft | apply W.exitLop | apply W.exitBlk | (apply W.exitBlkNe; exact rfl) | apply W.skipAft | apply W.skipBlk | apply W.retCut | apply W.exitCut | apply R.skip))
      refine W.retFin1 rfl ⟨[], ?_⟩
      have h1' := of_decide_eq_false h1
      simp [nameOk, hlow, peek]
      omega
end Go.Abs
