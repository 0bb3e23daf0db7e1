/- The abstract interpreter: how its relation to the machine is kept. -/
import Derived.Test.YtpkmljhdaijanaaAbsRel
namespace Go.Abs

variable {M M' : Mem} {ρ ρ' : Ref} {G G' : Nat → Obj} {w w' : World} {nx : Nat} {Q : Nat → Prop}

theorem VL.imp {α : Type} {P P' : α → Value → Prop} {l : List α} {vs : Array Value} (h : VL P l vs) (hp : ∀ x v, P x v → P' x v) : VL P' l vs :=
  ⟨h.1, fun i x hx => hp _ _ (h.2 i x hx)⟩

theorem Lay.imp {α : Type} {cells : α → List α} {P P' : α → Value → Prop} {sz off : Nat} {l : List α} {vs : Array Value} (h : Lay cells P sz off l vs) (hp : ∀ x v, P x v → P' x v) : Lay cells P' sz off l vs :=
  ⟨h.len, h.fit, fun i x j y hx hy => hp _ _ (h.cell i x j y hx hy)⟩

theorem Mem.ne (h : M.le M') {b : Nat} (hb : M b ≠ none) : M' b ≠ none := by
  cases e : M b with
  | none => exact absurd e hb
  | some o => rw [h b o e]; simp

theorem ownsRow_heap {base n sz : Nat} {et : TypeId} {v : Value} {cs : List Value} (h : w.ownsRow base et sz v n cs) (hw : ∀ b, blk v = some b → w'.heap[b]? = w.heap[b]?) : w'.ownsRow base et sz v n cs := by
  refine ⟨h.1, ?_⟩
  rcases h.2 with h | ⟨g, cap, cur, rfl, h1, h2, h3⟩
  · exact .inl h
  · exact .inr ⟨g, cap, cur, rfl, h1, (hw g rfl).trans h2, h3⟩

theorem RowIs.mono {sz : Nat} {xs : List AV} {cs : List Value} (h : RowIs M ρ G sz xs cs) (hv : Ev M ρ G M' ρ' G') : RowIs M' ρ' G' sz xs cs :=
  ⟨h.fit, fun i x j y hx hy => (h.cell i x j y hx hy).mono hv⟩

/-- An object that isn't touched. -/
theorem ObjOK.mono {o : Nat} (h : ObjOK w M ρ G o) (hG : G' o = G o) (hr : ρ' o = ρ o) (hv : Ev M ρ G M' ρ' G')
    (hw : ∀ v b, ρ o = some v → blk v = some b → w'.heap[b]? = w.heap[b]?) : ObjOK w' M' ρ' G' o := by
  have hm := hv.mem
  unfold ObjOK at *
  rw [hG, hr]
  cases e : G o with
  | gone => trivial
  | box cs fr =>
    rw [e] at h
    obtain ⟨b, vs, e', h1, h2, h3, h4⟩ := h
    exact ⟨b, vs, e', h1, (hw _ b h1 rfl).trans h2, h3.imp fun _ _ => VA.mono hv, fun hf => Mem.ne hm (h4 hf)⟩
  | row et sz xs fr =>
    rw [e] at h
    obtain ⟨h0, v, cs, h1, h2, h3, h4⟩ := h
    exact ⟨h0, v, cs, h1, ownsRow_heap h2 (hw v · h1), h3.mono hv, fun hf b hb => Mem.ne hm (h4 hf b hb)⟩
  | mp ks vs fr =>
    rw [e] at h
    obtain ⟨b, es, clk, h1, h2, h3, h4, h5, h6, h7, h8⟩ := h
    exact ⟨b, es, clk, h1, (hw _ b h1 rfl).trans h2, h3, h4, fun i x hx => (h5 i x hx).mono hm, fun i x hx => (h6 i x hx).mono hv, fun hf => Mem.ne hm (h7 hf), h8⟩
  | it ks vs done =>
    rw [e] at h
    obtain ⟨r, h1, h2⟩ := h
    refine ⟨r, h1, ?_⟩
    rw [hw _ r h1 rfl]
    rcases h2 with h2 | ⟨bm, es, clk, seen, h2, h3, h4, h6, h7, h8, h9, h10, h11⟩
    · exact .inl h2
    · exact .inr ⟨bm, es, clk, seen, h2, hm _ _ h3, h4, h6, h7, h8, fun i x hx => (h9 i x hx).mono hm, fun i x hx => (h10 i x hx).mono hm, h11⟩
  | lp tmps nt params assign body fn st pending =>
    rw [e] at h
    obtain ⟨l, r, h1, h2, h3⟩ := h
    exact ⟨l, r, h1, (hw _ l h1 rfl).trans h2, { h3 with tmps := fun t => (h3.tmps t).mono hv }⟩

theorem live_ne_gone {x : Obj} : x.live = true ↔ x ≠ .gone := by cases x <;> simp [Obj.live]

theorem Inv.born (h : Inv Q w M ρ G nx) {o : Nat} (hl : (G o).live = true) : ∃ v, ρ o = some v := by
  cases e : ρ o with
  | none => rw [h.gone o e] at hl; simp [Obj.live] at hl
  | some v => exact ⟨v, rfl⟩

/-- A live object's block is there. -/
theorem Inv.lt (h : Inv Q w M ρ G nx) {o b : Nat} {v : Value} (hl : (G o).live = true) (hv : ρ o = some v) (hb : blk v = some b) : b < w.heap.size := by
  have := h.obj o
  unfold ObjOK at this
  cases e : G o with
  | gone => rw [e] at hl; simp [Obj.live] at hl
  | box cs fr =>
    rw [e] at this
    obtain ⟨b', vs, e', h1, h2, _⟩ := this
    rw [hv] at h1; cases h1; simp [blk] at hb; subst hb
    exact (Array.getElem?_eq_some_iff.1 h2).1
  | row et sz xs fr =>
    rw [e] at this
    obtain ⟨_, v', cs, h1, h2, _⟩ := this
    rw [hv] at h1; cases h1
    rcases h2.2 with ⟨rfl, _⟩ | ⟨g, cap, cur, rfl, _, h3, _⟩
    · simp [blk] at hb
    · simp [blk] at hb; subst hb; exact (Array.getElem?_eq_some_iff.1 h3).1
  | mp ks vs fr =>
    rw [e] at this
    obtain ⟨b', es, clk, h1, h2, _⟩ := this
    rw [hv] at h1; cases h1; simp [blk] at hb; subst hb
    exact (Array.getElem?_eq_some_iff.1 h2).1
  | it ks vs done =>
    rw [e] at this
    obtain ⟨r, h1, h2⟩ := this
    rw [hv] at h1; cases h1; simp [blk] at hb; subst hb
    rcases h2 with ⟨h2, _⟩ | ⟨_, _, _, _, h2, _⟩
    · exact (Array.getElem?_eq_some_iff.1 h2).1
    · exact (Array.getElem?_eq_some_iff.1 h2).1
  | lp tmps nt params assign body fn st pending =>
    rw [e] at this
    obtain ⟨l, r, h1, h2, _⟩ := this
    rw [hv] at h1; cases h1; simp [blk] at hb; subst hb
    exact (Array.getElem?_eq_some_iff.1 h2).1

/-- One object is made, or becomes another one. -/
theorem Inv.put (h : Inv Q w M ρ G nx) {q : Nat} {x : Obj} {r : Value} (hq : q < nx) (hv : Ev M ρ G M (upd ρ q (some r)) (upd G q x))
    (hw : ∀ b, w'.heap[b]? = w.heap[b]? ∨ w.heap.size ≤ b ∨ ((G q).live = true ∧ (G q).frozen = false ∧ ∃ v, ρ q = some v ∧ blk v = some b))
    (hsz : w.heap.size ≤ w'.heap.size) (hx : ObjOK w' M (upd ρ q (some r)) (upd G q x) q)
    (hb : ∀ b, blk r = some b → w.heap.size ≤ b ∨ ((G q).live = true ∧ (G q).frozen = false ∧ ∃ v, ρ q = some v ∧ blk v = some b))
    :
    Inv Q w' M (upd ρ q (some r)) (upd G q x) nx := by
  have hout : ∀ o v b, o ≠ q → (G o).live = true → ρ o = some v → blk v = some b → w'.heap[b]? = w.heap[b]? := by
    intro o v b hne hl hv hb
    rcases hw b with h1 | h1 | ⟨hlq, _, v', hv', hb'⟩
    · exact h1
    · have := h.lt hl hv hb; omega
    · exact absurd (h.sep o q v v' b hl hlq hv hv' hb hb') hne
  refine ⟨fun b o hm => ?_, fun o => ?_, fun o ho => ?_, fun o ho => ?_, ?_, ?_, fun b hb => h.new b (by omega)⟩
  · have hb := h.mem b o hm
    rcases hw b with h1 | h1 | ⟨hlq, hfq, v', hv', hb'⟩
    · rw [h1]; exact hb
    · have := (Array.getElem?_eq_some_iff.1 hb).1; omega
    · have := (h.own q v' b hlq hfq hv' hb').1; rw [hm] at this; cases this
  · by_cases hoq : o = q
    · subst hoq; exact hx
    · by_cases hl : (G o).live = true
      · exact (h.obj o).mono (by simp [upd, hoq]) (by simp [upd, hoq]) hv (fun v b hv' hb' => hout o v b hoq hl hv' hb')
      · have : G o = .gone := by cases e : G o <;> simp_all [Obj.live]
        unfold ObjOK; simp [upd, hoq, this]
  · simp only [upd]; rw [if_neg (by omega)]; exact h.free o ho
  · by_cases hoq : o = q
    · subst hoq; simp [upd] at ho
    · simp only [upd, if_neg hoq] at ho ⊢; exact h.gone o ho
  · intro o o' v v' b hl hl' hv1 hv2 hb1 hb2
    by_cases ho : o = q
    · by_cases ho' : o' = q
      · rw [ho, ho']
      · exfalso
        subst ho
        simp only [upd, if_true, Option.some.injEq] at hv1
        subst hv1
        simp only [upd, if_neg ho'] at hl' hv2
        rcases hb b hb1 with h1 | ⟨h1, _, v0, h2, h3⟩
        · have := h.lt hl' hv2 hb2; omega
        · exact ho' (h.sep o' o v' v0 b hl' h1 hv2 h2 hb2 h3)
    · by_cases ho' : o' = q
      · exfalso
        subst ho'
        simp only [upd, if_true, Option.some.injEq] at hv2
        subst hv2
        simp only [upd, if_neg ho] at hl hv1
        rcases hb b hb2 with h1 | ⟨h1, _, v0, h2, h3⟩
        · have := h.lt hl hv1 hb1; omega
        · exact ho (h.sep o o' v v0 b hl h1 hv1 h2 hb1 h3)
      · simp only [upd, if_neg ho] at hl hv1
        simp only [upd, if_neg ho'] at hl' hv2
        exact h.sep o o' v v' b hl hl' hv1 hv2 hb1 hb2
  · intro o v b hl hfr hv1 hb1
    by_cases ho : o = q
    · subst ho
      simp only [upd, if_true, Option.some.injEq] at hv1
      subst hv1
      rcases hb b hb1 with h1 | ⟨h1, h1', v0, h2, h3⟩
      · refine ⟨?_, h.new b h1⟩
        cases e : M b with
        | none => rfl
        | some x' => have := (Array.getElem?_eq_some_iff.1 (h.mem b x' e)).1; omega
      · exact h.own o v0 b h1 h1' h2 h3
    · simp only [upd, if_neg ho] at hl hfr hv1
      exact h.own o v b hl hfr hv1 hb1

/-- The world turns where nothing is known. -/
theorem Inv.world (h : Inv Q w M ρ G nx) (hw : ∀ b, b < w.heap.size → w'.heap[b]? = w.heap[b]?) (hsz : w.heap.size ≤ w'.heap.size) : Inv Q w' M ρ G nx := by
  refine ⟨fun b o hm => ?_, fun o => ?_, h.free, h.gone, h.sep, h.own, fun b hb => h.new b (by omega)⟩
  · have := h.mem b o hm
    rw [hw b (Array.getElem?_eq_some_iff.1 this).1]; exact this
  · by_cases hl : (G o).live = true
    · exact (h.obj o).mono rfl rfl (Ev.refl _ _ _) fun v b hv hb => hw b (h.lt hl hv hb)
    · have : G o = .gone := by cases e : G o <;> simp_all [Obj.live]
      unfold ObjOK; rw [this]; trivial

theorem WS.alloc (h : ∀ b, w.heap.size ≤ b → Q b) (o : Go.Obj) : WS Q w (w.alloc o) :=
  ⟨rfl, rfl, rfl, by simp, fun b hb => by
    have : b < w.heap.size := by
      rcases Nat.lt_or_ge b w.heap.size with h1 | h1
      · exact h1
      · exact absurd (h b h1) hb
    exact Go.RowKit.Below.heap_alloc w o b this⟩

/-- A new object. -/
theorem Ev.new {q : Nat} {x : Obj} {r : Value} (hq : ρ q = none) : Ev M ρ G M (upd ρ q (some r)) (upd G q x) := by
  refine ⟨Mem.le_refl M, fun o v h => .inl ?_, fun o hb et sz xs fr h => ?_⟩
  · have : o ≠ q := fun e => by subst e; rw [hq] at h; cases h
    simp [upd, this, h]
  · have : o ≠ q := fun e => by subst e; exact hb hq
    simp only [upd, if_neg this] at h ⊢
    exact ⟨xs, fr, h, Nat.le_refl _, fun _ => trivial⟩

/-- An object that stays where it is, and keeps its length if it is a row. -/
theorem Ev.same {q : Nat} {x : Obj} {r : Value} (hq : ρ q = some r) (hx : ∀ et sz xs fr, x = .row et sz xs fr → ∃ xs0 fr0, G q = .row et sz xs0 fr0 ∧ xs0.length = xs.length) :
    Ev M ρ G M (upd ρ q (some r)) (upd G q x) := by
  have e : upd ρ q (some r) = ρ := by funext o; by_cases h : o = q <;> simp [upd, h, hq]
  rw [e]
  refine ⟨Mem.le_refl M, fun o v h => .inl h, fun o hb et sz xs fr h => ?_⟩
  by_cases ho : o = q
  · subst ho
    simp only [upd, if_true] at h
    obtain ⟨xs0, fr0, h1, h2⟩ := hx et sz xs fr h
    exact ⟨xs0, fr0, h1, by omega, fun _ => rfl⟩
  · simp only [upd, if_neg ho] at h
    exact ⟨xs, fr, h, Nat.le_refl _, fun _ => rfl⟩

end Go.Abs
