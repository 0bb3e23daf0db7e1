/- The abstract interpreter: reading. -/
import Derived.Test.YtpkmljhdaijanaaAbsVals
namespace Go.Abs

variable {M M' : Mem} {ρ ρ' : Ref} {G G' : Nat → Obj} {w w' : World} {nx : Nat} {Q : Nat → Prop} {P : Program}

theorem sub_some {α : Type} {l : List α} {off n : Nat} {cs : List α} (h : sub l off n = some cs) : off + n ≤ l.length ∧ cs = (l.drop off).take n := by
  unfold sub at h
  split at h
  · cases h; exact ⟨by assumption, rfl⟩
  · cases h

theorem sub_get {α : Type} {l : List α} {off n : Nat} {cs : List α} (h : sub l off n = some cs) : off + n ≤ l.length ∧ cs.length = n ∧ ∀ (j : Nat) y, cs[j]? = some y → j < n ∧ l[off + j]? = some y := by
  obtain ⟨h1, rfl⟩ := sub_some h
  refine ⟨h1, by simp; omega, fun j y hy => ?_⟩
  have hj : j < n := by
    have := (List.getElem?_eq_some_iff.1 hy).1
    simp at this; omega
  rw [List.getElem?_take, if_pos hj, List.getElem?_drop] at hy
  exact ⟨hj, hy⟩

/-- Cells that are known, at a place. -/
def CellsAt (w : World) (M : Mem) (ρ : Ref) (G : Nat → Obj) (cs : List AV) (b off : Nat) : Prop :=
  ∃ vs e fr, w.heap[b]? = some (.cells vs e fr) ∧ off + cs.length ≤ vs.size ∧ ∀ (j : Nat) y, cs[j]? = some y → VA M ρ G y (at_ vs (off + j))

theorem list_getD_take {l : List Value} {n i : Nat} (h : i < n) : (l.take n).getD i Go.undef = l.getD i Go.undef := by
  simp [List.getD_eq_getElem?_getD, h]

theorem at_list (vs : Array Value) (i : Nat) : vs.toList.getD i Go.undef = at_ vs i := by
  simp [at_, List.getD_eq_getElem?_getD, Array.getD_eq_getD_getElem?]

theorem imm_get {l : List IV} {j : Nat} {y : AV} (h : (l.map AV.imm)[j]? = some y) : ∃ z, y = .imm z ∧ l[j]? = some z := by
  rw [List.getElem?_map] at h
  cases e : l[j]? with
  | none => rw [e] at h; cases h
  | some z => rw [e] at h; cases h; exact ⟨z, rfl, rfl⟩

/-- A row's block. -/
theorem row_block {et : TypeId} {sz : Nat} {xs : List AV} {fr : Bool} {q : Nat} (hI : Inv Q w M ρ G nx) (hG : G q = .row et sz xs fr) {b l c : Nat} (hr : ρ q = some (.slice (some ⟨b, 0, none⟩) l c)) :
    l = xs.length ∧ 0 < sz ∧ l ≤ c ∧ c ≤ maxLen ∧ ∃ cur, w.heap[b]? = some (.cells cur et (0, 0)) ∧ cur.size = c * sz ∧ (∀ x ∈ xs, x.fits sz = true) ∧
      ∀ (i : Nat) x (j : Nat) y, xs[i]? = some x → x.cells[j]? = some y → VA M ρ G y (at_ cur (i * sz + j)) := by
  have := hI.obj q
  unfold ObjOK at this
  rw [hG] at this
  obtain ⟨h0, v, cs, h1, h2, h3, h4⟩ := this
  rw [hr] at h1; cases h1
  rcases h2.2 with ⟨h, _⟩ | ⟨g, cap, cur, h, _, h5, h6, h7, h8, h9⟩
  · cases h
  · cases h
    refine ⟨rfl, h0, h6, h7, cur, h5, h8, h3.fit, fun i x j y hx hy => ?_⟩
    have hi := (List.getElem?_eq_some_iff.1 hx).1
    have hj := (List.getElem?_eq_some_iff.1 hy).1
    have hl := AV.fits_len (h3.fit x (List.mem_of_getElem? hx))
    have hlt : i * sz + j < xs.length * sz := by
      have : i * sz + sz ≤ xs.length * sz := by rw [← Nat.succ_mul]; exact Nat.mul_le_mul_right _ hi
      omega
    have := h3.cell i x j y hx hy
    rw [← h9, list_getD_take hlt, at_list] at this
    exact this

theorem readAt_ok {n : Nat} {a : AV} {c : Value} {cs : List AV} (h : readAt G n a = some cs) (hI : Inv Q w M ρ G nx) (ha : VA M ρ G a c) :
    cs.length = n ∧ ∃ b off, c = .pointer (some ⟨b, off, none⟩) ∧ CellsAt w M ρ G cs b off := by
  cases a with
  | ptr o off =>
    simp only [readAt] at h
    split at h
    · rename_i bs fr e
      obtain ⟨h1, h2, h3⟩ := sub_get h
      cases ha with
      | ptr _ _ b hr =>
        have := hI.obj o
        unfold ObjOK at this
        rw [e] at this
        obtain ⟨b', vs, e', g1, g2, g3, _⟩ := this
        rw [hr] at g1; cases g1
        refine ⟨h2, b, off, rfl, vs, e', _, g2, by rw [h2, ← g3.1]; exact h1, fun j y hy => ?_⟩
        exact g3.2 _ _ (h3 j y hy).2
    · cases h
  | rptr o m i off =>
    simp only [readAt] at h
    split at h
    · rename_i et sz xs fr e
      split at h
      · rename_i hm
        split at h
        · rename_i x hx
          obtain ⟨h1, h2, h3⟩ := sub_get h
          cases ha with
          | rptr _ _ _ _ b f hb hr1 =>
            obtain ⟨_, hr2⟩ := hr1 et sz xs fr e
            obtain ⟨l, c, hr3, rfl⟩ := hr2 hm.symm
            obtain ⟨rfl, h0, _, _, cur, g1, g2, g3, g4⟩ := row_block hI e hr3
            have hl := AV.fits_len (g3 x (List.mem_of_getElem? hx))
            have hi := (List.getElem?_eq_some_iff.1 hx).1
            refine ⟨h2, b, _, rfl, cur, et, _, g1, ?_, fun j y hy => ?_⟩
            · have h5 : i * sz + sz ≤ xs.length * sz := by rw [← Nat.succ_mul]; exact Nat.mul_le_mul_right _ hi
              have h6 : xs.length * sz ≤ c * sz := Nat.mul_le_mul_right _ (by omega)
              rw [h2]; omega
            · have := g4 i x (off + j) y hx (h3 j y hy).2
              rw [show i * sz + off + j = i * sz + (off + j) by omega]; exact this
        · cases h
      · cases h
    · cases h
  | imm x =>
    cases ha with
    | imm _ _ hv =>
    cases x with
    | fptr bs off =>
      simp only [readAt, Option.map_eq_some_iff] at h
      obtain ⟨l, h, rfl⟩ := h
      obtain ⟨h1, h2, h3⟩ := sub_get h
      cases hv with
      | fptr _ _ b vs e fr o0 hM hz hl =>
        refine ⟨by simpa using h2, b, _, rfl, vs, e, fr, hI.mem _ _ hM, by simp; omega, fun j y hy => ?_⟩
        obtain ⟨z, rfl, hz⟩ := imm_get hy
        have := hl _ _ (h3 j z hz).2
        rw [show o0 + off + j = o0 + (off + j) by omega]
        exact .imm _ _ this
    | eptr xs i off =>
      simp only [readAt] at h
      split at h
      · rename_i x hx
        simp only [Option.map_eq_some_iff] at h
        obtain ⟨l, h, rfl⟩ := h
        obtain ⟨h1, h2, h3⟩ := sub_get h
        cases hv with
        | eptr _ _ _ b vs e fr o0 sz hM hs hz1 hz2 hl =>
          have hi := (List.getElem?_eq_some_iff.1 hx).1
          have hxl := hz1 i x hx
          have h5 : i * sz + sz ≤ xs.length * sz := by rw [← Nat.succ_mul]; exact Nat.mul_le_mul_right _ hi
          refine ⟨by simpa using h2, b, _, rfl, vs, e, fr, hI.mem _ _ hM, by simp; omega, fun j y hy => ?_⟩
          obtain ⟨z, rfl, hz⟩ := imm_get hy
          have := hl i x (off + j) z hx (h3 j z hz).2
          rw [show o0 + i * sz + off + j = o0 + i * sz + (off + j) by omega]
          exact .imm _ _ this
      · cases h
    | _ => simp [readAt] at h
  | _ => simp [readAt] at h

theorem add_none (b off n : Nat) : (⟨b, off, none⟩ : Addr).add n = ⟨b, off + n, none⟩ := Addr.add_lit b off n

theorem cell_at {w : World} {b i : Nat} {vs : Array Value} {e : TypeId} {fr : Nat × Nat} (hg : w.heap[b]? = some (.cells vs e fr)) (hi : i < vs.size) : w.cell? ⟨b, i, none⟩ = some (at_ vs i) := by
  rw [cell_of_row w b i vs e fr hg]
  simp [at_, Array.getD_eq_getD_getElem?, hi]

theorem loadVar_ok {t : TypeId} {i : TyI} {cs : List AV} {b off : Nat} (ht : tyOf P t = some i) (hc : CellsAt w M ρ G cs b off) (hn : cs.length = i.sz) (h1c : i.d.isAgg = false → ∃ v, cs = [v]) :
    ∃ u, (loadVar t ⟨b, off, none⟩).run P w = .ok u w ∧ (if i.d.isAgg then VA M ρ G (mkAgg cs) u else ∀ v, cs = [v] → VA M ρ G v u) := by
  obtain ⟨info, zv, d, h1, h2, h3, _, h4, h5, _⟩ := tyOf_some ht
  obtain ⟨vs, e, fr, g1, g2, g3⟩ := hc
  have hld : (loadCells ⟨b, off, none⟩ info.size).run P w = .ok ((List.range info.size).map fun j => at_ vs (off + j)).toArray w :=
    run_loadCells w ⟨b, off, none⟩ info.size _ fun j hj => by rw [add_none]; exact cell_at g1 (by omega)
  simp only [loadVar, Sem.run_bind, run_isAgg' h2, Result.andThen_ok, ← h4]
  cases hag : i.d.isAgg with
  | true =>
    simp only [if_true, Sem.run_bind, run_sizeOf' h1, Result.andThen_ok, hld, Sem.run_pure]
    refine ⟨_, rfl, VA_mkAgg ⟨by simp; omega, fun j y hy => ?_⟩⟩
    have hj := (List.getElem?_eq_some_iff.1 hy).1
    have : at_ ((List.range info.size).map fun j => at_ vs (off + j)).toArray j = at_ vs (off + j) := by
      apply at_toList; simp [List.getElem?_range (show j < info.size by omega)]
    rw [this]; exact g3 j y hy
  | false =>
    simp only [Bool.false_eq_true, if_false]
    obtain ⟨v0, rfl⟩ := h1c hag
    have h0 : off < vs.size := by simp at g2; omega
    refine ⟨at_ vs off, by rw [run_load, cell_at g1 h0], fun v hv => ?_⟩
    cases hv
    exact g3 0 v0 rfl

/-! ### writing -/
theorem aLoad_ok {t : TypeId} {a v : AV} {c : Value} {ups : List (Nat × U)} {C : Cfg} (h : aLoad C G t a = some (.val v ups)) (hI : Inv Q w M ρ G nx) (ha : VA M ρ G a c) :
    ups = [] ∧ ∃ u, (Instr.loadAt t c).run C.P w = .ok u w ∧ VA M ρ G v u := by
  unfold aLoad at h
  split at h
  · rename_i i hi
    split at h
    · rename_i cs hcs
      obtain ⟨hn, b, off, rfl, hc⟩ := readAt_ok hcs hI ha
      have hl : ∀ (hone : i.d.isAgg = false → ∃ v, cs = [v]), ∃ u, (Instr.loadAt t (.pointer (some ⟨b, off, none⟩))).run C.P w = .ok u w ∧ (if i.d.isAgg then VA M ρ G (mkAgg cs) u else ∀ v, cs = [v] → VA M ρ G v u) := by
        intro hone
        obtain ⟨u, h1, h2⟩ := loadVar_ok (P := C.P) hi hc hn hone
        exact ⟨u, by simp [Instr.loadAt, Instr.sureAddr, h1], h2⟩
      split at h
      · rename_i hag
        cases h
        obtain ⟨u, h1, h2⟩ := hl (fun e => by rw [hag] at e; cases e)
        rw [if_pos hag] at h2
        exact ⟨rfl, u, h1, h2⟩
      · rename_i hag
        split at h
        · rename_i v'
          cases h
          obtain ⟨u, h1, h2⟩ := hl (fun _ => ⟨_, rfl⟩)
          rw [if_neg hag] at h2
          exact ⟨rfl, u, h1, h2 _ rfl⟩
        · cases h
    · cases h
  · cases h

end Go.Abs
