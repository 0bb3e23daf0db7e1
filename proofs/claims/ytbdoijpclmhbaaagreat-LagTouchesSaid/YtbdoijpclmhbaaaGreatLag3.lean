/- The abstract interpreter: operations. -/
import Derived.Test.YtbdoijpclmhbaaaGreatLag2
import Derived.Laws.MakeOwn
namespace Go.Abs
variable {id : Nat}
variable {M M' : Mem} {ρ ρ' : Ref} {G G' : Nat → Obj} {w w' : World} {nx : Nat} {Q : Nat → Prop} {P : Program} {C : Cfg}
def MQ (Q : Nat → Prop) (M M' : Mem) : Prop := ∀ b, M' b ≠ none → M b ≠ none ∨ Q b
theorem MQ.refl (Q : Nat → Prop) (M : Mem) : MQ Q M M := fun _ h => .inl h
theorem MQ.trans {A B D : Mem} (h : MQ Q A B) (k : MQ Q B D) : MQ Q A D := fun b hb => (k b hb).elim (h b) .inr
def Good (id : Nat) (Q : Nat → Prop) (M : Mem) (ρ : Ref) (G : Nat → Obj) (nx : Nat) (w : World) (G' : Nat → Obj) (v : AV) (r : Result Next) : Prop :=
  ∃ nxt c w' M' ρ', r = .ok nxt w' ∧ (nxt = .value c ∨ nxt = .skip ∧ c = Go.undef) ∧ Ev M ρ G M' ρ' G' ∧ Inv Q w' M' ρ' G' nx ∧ VA M' ρ' G' v c ∧ WS Q w w' ∧ MQ Q M M' ∧ ∀ o, o ≠ id → ρ o = none → ρ' o = none
theorem Good.pure {v : AV} {c : Value} {r : Result Next} (hI : Inv Q w M ρ G nx) (hr : r = .ok (.value c) w) (hv : VA M ρ G v c) : Good id Q M ρ G nx w G v r :=
  ⟨_, c, w, M, ρ, hr, .inl rfl, Ev.refl _ _ _, hI, hv, WS.refl _ _, MQ.refl _ _, fun _ _ e => e⟩
def vNext (s : Sem Value) : Sem Next := do pure (.value (← s))
def uNext (s : Sem Unit) : Sem Next := do s; pure .skip
theorem run_vNext {s : Sem Value} {c : Value} (h : s.run P w = .ok c w') : (vNext s).run P w = .ok (.value c) w' := by simp [vNext, h]
theorem run_uNext {s : Sem Unit} {u : Unit} (h : s.run P w = .ok u w') : (uNext s).run P w = .ok .skip w' := by simp [uNext, h]
theorem good_box {id : Nat} {cs : List AV} {vs : Array Value} {t : TypeId} (hI : Inv Q w M ρ G nx) (hid : ρ id = none) (hlt : id < nx) (hc : VL (VA M ρ G) cs vs) {s : Sem Value}
    (hs : s.run P w = .ok (.pointer (some ⟨w.heap.size, 0, none⟩)) (w.alloc (.cells vs t))) :
    Good id Q M ρ G nx w (updL G [(id, .set (.box cs false))]) (.ptr id 0) ((vNext s).run P w) := by
  have hv : Ev M ρ G M (upd ρ id (some (.pointer (some ⟨w.heap.size, 0, none⟩)))) (upd G id (.box cs false)) := Ev.new hid
  refine ⟨_, _, _, M, upd ρ id (some (.pointer (some ⟨w.heap.size, 0, none⟩))), run_vNext hs, .inl rfl, hv, ?_, ?_, WS.alloc hI.new _, MQ.refl _ _, fun o h e => by simp [upd, h, e]⟩
  · refine hI.put hlt hv (fun b => ?_) (by simp) ?_ (fun b hb => ?_)
    · rcases Nat.lt_or_ge b w.heap.size with h | h
      · exact .inl (Go.RowKit.Below.heap_alloc w _ b h)
      · exact .inr (.inl h)
    · unfold ObjOK
      simp only [upd, if_true]
      exact ⟨w.heap.size, vs, t, rfl, heap_alloc_new w _, hc.imp fun _ _ => VA.mono hv, fun h => by cases h⟩
    · simp [blk] at hb; exact .inl (by omega)
  · exact .ptr id 0 w.heap.size (by simp [upd])
theorem aAlloc_ok {id : Nat} {t : TypeId} {v : AV} {ups : List (Nat × U)} (h : aAlloc C id t = some (.val v ups)) (hI : Inv Q w M ρ G nx) (hid : ρ id = none) (hlt : id < nx) :
    Good id Q M ρ G nx w (updL G ups) v ((vNext (Instr.alloc t true (.tuple #[]))).run C.P w) := by
  unfold aAlloc at h
  split at h
  · rename_i i hi
    split at h
    · cases h
      obtain ⟨info, zv, d, h1, h2, h3, _, h4, h5, h6, h7⟩ := tyOf_some hi
      rw [h7]
      exact good_box (t := t) hI hid hlt (cells_cv zv).2 (by simp [Instr.alloc, run_zeroValue' h1 h3, newVar, newRow])
    · cases h
  · cases h
theorem aBox_ok {id : Nat} {t : TypeId} {x v : AV} {c : Value} {ups : List (Nat × U)} (h : aBox C id t x = some (.val v ups)) (hI : Inv Q w M ρ G nx) (hid : ρ id = none) (hlt : id < nx) (hx : VA M ρ G x c) :
    Good id Q M ρ G nx w (updL G ups) v ((vNext (Instr.box t c)).run C.P w) := by
  unfold aBox at h
  split at h
  · rename_i i hi
    split at h
    · rename_i hf
      cases h
      exact good_box (t := t) hI hid hlt (hx.cells hf) (by simp [Instr.box, newVar, newRow])
    · cases h
  · cases h
end Go.Abs

/- The abstract interpreter: literals. -/
namespace Go.Abs
variable {id : Nat}
variable {M M' : Mem} {ρ ρ' : Ref} {G G' : Nat → Obj} {w w' : World} {nx : Nat} {Q : Nat → Prop} {P : Program} {C : Cfg}
theorem at_set (cs : Array Value) (i k : Nat) (v : Value) (h : i < cs.size) : at_ (cs.setIfInBounds i v) k = if k = i then v else at_ cs k := by
  simp only [at_, Array.getD_eq_getD_getElem?, Array.getElem?_setIfInBounds]
  by_cases hk : k = i
  · subst hk; simp [h]
  · rw [if_neg (fun e => hk e.symm), if_neg hk]
theorem fold_set (off : Nat) (l : List Value) : ∀ (s : Nat) (cs : Array Value), off + s + l.length ≤ cs.size →
    ((l.zipIdx s).foldl (fun cs p => cs.setIfInBounds (off + p.2) p.1) cs).size = cs.size ∧
    ∀ k, at_ ((l.zipIdx s).foldl (fun cs p => cs.setIfInBounds (off + p.2) p.1) cs) k = if off + s ≤ k ∧ k < off + s + l.length then l.getD (k - off - s) Go.undef else at_ cs k := by
  induction l with
  | nil => intro s cs _; exact ⟨rfl, fun k => by rw [if_neg (by simp)]; rfl⟩
  | cons v r ih =>
    intro s cs hs
    simp only [List.length_cons] at hs
    simp only [List.zipIdx_cons, List.foldl_cons]
    obtain ⟨h1, h2⟩ := ih (s + 1) (cs.setIfInBounds (off + s) v) (by simp; omega)
    refine ⟨h1.trans (by simp), fun k => ?_⟩
    rw [h2 k]
    by_cases hk : k = off + s
    · subst hk
      rw [if_neg (by omega), at_set _ _ _ _ (by omega), if_pos rfl, if_pos (by simp)]
      simp
    · by_cases hk2 : off + s ≤ k ∧ k < off + s + (r.length + 1)
      · rw [if_pos (by omega), if_pos (by simpa using hk2)]
        have : k - off - s = (k - off - (s + 1)) + 1 := by omega
        rw [this]; simp
      · rw [if_neg (by omega), if_neg (by simpa using hk2), at_set _ _ _ _ (by omega), if_neg hk]
theorem splice_get {α : Type} (l : List α) (off : Nat) (new : List α) (h : off + new.length ≤ l.length) (k : Nat) :
    (splice l off new)[k]? = if k < off then l[k]? else if k < off + new.length then new[k - off]? else l[k]? := by
  unfold splice
  rw [List.append_assoc, List.getElem?_append]
  have ht : (l.take off).length = off := by simp; omega
  rw [ht]
  split
  · rename_i hk
    rw [List.getElem?_take, if_pos hk]
  · rename_i hk
    rw [List.getElem?_append]
    split
    · rename_i hk2
      rw [if_pos (by omega)]
    · rename_i hk2
      rw [if_neg (by omega), List.getElem?_drop]
      congr 1; omega
theorem splice_len {α : Type} (l : List α) (off : Nat) (new : List α) (h : off + new.length ≤ l.length) : (splice l off new).length = l.length := by
  unfold splice; simp; omega
def Parts (M : Mem) (ρ : Ref) (G : Nat → Obj) (ps : List (Nat × AV)) (qs : List (Nat × Value)) : Prop :=
  ps.length = qs.length ∧ ∀ (k : Nat) p q, ps[k]? = some p → qs[k]? = some q → p.1 = q.1 ∧ VA M ρ G p.2 q.2
theorem Parts.tail {p : Nat × AV} {q : Nat × Value} {ps : List (Nat × AV)} {qs : List (Nat × Value)} (h : Parts M ρ G (p :: ps) (q :: qs)) : Parts M ρ G ps qs :=
  ⟨by simpa using h.1, fun k a b ha hb => h.2 (k + 1) a b (by simpa using ha) (by simpa using hb)⟩
theorem fillA_ok (fs : List (Nat × Nat)) : ∀ (ps : List (Nat × AV)) (qs : List (Nat × Value)) (cs cs' : List AV) (vs : Array Value), fillA fs cs ps = some cs' → Parts M ρ G ps qs → VL (VA M ρ G) cs vs →
    ∃ vs', Instr.fill (fun i => fs[i]?) vs qs = some vs' ∧ VL (VA M ρ G) cs' vs' := by
  intro ps
  induction ps with
  | nil =>
    intro qs cs cs' vs h hp hc
    cases qs with
    | nil => simp only [fillA, Option.some.injEq] at h; subst h; exact ⟨vs, rfl, hc⟩
    | cons q qs => simp [Parts] at hp
  | cons p ps ih =>
    intro qs cs cs' vs h hp hc
    cases qs with
    | nil => simp [Parts] at hp
    | cons q qs =>
      obtain ⟨i, x⟩ := p
      obtain ⟨i', c⟩ := q
      obtain ⟨rfl, hx⟩ := hp.2 0 (i, x) (i', c) rfl rfl
      simp only at hx
      simp only [fillA] at h
      split at h
      · cases h
      · rename_i off size hfs
        split at h
        · rename_i hf
          obtain ⟨hf, hlen⟩ := hf
          have hcell := hx.cells hf
          have hn := AV.fits_len hf
          have hvs : vs.size = cs.length := hc.1.symm
          have hcs : c.cells.size = size := by rw [← hcell.1]; exact hn
          obtain ⟨g1, g2⟩ := fold_set off c.cells.toList 0 vs (by simp; omega)
          have hfold : (c.cells.zipIdx.foldl (fun (cs : Array Value) (p : Value × Nat) => cs.setIfInBounds (off + p.2) p.1) vs) = (c.cells.toList.zipIdx 0).foldl (fun cs p => cs.setIfInBounds (off + p.2) p.1) vs := by
            rw [← Array.foldl_toList]; simp
          have hnew : VL (VA M ρ G) (splice cs off x.cells) ((c.cells.toList.zipIdx 0).foldl (fun cs p => cs.setIfInBounds (off + p.2) p.1) vs) := by
            refine ⟨by rw [splice_len _ _ _ (by omega), g1]; exact hc.1, fun k y hy => ?_⟩
            rw [g2 k]
            rw [splice_get _ _ _ (by omega)] at hy
            split at hy
            · rw [if_neg (by omega)]; exact hc.2 k y hy
            · split at hy
              · rw [if_pos (by simp; omega)]
                have := hcell.2 (k - off) y hy
                rw [← at_list] at this
                simpa using this
              · rw [if_neg (by simp; omega)]; exact hc.2 k y hy
          obtain ⟨vs', k1, k2⟩ := ih qs _ cs' _ h hp.tail hnew
          refine ⟨vs', ?_, k2⟩
          simp only [Instr.fill, hfs]
          rw [if_neg (by simp; omega)]
          rw [← k1]
          congr 1
        · cases h
theorem run_places (fs : Array Field) (h : fieldsOk P (.struct fs) = true) :
    (fs.mapM fun f => (do pure (f.offset, ← sizeOf f.type) : Sem (Nat × Nat))).run P w = .ok (fs.map fun f => (f.offset, P.cellsOf f.type)) w := by
  have key : ∀ l : List Field, (l.all fun f => (P.info? f.type).isSome) = true → (l.mapM fun f => (do pure (f.offset, ← sizeOf f.type) : Sem (Nat × Nat))).run P w = .ok (l.map fun f => (f.offset, P.cellsOf f.type)) w := by
    intro l
    induction l with
    | nil => intro _; simp
    | cons f r ih =>
      intro hl
      simp only [List.all_cons, Bool.and_eq_true] at hl
      obtain ⟨info, hi⟩ := Option.isSome_iff_exists.1 hl.1
      simp only [List.mapM_cons, Sem.run_bind, run_sizeOf' hi, Result.andThen_ok, Sem.run_pure, ih hl.2, List.map_cons, Program.cellsOf, hi, Option.map_some, Option.getD_some]
  have := key fs.toList (by simpa [fieldsOk] using h)
  rw [Array.mapM_eq_mapM_toList]
  erw [Sem.run_map, this]
  simp only [Result.andThen_ok]
  congr 1
  apply Array.ext'
  simp
theorem aBuild_ok {t : TypeId} {ps : List (Nat × AV)} {qs : Array (Nat × Value)} {v : AV} {ups : List (Nat × U)} (h : aBuild C t ps = some (.val v ups)) (hp : Parts M ρ G ps qs.toList) :
    ups = [] ∧ ∃ u, (Instr.build t qs).run C.P w = .ok u w ∧ VA M ρ G v u := by
  unfold aBuild at h
  split at h
  · rename_i i hi
    split at h
    · rename_i fs hd
      split at h
      · rename_i cs hcs
        cases h
        obtain ⟨info, zv, d, h1, h2, h3, h4, h5, h6, h7, h8⟩ := tyOf_some hi
        rw [hd] at h5
        cases d <;> simp only [tyd, reduceCtorEq, TyD.st.injEq] at h5
        rename_i fds
        have hz := (cells_cv (M := M) (ρ := ρ) (G := G) zv).2
        rw [← h8] at hz
        obtain ⟨vs', k1, k2⟩ := fillA_ok fs ps qs.toList _ cs _ hcs hp hz
        refine ⟨rfl, .agg vs', ?_, VA_mkAgg k2⟩
        have hpl : (fun (i : Nat) => (fds.map fun f => (f.offset, C.P.cellsOf f.type))[i]?) = fun i => fs[i]? := by
          funext j; rw [h5]; simp
        simp only [Instr.build, Sem.run_bind, run_zeroValue' h1 h3, Result.andThen_ok, run_underlying' h2, run_places fds h4]
        rw [hpl, k1]
        simp
      · cases h
    · cases h
  · cases h
theorem good_row {id : Nat} {et : TypeId} {sz : Nat} {xs : List AV} {v : Value} {w2 : World} {s : Sem Value} {ids : List Nat} (hI : Inv Q w M ρ G nx) (hid : ρ id = none) (hlt : id < nx) (h0 : 0 < sz)
    {cs : List Value} (hown : w2.ownsRow 0 et sz v xs.length cs) (hfit : ∀ x ∈ xs, x.fits sz = true)
    (hcell : ∀ (i : Nat) x (j : Nat) y, xs[i]? = some x → x.cells[j]? = some y → VA M ρ G y (cs.getD (i * sz + j) Go.undef))
    (hnew : ∀ b, blk v = some b → w.heap.size ≤ b) (hw : WS Q w w2) (hold : ∀ b, b < w.heap.size → w2.heap[b]? = w.heap[b]?) (hs : s.run P w = .ok v w2) :
    Good id Q M ρ G nx w (updL G [(id, .set (.row et sz xs false))]) (.row id xs.length) ((vNext s).run P w) := by
  have hv : Ev M ρ G M (upd ρ id (some v)) (upd G id (.row et sz xs false)) := Ev.new hid
  refine ⟨_, _, _, M, upd ρ id (some v), run_vNext hs, .inl rfl, hv, ?_, ?_, hw, MQ.refl _ _, fun o h e => by simp [upd, h, e]⟩
  · refine hI.put hlt hv (fun b => ?_) hw.size ?_ (fun b hb => .inl (hnew b hb))
    · rcases Nat.lt_or_ge b w.heap.size with h | h
      · exact .inl (hold b h)
      · exact .inr (.inl h)
    · unfold ObjOK
      simp only [upd, if_true]
      exact ⟨h0, v, cs, rfl, hown, ⟨hfit, fun i x j y hx hy => (hcell i x j y hx hy).mono hv⟩, fun h => by cases h⟩
  · rcases hown.2 with ⟨rfl, h1⟩ | ⟨g, cap, cur, rfl, _⟩
    · exact .row id _ none 0 0 (by simp [upd]) fun et' sz' xs' fr' e => by
        simp only [updL, U.on, upd, if_true, Obj.row.injEq] at e
        obtain ⟨rfl, rfl, rfl, rfl⟩ := e
        exact ⟨Nat.le_refl _, fun _ => by simp [upd]⟩
    · exact .row id _ _ _ _ (by simp [upd]) fun et' sz' xs' fr' e => by
        simp only [updL, U.on, upd, if_true, Obj.row.injEq] at e
        obtain ⟨rfl, rfl, rfl, rfl⟩ := e
        exact ⟨Nat.le_refl _, fun _ => by simp [upd]⟩
def Elems (M : Mem) (ρ : Ref) (G : Nat → Obj) (sz : Nat) (xs : List AV) (cs : Array Value) : Prop :=
  cs.size = xs.length * sz ∧ (∀ x ∈ xs, x.fits sz = true) ∧ ∀ (i : Nat) x (j : Nat) y, xs[i]? = some x → x.cells[j]? = some y → VA M ρ G y (at_ cs (i * sz + j))
theorem mul_lt_of {i n sz j : Nat} (hi : i < n) (hj : j < sz) : i * sz + j < n * sz := by
  have : i * sz + sz ≤ n * sz := by rw [← Nat.succ_mul]; exact Nat.mul_le_mul_right _ hi
  omega
theorem at_madeCells (z : Array Value) (n k : Nat) (h : k < n) : at_ (madeCells z n) k = at_ z (k % z.size) ∨ z.size = 0 := by
  rcases Nat.eq_zero_or_pos z.size with h0 | h0
  · exact .inr h0
  · left
    have := Nat.mod_lt k h0
    simp [madeCells, at_, Array.getD_eq_getD_getElem?, h, this, getElem!_pos]
theorem Elems_made {z : AV} {zv : Value} {n sz : Nat} (hz : VL (VA M ρ G) z.cells zv.cells) (hf : z.fits sz = true) (h0 : 0 < sz) : Elems M ρ G sz (List.replicate n z) (madeCells zv.cells (n * sz)) := by
  have hl := AV.fits_len hf
  have hzs : zv.cells.size = sz := by rw [← hz.1]; exact hl
  refine ⟨by simp [size_madeCells], fun x hx => by rw [List.eq_of_mem_replicate hx]; exact hf, fun i x j y hx hy => ?_⟩
  obtain ⟨hi, hx⟩ := List.getElem?_eq_some_iff.1 hx
  simp at hi hx
  subst hx
  have hj := (List.getElem?_eq_some_iff.1 hy).1
  rcases at_madeCells zv.cells (n * sz) (i * sz + j) (mul_lt_of hi (by omega)) with h | h
  · rw [h, hzs]
    have : (i * sz + j) % sz = j := by rw [Nat.mul_comm, Nat.mul_add_mod]; exact Nat.mod_eq_of_lt (by omega)
    rw [this]
    exact hz.2 j y hy
  · omega
theorem fillE_ok {sz len : Nat} (_h0 : 0 < sz) : ∀ (ps : List (Nat × AV)) (qs : List (Nat × Value)) (xs : List AV) (vs : Array Value), Parts M ρ G ps qs → ps.all (fun p => p.2.fits sz && decide (p.1 < len)) = true → xs.length = len →
    Elems M ρ G sz xs vs → ∃ vs', Instr.fill (fun i => some (i * sz, sz)) vs qs = some vs' ∧ (fillE xs ps).length = len ∧ Elems M ρ G sz (fillE xs ps) vs' := by
  intro ps
  induction ps with
  | nil =>
    intro qs xs vs hp _ hlen hE
    cases qs with
    | nil => exact ⟨vs, rfl, hlen, hE⟩
    | cons q qs => simp [Parts] at hp
  | cons p ps ih =>
    intro qs xs vs hp hall hlen hE
    cases qs with
    | nil => simp [Parts] at hp
    | cons q qs =>
      obtain ⟨i, x⟩ := p
      obtain ⟨i', c⟩ := q
      obtain ⟨rfl, hx⟩ := hp.2 0 (i, x) (i', c) rfl rfl
      simp only at hx
      simp only [List.all_cons, Bool.and_eq_true, decide_eq_true_eq] at hall
      obtain ⟨⟨hf, hi⟩, hall⟩ := hall
      obtain ⟨e1, e2, e3⟩ := hE
      have hcell := hx.cells hf
      have hn := AV.fits_len hf
      have hcs : c.cells.size = sz := by rw [← hcell.1]; exact hn
      have hfit : i * sz + sz ≤ xs.length * sz := by rw [← Nat.succ_mul]; exact Nat.mul_le_mul_right _ (by omega)
      obtain ⟨g1, g2⟩ := fold_set (i * sz) c.cells.toList 0 vs (by simp; omega)
      have hfold : (c.cells.zipIdx.foldl (fun (cs : Array Value) (p : Value × Nat) => cs.setIfInBounds (i * sz + p.2) p.1) vs) = (c.cells.toList.zipIdx 0).foldl (fun cs p => cs.setIfInBounds (i * sz + p.2) p.1) vs := by
        rw [← Array.foldl_toList]; simp
      have hnew : Elems M ρ G sz (xs.set i x) ((c.cells.toList.zipIdx 0).foldl (fun cs p => cs.setIfInBounds (i * sz + p.2) p.1) vs) := by
        refine ⟨by rw [g1]; simpa using e1, fun y hy => ?_, fun k y j u hy hu => ?_⟩
        · rcases List.mem_or_eq_of_mem_set hy with h | rfl
          · exact e2 y h
          · exact hf
        · rw [g2]
          rw [List.getElem?_set] at hy
          by_cases hk : i = k
          · subst hk
            rw [if_pos rfl] at hy
            split at hy
            · cases hy
              have hj := (List.getElem?_eq_some_iff.1 hu).1
              rw [if_pos (by simp; omega)]
              have := hcell.2 j u hu
              rw [← at_list] at this
              simpa using this
            · cases hy
          · rw [if_neg hk] at hy
            have hj := (List.getElem?_eq_some_iff.1 hu).1
            have hyl := AV.fits_len (e2 y (List.mem_of_getElem? hy))
            rw [if_neg]
            · exact e3 k y j u hy hu
            · simp
              intro h1
              rcases Nat.lt_or_ge k i with h2 | h2
              · have : k * sz + sz ≤ i * sz := by rw [← Nat.succ_mul]; exact Nat.mul_le_mul_right _ h2
                omega
              · have : i * sz + sz ≤ k * sz := by rw [← Nat.succ_mul]; exact Nat.mul_le_mul_right _ (by omega)
                omega
      obtain ⟨vs', k1, k2, k3⟩ := ih qs (xs.set i x) _ hp.tail hall (by simpa using hlen) hnew
      refine ⟨vs', ?_, k2, k3⟩
      simp only [Instr.fill]
      rw [if_neg (by simp; omega), ← k1]
      congr 1
theorem Elems.getD {sz : Nat} {xs : List AV} {cs : Array Value} (h : Elems M ρ G sz xs cs) (i : Nat) x (j : Nat) y (hx : xs[i]? = some x) (hy : x.cells[j]? = some y) : VA M ρ G y (cs.toList.getD (i * sz + j) Go.undef) := by
  rw [at_list]; exact h.2.2 i x j y hx hy
theorem aBuildSlice_ok {id : Nat} {t : TypeId} {len : Nat} {ps : List (Nat × AV)} {qs : Array (Nat × Value)} {v : AV} {ups : List (Nat × U)} (h : aBuildSlice C id t len ps = some (.val v ups))
    (hI : Inv Q w M ρ G nx) (hid : ρ id = none) (hlt : id < nx) (hp : Parts M ρ G ps qs.toList) : Good id Q M ρ G nx w (updL G ups) v ((vNext (Instr.buildSlice t len qs)).run C.P w) := by
  unfold aBuildSlice at h
  split at h
  · rename_i k hk
    split at h
    · rename_i et hd
      split at h
      · rename_i i hi
        split at h
        · rename_i hc
          obtain ⟨c1, c2, c3, c4⟩ := hc
          cases h
          obtain ⟨info, zv, d, h1, h2, h3, h4, h5, h6, h7, h8⟩ := tyOf_some hk
          rw [hd] at h5
          cases d <;> simp only [tyd, reduceCtorEq, TyD.sl.injEq] at h5
          subst h5
          obtain ⟨info', zv', d', k1, k2, k3, k4, k5, k6, k7, k8⟩ := tyOf_some hi
          have hz := (cells_cv (M := M) (ρ := ρ) (G := G) zv').2
          rw [← k8] at hz
          have hE := Elems_made (n := len) hz c2 c4
          obtain ⟨vs', f1, f2, f3⟩ := fillE_ok (len := len) c4 ps qs.toList _ _ hp c3 (List.length_replicate ..) hE
          have hlen : ∀ m : Nat, m = (fillE (List.replicate len i.zero) ps).length → AV.row id len = AV.row id m := fun m hm => by rw [hm, f2]
          rw [hlen _ rfl]
          refine good_row (w2 := w.alloc (.cells vs' et)) (v := .slice (some ⟨w.heap.size, 0, none⟩) len len) (cs := vs'.toList) (ids := []) hI hid hlt c4 ?_ f3.2.1 f3.getD ?_ (WS.alloc hI.new _) (fun b hb => Go.RowKit.Below.heap_alloc w _ b hb) ?_
          · rw [f2]
            have hvs : vs'.size = len * i.sz := by rw [f3.1, f2]
            refine ⟨by simpa using hvs, .inr ⟨w.heap.size, len, vs', rfl, Nat.zero_le _, heap_alloc_new w _, Nat.le_refl _, ?_, hvs, List.take_of_length_le (by rw [Array.length_toList]; omega)⟩⟩
            have : len ≤ len * i.sz := Nat.le_mul_of_pos_right _ c4
            unfold maxLen; omega
          · intro b hb; simp [blk] at hb; omega
          · have hzero : (if len * i.sz = 0 then (pure #[] : Sem (Array Value)) else do pure (← zeroValue et).cells).run C.P w = .ok (if len * i.sz = 0 then #[] else zv'.cells) w := by
              split
              · rfl
              · simp [run_zeroValue' k1 k3]
            have hmade : (Array.range (len * i.sz)).map (fun x => (if len * i.sz = 0 then #[] else zv'.cells)[x % (if len * i.sz = 0 then (#[] : Array Value) else zv'.cells).size]!) = madeCells zv'.cells (len * i.sz) := by
              unfold madeCells
              split
              · rename_i h; rw [h]; simp
              · rfl
            have hsz : info'.size = i.sz := k6.symm
            simp only [Instr.buildSlice, Sem.run_bind, run_underlying' h2, Result.andThen_ok, run_sizeOf' k1, hsz]
            rw [if_neg (by omega)]
            by_cases h00 : len * i.sz = 0
            · rw [if_pos h00] at hmade ⊢
              simp only [h00] at hmade
              simp only [pure_bind]
              have e0 : ((Array.range (len * i.sz)).map fun x => (#[] : Array Value)[x % (#[] : Array Value).size]!) = madeCells zv'.cells (len * i.sz) := by rw [h00]; simp [madeCells]
              rw [e0, f1]
              simp [newRow]
            · rw [if_neg h00]
              simp only [Sem.run_bind, run_zeroValue' k1 k3, Result.andThen_ok, Sem.run_pure]
              rw [show ((Array.range (len * i.sz)).map fun x => zv'.cells[x % zv'.cells.size]!) = madeCells zv'.cells (len * i.sz) from rfl, f1]
              simp [newRow]
        · cases h
      · cases h
    · cases h
  · cases h
theorem aMakeSlice_ok {id : Nat} {t : TypeId} {len cap : AV} {cl cc : Value} {v : AV} {ups : List (Nat × U)} (h : aMakeSlice C id t len cap = some (.val v ups))
    (hI : Inv Q w M ρ G nx) (hid : ρ id = none) (hlt : id < nx) (hl : VA M ρ G len cl) (hcp : VA M ρ G cap cc) : Good id Q M ρ G nx w (updL G ups) v ((vNext (Instr.makeSlice t cl cc)).run C.P w) := by
  unfold aMakeSlice at h
  split at h
  · rename_i k hk
    split at h
    · rename_i et hd
      split at h
      · rename_i i kl l kc c hi
        split at h
        · rename_i hc
          obtain ⟨c1, c2, c3, c4, c5, c6⟩ := hc
          cases h
          obtain rfl := hl.int_inv
          obtain rfl := hcp.int_inv
          obtain ⟨info, zv, d, h1, h2, h3, h4, h5, h6, h7, h8⟩ := tyOf_some hk
          rw [hd] at h5
          cases d <;> simp only [tyd, reduceCtorEq, TyD.sl.injEq] at h5
          subst h5
          obtain ⟨info', zv', d', k1, k2, k3, k4, k5, k6, k7, k8⟩ := tyOf_some hi
          have hz := (cells_cv (M := M) (ρ := ρ) (G := G) zv').2
          rw [← k8] at hz
          have hE := Elems_made (n := c.toNat) hz c5 c6
          unfold most at c3
          have hrun := run_make (P := C.P) w t et info' zv' h2 k1 k3 kl kc l c c1 c2 (by rw [← k7]; calc (i.bytes : Int) * c ≤ 4096 * c := Int.mul_le_mul_of_nonneg_right (by omega) (by omega)
                _ ≤ 281474976710656 := by omega) (by omega)
          rw [← k6] at hrun
          have e1 : (List.replicate l.toNat i.zero).length = l.toNat := by simp
          have hrow := good_row (w2 := w.alloc (.cells (madeCells zv'.cells (c.toNat * i.sz)) et)) (v := .slice (some ⟨w.heap.size, 0, none⟩) l.toNat c.toNat) (xs := List.replicate l.toNat i.zero) (et := et) (sz := i.sz)
            (cs := (madeCells zv'.cells (c.toNat * i.sz)).toList.take (l.toNat * i.sz)) (ids := []) (s := Instr.makeSlice t (.int kl l) (.int kc c)) (P := C.P) hI hid hlt c6 ?_ (fun x hx => by rw [List.eq_of_mem_replicate hx]; exact c5) ?_ ?_ (WS.alloc hI.new _) (fun b hb => Go.RowKit.Below.heap_alloc w _ b hb) hrun
          · rw [e1] at hrow; exact hrow
          · rw [e1]
            have hle : l.toNat * i.sz ≤ c.toNat * i.sz := Nat.mul_le_mul_right _ (by omega)
            refine ⟨by rw [List.length_take, Array.length_toList, size_madeCells]; exact Nat.min_eq_left hle, .inr ⟨w.heap.size, c.toNat, _, rfl, Nat.zero_le _, heap_alloc_new w _, by omega, by unfold maxLen; omega, size_madeCells _ _, rfl⟩⟩
          · intro a x j y hx hy
            obtain ⟨ha, hx'⟩ := List.getElem?_eq_some_iff.1 hx
            rw [List.length_replicate] at ha
            rw [List.getElem_replicate] at hx'
            subst hx'
            have hj := (List.getElem?_eq_some_iff.1 hy).1
            have hzl := AV.fits_len c5
            rw [list_getD_take (mul_lt_of ha (by omega)), at_list]
            exact hE.2.2 a i.zero j y (by rw [List.getElem?_replicate, if_pos (by omega)]) hy
          · intro b hb; simp [blk] at hb; omega
        · cases h
      · cases h
    · cases h
  · cases h
end Go.Abs

/- The abstract interpreter: writing. -/
namespace Go.Abs
variable {id : Nat}
variable {M M' : Mem} {ρ ρ' : Ref} {G G' : Nat → Obj} {w w' : World} {nx : Nat} {Q : Nat → Prop} {P : Program} {C : Cfg}
theorem setRow_other (w : World) (g k : Nat) (cs : Array Value) (h : k ≠ g) : (w.setRow g cs).heap[k]? = w.heap[k]? := by
  simp only [World.setRow, Array.getElem?_modify]
  rw [if_neg (fun e => h e.symm)]
theorem WS.setRow {b : Nat} (hb : Q b) (cs : Array Value) : WS Q w (w.setRow b cs) :=
  ⟨rfl, rfl, rfl, by simp, fun k hk => setRow_other w b k cs (fun e => hk (e ▸ hb))⟩
theorem good_set {q b : Nat} {r : Value} {x : Obj} {w2 : World} {nxt : Next} {c : Value} {v : AV} {s : Result Next} (hI : Inv Q w M ρ G nx) (hr : ρ q = some r) (hb : blk r = some b)
    (hl : (G q).live = true) (hf : (G q).frozen = false) (hrow : ∀ et sz xs fr, x = .row et sz xs fr → ∃ xs0 fr0, G q = .row et sz xs0 fr0 ∧ xs0.length = xs.length)
    (hw : WS Q w w2) (hold : ∀ k, k ≠ b → w2.heap[k]? = w.heap[k]?)
    (hx : Ev M ρ G M ρ (upd G q x) → ObjOK w2 M ρ (upd G q x) q) (hv : Ev M ρ G M ρ (upd G q x) → VA M ρ (upd G q x) v c) (hs : s = .ok nxt w2) (hn : nxt = .value c ∨ nxt = .skip ∧ c = Go.undef) :
    Good id Q M ρ G nx w (updL G [(q, .set x)]) v s := by
  have e : upd ρ q (some r) = ρ := by funext o; by_cases h : o = q <;> simp [upd, h, hr]
  have hE : Ev M ρ G M ρ (upd G q x) := by have := Ev.same (M := M) (x := x) hr hrow; rwa [e] at this
  have hq : q < nx := by
    rcases Nat.lt_or_ge q nx with h | h
    · exact h
    · rw [hI.free q h] at hr; cases hr
  refine ⟨nxt, c, w2, M, ρ, hs, hn, hE, ?_, hv hE, hw, MQ.refl _ _, fun _ _ e => e⟩
  have := hI.put (q := q) (x := x) (r := r) (w' := w2) hq (by rw [e]; exact hE) (fun k => ?_) hw.size (by rw [e]; exact hx hE) (fun k hk => ?_)
  · rwa [e] at this
  · by_cases hk : k = b
    · exact .inr (.inr ⟨hl, hf, r, hr, by rw [hk]; exact hb⟩)
    · exact .inl (hold k hk)
  · exact .inr ⟨hl, hf, r, hr, hk⟩
theorem run_storeVar {t : TypeId} {info : TypeInfo} {c : Value} {b off : Nat} {cur : Array Value} {e : TypeId} (h1 : P.info? t = some info) (hsz : c.cells.size = info.size) (hg : w.heap[b]? = some (.cells cur e (0, 0)))
    (hfit : off + info.size ≤ cur.size) (hone : ∀ v ∈ c.cells, v.oneCell' = true) :
    (storeVar t ⟨b, off, none⟩ c).run P w = .ok () (w.setRow b (splice cur.toList off c.cells.toList).toArray) := by
  have := run_storeCells_at P b off e c.cells.toList 0 cur w hg (by simp; omega) (fun v hv => hone v (by simpa using hv))
  simp only [storeVar, Sem.run_bind, run_sizeOf' h1, Result.andThen_ok]
  rw [if_neg (by omega)]
  simp only [Nat.add_zero] at this
  rw [this]
  rfl
theorem VL_splice {cs : List AV} {vs : Array Value} {off : Nat} {new : List AV} {nv : Array Value} (h : VL (VA M ρ G) cs vs) (hn : VL (VA M ρ G) new nv) (hfit : off + new.length ≤ cs.length) :
    VL (VA M ρ G) (splice cs off new) (splice vs.toList off nv.toList).toArray := by
  have hl : off + nv.toList.length ≤ vs.toList.length := by simp; rw [← h.1, ← hn.1]; exact hfit
  refine ⟨by rw [splice_len _ _ _ hfit]; simp [splice_len _ _ _ hl]; exact h.1, fun i x hx => ?_⟩
  rw [splice_get _ _ _ hfit] at hx
  have ha : at_ (splice vs.toList off nv.toList).toArray i = (splice vs.toList off nv.toList).getD i Go.undef := by
    rw [← at_list]
  rw [ha, List.getD_eq_getElem?_getD, splice_get _ _ _ hl]
  have e2 : nv.toList.length = new.length := by simp; exact hn.1.symm
  rw [e2]
  split
  · rename_i hk
    rw [if_pos hk] at hx
    have := h.2 i x hx
    rw [← at_list, List.getD_eq_getElem?_getD] at this; exact this
  · rename_i hk
    rw [if_neg hk] at hx
    split
    · rename_i hk2
      rw [if_pos hk2] at hx
      have := hn.2 _ x hx
      rw [← at_list, List.getD_eq_getElem?_getD] at this; exact this
    · rename_i hk2
      rw [if_neg hk2] at hx
      have := h.2 i x hx
      rw [← at_list, List.getD_eq_getElem?_getD] at this; exact this
theorem one_cells {y : AV} (h : y.one = true) : y.cells = [y] := cells_one (fun l e => by subst e; simp [AV.one] at h) (fun l e => by subst e; simp [AV.one] at h)
theorem avOf_fits {y : AV} {sz off : Nat} {new : List AV} (hy : y.fits sz = true) (hl : off + new.length ≤ y.cells.length) (h0 : 0 < new.length) (hone : ∀ z ∈ new, z.one = true) :
    (avOf y (splice y.cells off new)).fits sz = true ∧ (avOf y (splice y.cells off new)).cells = splice y.cells off new := by
  have hlen := splice_len y.cells off new hl
  have hall : ∀ z ∈ splice y.cells off new, z.one = true := by
    intro z hz
    unfold splice at hz
    rcases List.mem_append.1 hz with hz | hz
    · rcases List.mem_append.1 hz with hz | hz
      · exact AV.fits_one hy z (List.mem_of_mem_take hz)
      · exact hone z hz
    · exact AV.fits_one hy z (List.mem_of_mem_drop hz)
  have hsz := AV.fits_len hy
  have key : (avOf y (splice y.cells off new)).cells = splice y.cells off new := by
    unfold avOf
    split
    · exact cells_mkAgg _
    · exact cells_mkAgg _
    · rename_i h1 h2
      have hc := cells_one h2 h1
      rw [hc] at hl ⊢
      simp at hl
      obtain ⟨rfl, hn⟩ : off = 0 ∧ new.length = 1 := by omega
      obtain ⟨z, rfl⟩ := List.length_eq_one_iff.1 hn
      simp only [splice, List.take_zero, List.nil_append, List.length_singleton, Nat.zero_add, List.drop_one, List.tail_cons, List.append_nil, List.headD_cons]
      exact one_cells (hone z (by simp))
  exact ⟨by simp only [AV.fits, key, Bool.and_eq_true, beq_iff_eq, List.all_eq_true]; exact ⟨by omega, hall⟩, key⟩
theorem aStore_ok {s : St} {t : TypeId} {a x v : AV} {ca cx : Value} {ups : List (Nat × U)} (h : aStore C s t a x = some (.val v ups)) (hI : Inv Q w M ρ s.G nx) (ha : VA M ρ s.G a ca) (hx : VA M ρ s.G x cx) :
    Good id Q M ρ s.G nx w (updL s.G ups) v ((uNext (Instr.storeAt t ca cx)).run C.P w) := by
  unfold aStore at h
  split at h
  · rename_i i hi
    split at h
    · rename_i hf
      obtain ⟨info, zv, d, h1, h2, h3, h4, h5, h6, h7, h8⟩ := tyOf_some hi
      have hc := hx.cells hf
      have hone := hc.one (AV.fits_one hf)
      have hn := AV.fits_len hf
      have hcs : cx.cells.size = info.size := by rw [← hc.1]; omega
      split at h
      · rename_i q off
        split at h
        · rename_i old hG
          split at h
          · rename_i hfit
            cases h
            cases ha with
            | ptr _ _ b hr =>
              have := hI.obj q
              unfold ObjOK at this
              rw [hG] at this
              obtain ⟨b', vs, e', g1, g2, g3, _⟩ := this
              rw [hr] at g1; cases g1
              have hown := hI.own q _ b (by rw [hG]; rfl) (by rw [hG]; rfl) hr rfl
              have hrun := run_storeVar (P := C.P) (w := w) (off := off) h1 hcs g2 (by rw [← g3.1]; omega) hone
              refine good_set hI hr rfl (by rw [hG]; rfl) (by rw [hG]; rfl) (fun _ _ _ _ e => by cases e) (WS.setRow hown.2 _) (fun k hk => setRow_other w b k _ hk) (fun hE => ?_) (fun _ => .undef _)
                (run_uNext (s := Instr.storeAt t _ cx) (by simp only [Instr.storeAt, Instr.sureAddr, pure_bind]; exact hrun)) (.inr ⟨rfl, rfl⟩)
              unfold ObjOK
              simp only [upd, if_true]
              exact ⟨b, _, e', hr, setRow_heap w b _ _ _ _ g2, (VL_splice g3 hc (by omega)).imp fun _ _ => VA.mono hE, fun h => by cases h⟩
          · cases h
        · cases h
      · rename_i q n j off
        split at h
        · rename_i et sz xs hG
          split at h
          · rename_i y hy
            split at h
            · rename_i hcnd
              obtain ⟨hxn, hpos, hfit⟩ := hcnd
              cases h
              cases ha with
              | rptr _ _ _ _ b f hb0 hr1 =>
                obtain ⟨_, hr2⟩ := hr1 et sz xs _ hG
                obtain ⟨l, cp, hr3, rfl⟩ := hr2 hxn.symm
                obtain ⟨rfl, h0, hle, hmx, cur, g1, g2, g3, g4⟩ := row_block hI hG hr3
                have hown := hI.own q _ b (by rw [hG]; rfl) (by rw [hG]; rfl) hr3 rfl
                have hyf := g3 y (List.mem_of_getElem? hy)
                have hyl := AV.fits_len hyf
                have hj := (List.getElem?_eq_some_iff.1 hy).1
                have hin : j * sz + sz ≤ xs.length * sz := by rw [← Nat.succ_mul]; exact Nat.mul_le_mul_right _ hj
                have hin2 : xs.length * sz ≤ cp * sz := Nat.mul_le_mul_right _ hle
                have hrun := run_storeVar (P := C.P) (w := w) (off := j * sz + off) h1 hcs g1 (by omega) hone
                have hspl : (splice cur.toList (j * sz + off) cx.cells.toList).length = cur.size := by
                  rw [splice_len _ _ _ (by rw [Array.length_toList, Array.length_toList, g2, ← hc.1]; omega)]; simp
                refine good_set hI hr3 rfl (by rw [hG]; rfl) (by rw [hG]; rfl) (fun _ _ _ _ e => by cases e; exact ⟨xs, _, hG, by simp⟩) (WS.setRow hown.2 _) (fun k hk => setRow_other w b k _ hk) (fun hE => ?_) (fun _ => .undef _)
                  (run_uNext (s := Instr.storeAt t _ cx) (by simp only [Instr.storeAt, Instr.sureAddr, pure_bind]; exact hrun)) (.inr ⟨rfl, rfl⟩)
                obtain ⟨hf1, hf2⟩ := avOf_fits (off := off) (new := x.cells) hyf (by omega) (by omega) (AV.fits_one hf)
                unfold ObjOK
                simp only [upd, if_true]
                refine ⟨h0, _, (splice cur.toList (j * sz + off) cx.cells.toList).take (xs.length * sz), hr3, ⟨by rw [List.length_take, hspl, g2, Nat.min_eq_left hin2, List.length_set], .inr ⟨b, cp, _, by simp, Nat.zero_le _, setRow_heap w b _ _ _ _ g1, by simpa using hle, hmx, by simp [hspl]; exact g2, by simp⟩⟩, ⟨?_, ?_⟩, fun h => by cases h⟩
                · intro z hz
                  rcases List.mem_or_eq_of_mem_set hz with h | rfl
                  · exact g3 z h
                  · exact hf1
                · intro k z m u hz hu
                  have hk : k < xs.length := by have := (List.getElem?_eq_some_iff.1 hz).1; simpa using this
                  have hzl : z.cells.length = sz := by
                    rcases List.mem_or_eq_of_mem_set (List.mem_of_getElem? hz) with h | rfl
                    · exact AV.fits_len (g3 z h)
                    · exact AV.fits_len hf1
                  have hm := (List.getElem?_eq_some_iff.1 hu).1
                  have hfit2 : j * sz + off + cx.cells.toList.length ≤ cur.toList.length := by rw [Array.length_toList, Array.length_toList, g2, ← hc.1]; omega
                  rw [list_getD_take (mul_lt_of hk (by omega)), List.getD_eq_getElem?_getD, splice_get _ _ _ hfit2]
                  have e2 : cx.cells.toList.length = x.cells.length := by simp; exact hc.1.symm
                  rw [e2]
                  rw [List.getElem?_set] at hz
                  by_cases hkj : j = k
                  · subst hkj
                    rw [if_pos rfl, if_pos hj] at hz
                    cases hz
                    rw [hf2, splice_get _ _ _ (by omega)] at hu
                    by_cases c1 : m < off
                    · rw [if_pos c1] at hu
                      rw [if_pos (by omega)]
                      have := g4 j y m u hy hu
                      rw [← at_list, List.getD_eq_getElem?_getD] at this
                      exact this.mono hE
                    · rw [if_neg c1] at hu
                      rw [if_neg (by omega)]
                      by_cases c2 : m < off + x.cells.length
                      · rw [if_pos c2] at hu
                        rw [if_pos (by omega)]
                        have := hc.2 (m - off) u hu
                        rw [← at_list, List.getD_eq_getElem?_getD] at this
                        rw [show j * sz + m - (j * sz + off) = m - off by omega]
                        exact this.mono hE
                      · rw [if_neg c2] at hu
                        rw [if_neg (by omega)]
                        have := g4 j y m u hy hu
                        rw [← at_list, List.getD_eq_getElem?_getD] at this
                        exact this.mono hE
                  · rw [if_neg hkj] at hz
                    have hcase : k * sz + m < j * sz + off ∨ j * sz + off + x.cells.length ≤ k * sz + m := by
                      rcases Nat.lt_or_ge k j with h2 | h2
                      · have : k * sz + sz ≤ j * sz := by rw [← Nat.succ_mul]; exact Nat.mul_le_mul_right _ h2
                        left; omega
                      · have : j * sz + sz ≤ k * sz := by rw [← Nat.succ_mul]; exact Nat.mul_le_mul_right _ (by omega)
                        right; omega
                    have := g4 k z m u hz hu
                    rw [← at_list, List.getD_eq_getElem?_getD] at this
                    rcases hcase with c1 | c1
                    · rw [if_pos c1]; exact this.mono hE
                    · rw [if_neg (by omega), if_neg (by omega)]; exact this.mono hE
            · cases h
          · cases h
        · cases h
      · cases h
    · cases h
  · cases h
end Go.Abs

/- The abstract interpreter: addresses, lengths, append, parts of slices. -/
namespace Go.Abs
variable {id : Nat}
variable {M M' : Mem} {ρ ρ' : Ref} {G G' : Nat → Obj} {w w' : World} {nx : Nat} {Q : Nat → Prop} {P : Program} {C : Cfg}
theorem moveAt_ok {d : Nat} {x v : AV} {c : Value} (h : moveAt d x = some v) (hx : VA M ρ G x c) : ∃ b off, c = .pointer (some ⟨b, off, none⟩) ∧ VA M ρ G v (.pointer (some ⟨b, off + d, none⟩)) := by
  unfold moveAt at h
  split at h
  · rename_i o off
    cases h
    cases hx with | ptr _ _ b hr => exact ⟨b, off, rfl, .ptr _ _ b hr⟩
  · rename_i o n i off
    cases h
    cases hx with | rptr _ _ _ _ b f hb hr => exact ⟨b, f, rfl, .rptr _ _ _ _ b _ hb fun et sz xs fr e => ⟨(hr et sz xs fr e).1, fun hn => by
      obtain ⟨l, c, h1, h2⟩ := (hr et sz xs fr e).2 hn
      exact ⟨l, c, h1, by omega⟩⟩⟩
  · rename_i cs off
    cases h
    have hx := hx.imm_inv
    cases hx with | fptr _ _ b vs e fr o0 h1 h2 h3 => exact ⟨b, o0 + off, rfl, .imm _ _ (by have := VI.fptr (M := M) _ (off + d) b vs e fr o0 h1 h2 h3; rwa [← Nat.add_assoc] at this)⟩
  · rename_i xs i off
    cases h
    have hx := hx.imm_inv
    cases hx with | eptr _ _ _ b vs e fr o0 sz h1 h2 h3 h4 h5 => exact ⟨b, _, rfl, .imm _ _ (by have := VI.eptr (M := M) _ i (off + d) b vs e fr o0 sz h1 h2 h3 h4 h5; rwa [← Nat.add_assoc] at this)⟩
  · cases h
theorem aFieldAddr_ok {t : TypeId} {f : Nat} {x v : AV} {c : Value} {ups : List (Nat × U)} (h : aFieldAddr C t x f = some (.val v ups)) (hx : VA M ρ G x c) :
    ups = [] ∧ ∃ u, (Instr.fieldAt t c f).run C.P w = .ok u w ∧ VA M ρ G v u := by
  unfold aFieldAddr at h
  split at h
  · rename_i i hi
    split at h
    · rename_i fs hd
      split at h
      · rename_i off sz hfs
        split at h
        · cases h
        · rename_i hsz
          split at h
          · rename_i v' hv
            cases h
            obtain ⟨info, zv, d, h1, h2, h3, h4, h5, h6, h7, h8⟩ := tyOf_some hi
            rw [hd] at h5
            cases d <;> simp only [tyd, reduceCtorEq, TyD.st.injEq] at h5
            rename_i fds
            obtain ⟨b, o, rfl, hv⟩ := moveAt_ok hv hx
            rw [h5] at hfs
            rw [List.getElem?_map] at hfs
            cases e : fds.toList[f]? with
            | none => rw [e] at hfs; cases hfs
            | some fd =>
              rw [e] at hfs
              simp only [Option.map_some, Option.some.injEq, Prod.mk.injEq] at hfs
              obtain ⟨rfl, rfl⟩ := hfs
              have e' : fds[f]? = some fd := by rw [← Array.getElem?_toList]; exact e
              have hfi : (C.P.info? fd.type).isSome = true := by
                simp only [fieldsOk, List.all_eq_true] at h4
                exact h4 fd (List.mem_of_getElem? e)
              obtain ⟨fi, hfi⟩ := Option.isSome_iff_exists.1 hfi
              have hcs : fi.size ≠ 0 := by simpa [Program.cellsOf, hfi] using hsz
              refine ⟨rfl, _, ?_, hv⟩
              simp only [Instr.fieldAt, Sem.run_bind, run_underlying' h2, Result.andThen_ok, e', Instr.sureAddr, pure_bind]
              simp [fieldPlace, run_sizeOf' hfi, hcs, add_none]
          · cases h
      · cases h
    · cases h
  · cases h
theorem elemAddr_ok {sz n : Nat} {x v : AV} {c : Value} (h : elemAddr G sz x n = some v) (hI : Inv Q w M ρ G nx) (hx : VA M ρ G x c) :
    ∃ b off len cap, c = .slice (some ⟨b, off, none⟩) len cap ∧ n < len ∧ VA M ρ G v (.pointer (some ⟨b, off + n * sz, none⟩)) := by
  unfold elemAddr at h
  split at h
  · rename_i xs
    split at h
    · rename_i y hy
      split at h
      · rename_i hsz
        cases h
        have hn := (List.getElem?_eq_some_iff.1 hy).1
        have hx := hx.imm_inv
        cases hx with
        | nil => simp at hn
        | empty => simp at hn
        | lst _ b off cp cs e fr sz' h0 hcp hM hs h1 h2 h3 =>
          have : sz' = sz := by rw [← h1 n y hy]; exact hsz
          subst this
          exact ⟨b, off, _, cp, rfl, hn, .imm _ _ (by have := VI.eptr (M := M) xs n 0 b cs e fr off sz' hM hs h1 h2 h3; exact this)⟩
      · cases h
    · cases h
  · rename_i q m
    split at h
    · rename_i et sz' xs fr hG
      split at h
      · rename_i hc
        obtain ⟨h1, h2, rfl⟩ := hc
        cases h
        cases hx with
        | row _ _ a l cp hb hr =>
          have hr := (hr et sz' xs fr hG).2 h1.symm
          have := hI.obj q
          unfold ObjOK at this
          rw [hG] at this
          obtain ⟨h0, v, cs, g1, g2, g3, g4⟩ := this
          rw [hr] at g1; cases g1
          rcases g2.2 with ⟨g, g'⟩ | ⟨g, cap, cur, g', _⟩
          · omega
          · cases g'
            refine ⟨g, 0, _, _, rfl, by omega, .rptr _ _ _ _ g _ hb fun et2 sz2 xs2 fr2 e2 => ?_⟩
            rw [hG] at e2; cases e2
            exact ⟨by omega, fun _ => ⟨_, _, hr, by omega⟩⟩
      · cases h
    · cases h
  · cases h
theorem aIndexAddr_ok {t : TypeId} {x ix v : AV} {c ci : Value} {ups : List (Nat × U)} (h : aIndexAddr C G t x ix = some (.val v ups)) (hI : Inv Q w M ρ G nx) (hx : VA M ρ G x c) (hix : VA M ρ G ix ci) :
    ups = [] ∧ ∃ u, (Instr.indexAt t c ci).run C.P w = .ok u w ∧ VA M ρ G v u := by
  unfold aIndexAddr at h
  split at h
  · rename_i k kk n hk
    obtain rfl := hix.int_inv
    obtain ⟨info, zv, d, h1, h2, h3, h4, h5, h6, h7, h8⟩ := tyOf_some hk
    split at h
    · rename_i et hd
      rw [hd] at h5
      cases d <;> simp only [tyd, reduceCtorEq, TyD.sl.injEq] at h5
      subst h5
      split at h
      · rename_i i hi
        split at h
        · rename_i hn
          split at h
          · rename_i v' hv
            cases h
            obtain ⟨info', zv', d', k1, k2, k3, k4, k5, k6, k7, k8⟩ := tyOf_some hi
            obtain ⟨b, off, len, cap, rfl, hlt, hv⟩ := elemAddr_ok hv hI hx
            refine ⟨rfl, _, ?_, hv⟩
            have hc : 0 ≤ n ∧ n < (len : Int) := by omega
            simp only [Instr.indexAt, asIntOf, pure_bind, Sem.run_bind, run_underlying' h2, Result.andThen_ok, hc, and_self, if_true]
            simp [run_sizeOf' k1, add_none, k6]
          · cases h
        · cases h
      · cases h
    · rename_i len et hd
      rw [hd] at h5
      cases d <;> simp only [tyd, reduceCtorEq, TyD.arr.injEq] at h5
      obtain ⟨rfl, rfl⟩ := h5
      split at h
      · rename_i i hi
        split at h
        · rename_i hn
          split at h
          · rename_i v' hv
            cases h
            obtain ⟨info', zv', d', k1, k2, k3, k4, k5, k6, k7, k8⟩ := tyOf_some hi
            obtain ⟨b, off, rfl, hv⟩ := moveAt_ok hv hx
            refine ⟨rfl, _, ?_, hv⟩
            simp only [Instr.indexAt, asIntOf, pure_bind, Sem.run_bind, run_underlying' h2, Result.andThen_ok, Instr.sureAddr]
            simp [run_sizeOf' k1, hn, add_none, k6]
          · cases h
        · cases h
      · cases h
    · cases h
  · cases h
theorem elems_ok {x : AV} {c : Value} {ys : List AV} (h : elems G x = some ys) (hI : Inv Q w M ρ G nx) (hx : VA M ρ G x c) :
    (c = .slice none 0 0 ∧ ys = []) ∨ ∃ a cp, c = .slice (some a) ys.length cp ∧ (ys = [] ∨ ∃ b off cs e fr sz, a = ⟨b, off, none⟩ ∧ w.heap[b]? = some (.cells cs e fr) ∧ 0 < sz ∧ (∀ y ∈ ys, y.cells.length = sz) ∧ off + ys.length * sz ≤ cs.size ∧
      ∀ (i : Nat) y (j : Nat) u, ys[i]? = some y → y.cells[j]? = some u → VA M ρ G u (at_ cs (off + i * sz + j))) := by
  unfold elems at h
  split at h
  · cases h; cases hx; exact .inl ⟨rfl, rfl⟩
  · rename_i xs
    cases h
    have hx := hx.imm_inv
    cases hx with
    | nil => exact .inl ⟨rfl, rfl⟩
    | empty a c => exact .inr ⟨a, c, rfl, .inl rfl⟩
    | lst _ b off cp cs e fr sz h0 hcp hM hs h1 h2 h3 =>
      have hcl : ∀ z : IV, (AV.imm z).cells.length = z.cells.length := fun z => by cases z <;> simp [AV.cells, IV.cells]
      refine .inr ⟨⟨b, off, none⟩, cp, by simp, .inr ⟨b, off, cs, e, fr, sz, rfl, hI.mem _ _ hM, hs, fun y hy => ?_, by simpa using h2, fun i y j u hy hu => ?_⟩⟩
      · obtain ⟨z, hz, rfl⟩ := List.mem_map.1 hy
        obtain ⟨i, hi⟩ := List.getElem?_of_mem hz
        rw [hcl]; exact h1 i z hi
      · obtain ⟨z, rfl, hz⟩ := imm_get hy
        have hc2 : ∃ y, u = .imm y ∧ z.cells[j]? = some y := by
          cases z with
          | agg l => exact imm_get hu
          | _ => cases j <;> simp [AV.cells, IV.cells] at hu ⊢; exact hu.symm
        obtain ⟨y, rfl, hy2⟩ := hc2
        exact .imm _ _ (h3 i z j y hz hy2)
  · rename_i q n
    split at h
    · rename_i et sz xs fr hG
      split at h
      · rename_i hn
        cases h
        cases hx with
        | row _ _ a l cp hb hr =>
          have hr := (hr et sz _ fr hG).2 hn.symm
          have := hI.obj q
          unfold ObjOK at this
          rw [hG] at this
          obtain ⟨h0, v, cs, g1, g2, g3, g4⟩ := this
          have g1' := g1
          rw [hr] at g1; cases g1
          rcases g2.2 with ⟨g, g'⟩ | ⟨g, cap, cur, g', _, g5, g6, g7, g8, g9⟩
          · cases g; exact .inl ⟨rfl, List.eq_nil_of_length_eq_zero g'⟩
          · cases g'
            obtain ⟨_, _, _, _, cur', k1, k2, k3, k4⟩ := row_block hI hG hr
            refine .inr ⟨⟨g, 0, none⟩, _, rfl, .inr ⟨g, 0, cur', et, _, sz, rfl, k1, h0, fun y hy => AV.fits_len (k3 y hy), ?_, fun i y j u hy hu => ?_⟩⟩
            · rw [k2, Nat.zero_add]; exact Nat.mul_le_mul_right _ (by assumption)
            · rw [Nat.zero_add]; exact k4 i y j u hy hu
      · cases h
    · cases h
  · cases h
theorem lenA_ok {x : AV} {c : Value} {n : Nat} {t ty : TypeId} {i : TyI} (ht : C.ty t = some i) (h : lenA G i.d x = some n) (hI : Inv Q w M ρ G nx) (hx : VA M ρ G x c) :
    (Builtin.len_ #[t] ty #[c]).run C.P w = .ok (.int .i64 n) w := by
  obtain ⟨info, zv, d, h1, h2, h3, h4, h5, h6, h7, h8⟩ := tyOf_some ht
  rw [h5] at h
  unfold lenA at h
  split at h
  · rename_i hd
    cases d <;> simp only [tyd, reduceCtorEq] at hd
    split at h
    · rename_i s
      cases h
      obtain rfl := hx.str_inv
      simp [Builtin.len_, run_underlying' h2, goInt]
    · cases h
  · rename_i e hd
    cases d <;> simp only [tyd, reduceCtorEq] at hd
    split at h
    · rename_i l hl
      cases h
      rcases elems_ok hl hI hx with ⟨rfl, rfl⟩ | ⟨a, cp, rfl, _⟩
      · simp [Builtin.len_, run_underlying' h2, goInt]
      · simp [Builtin.len_, run_underlying' h2, goInt]
    · cases h
  · rename_i k e hd
    cases d <;> simp only [tyd, reduceCtorEq] at hd
    split at h
    · cases h
      have hx := hx.imm_inv
      cases hx
      simp [Builtin.len_, run_underlying' h2, goInt]
    · cases h
      have hx := hx.imm_inv
      cases hx with
      | fmp ks vs b es clk hM hk =>
        have := hI.mem _ _ hM
        simp [Builtin.len_, run_underlying' h2, goInt, getObj, Sem.run, this, hk]
    · rename_i o
      split at h
      · rename_i ks vs fr hG
        cases h
        cases hx with
        | map _ b hr =>
          have := hI.obj o
          unfold ObjOK at this
          rw [hG] at this
          obtain ⟨b', es, clk, g1, g2, g3, _⟩ := this
          rw [hr] at g1; cases g1
          simp [Builtin.len_, run_underlying' h2, goInt, getObj, Sem.run, g2, g3]
      · cases h
    · cases h
  · cases h
/-! ### append -/
theorem append_own {t e : TypeId} {ty : TypeId} {i : TypeInfo} {z : Value} {base size : Nat} (ht : P.underlying t = some (.slice e)) (hi : P.info? e = some i) (hz : i.zero = some z) (hsize : i.size = size) (hzs : z.cells.size = size) (hsz : 0 < size)
    {v : Value} {n : Nat} {xs : List Value} (hown : w.ownsRow base e size v n xs) (a : Addr) (m c : Nat) (news : List Value) (hl : news.length = m * size) (hnews : ∀ (j : Nat) u, news[j]? = some u → w.cell? (a.add j) = some u) (h1 : ∀ u ∈ news, u.oneCell' = true)
    (hby : i.bytes ≤ 4096) (hm : n + m ≤ most) (hbase : base ≤ w.heap.size) :
    ∃ v' w', (Builtin.append_ #[t, t] ty #[v, .slice (some a) m c]).run P w = .ok v' w' ∧ w'.ownsRow base e size v' (n + m) (xs ++ news) ∧ w.grownBy w' v.ownBlock ∧
      (∀ b, v'.ownBlock = some b → v.ownBlock = some b ∨ w.heap.size ≤ b) ∧ (m = 0 → v' = v) := by
  have hml : n + m ≤ maxLen := by unfold most at hm; unfold maxLen; omega
  have hbt : (n + m) * i.bytes ≤ 140737488355328 := Nat.le_trans (Nat.mul_le_mul hm hby) (by decide)
  obtain ⟨v', w', hr, ho, hg, _⟩ := run_append_own (P := P) w base t ty e i z size i.bytes ht hi hz hsize rfl hzs hsz v n xs hown a m c news hl hnews h1 hml hbt hbase
  refine ⟨v', w', hr, ho, hg, ?_⟩
  subst hsize
  rcases hown.2 with ⟨rfl, rfl⟩ | ⟨g, cap, cur, rfl, hbg, hgg, hnc, hcm, hcs, htake⟩
  · rcases Nat.eq_zero_or_pos m with rfl | hm0
    · obtain ⟨v2, w2, hr2, ho2, _, hnil⟩ := run_append_own (P := P) w base t ty e i z i.size i.bytes ht hi hz rfl rfl hzs hsz _ 0 xs hown a 0 c news hl hnews h1 hml hbt hbase
      rw [hr] at hr2; cases hr2
      have := hnil.2 ⟨rfl, rfl⟩
      subst this
      exact ⟨fun b hb => .inl hb, fun _ => rfl⟩
    · have hr2 := run_append_nil (P := P) w t ty e i z ht hi hz a m c news hl hnews hm0 (by unfold maxLen at hml; omega) (by simp only [Nat.zero_add] at hbt; omega)
      rw [hr] at hr2; cases hr2
      exact ⟨fun b hb => by simp [Value.ownBlock] at hb; exact .inr (by omega), fun h => by omega⟩
  · by_cases hroom : n + m ≤ cap
    · have hr2 := run_append_room (P := P) w t ty e i ht hi g n cap cur hgg a m c news hl hnews h1 hroom (by rw [hl, hcs, ← Nat.add_mul]; exact Nat.mul_le_mul_right _ hroom)
      rw [hr] at hr2; cases hr2
      exact ⟨fun b hb => .inl hb, fun h => by subst h; rfl⟩
    · have hr2 := run_append_grow (P := P) w t ty e i z ht hi hz ⟨g, 0, none⟩ n cap xs hown.1 (hown.cells (g := g) rfl) a m c news hl hnews (by omega) (by unfold maxLen at hml; omega) (growslice_fits (by omega) hbt)
      rw [hr] at hr2; cases hr2
      exact ⟨fun b hb => by simp [Value.ownBlock] at hb; exact .inr (by omega), fun h => by omega⟩
theorem ownsRow_base {base sz n : Nat} {e : TypeId} {v : Value} {cs : List Value} (h : w.ownsRow base e sz v n cs) : w.ownsRow 0 e sz v n cs := by
  refine ⟨h.1, ?_⟩
  rcases h.2 with h | ⟨g, cap, cur, h1, _, h2⟩
  · exact .inl h
  · exact .inr ⟨g, cap, cur, h1, Nat.zero_le _, h2⟩
theorem ownsRow_blk {base sz n : Nat} {e : TypeId} {v : Value} {cs : List Value} (h : w.ownsRow base e sz v n cs) : blk v = v.ownBlock := by
  rcases h.2 with ⟨rfl, _⟩ | ⟨g, cap, cur, rfl, _⟩ <;> rfl
theorem news_of {ys : List AV} {sz b off : Nat} {cs : Array Value} {e : TypeId} {fr : Nat × Nat} (hf : ∀ y ∈ ys, y.fits sz = true) (hg : w.heap[b]? = some (.cells cs e fr)) (hfit : off + ys.length * sz ≤ cs.size)
    (hc : ∀ (i : Nat) y (j : Nat) u, ys[i]? = some y → y.cells[j]? = some u → VA M ρ G u (at_ cs (off + i * sz + j))) (h0 : 0 < sz) :
    ∃ news : List Value, news.length = ys.length * sz ∧ (∀ (j : Nat) u, news[j]? = some u → w.cell? ((⟨b, off, none⟩ : Addr).add j) = some u) ∧ (∀ u ∈ news, u.oneCell' = true) ∧
      ∀ (i : Nat) y (j : Nat) u, ys[i]? = some y → y.cells[j]? = some u → VA M ρ G u (news.getD (i * sz + j) Go.undef) := by
  have hget : ∀ k, k < ys.length * sz → ((List.range (ys.length * sz)).map fun k => at_ cs (off + k))[k]? = some (at_ cs (off + k)) := fun k hk => by simp [List.getElem?_range hk]
  refine ⟨(List.range (ys.length * sz)).map fun k => at_ cs (off + k), by simp, fun j u hu => ?_, fun u hu => ?_, fun i y j u hy hu => ?_⟩
  · have hj : j < ys.length * sz := by have := (List.getElem?_eq_some_iff.1 hu).1; simpa using this
    rw [hget j hj] at hu; cases hu
    rw [add_none]; exact cell_at hg (by omega)
  · obtain ⟨k, hk, rfl⟩ := List.mem_map.1 hu
    simp at hk
    have hi : k / sz < ys.length := by rw [Nat.div_lt_iff_lt_mul h0]; exact hk
    have hj : k % sz < sz := Nat.mod_lt _ h0
    have hy := List.getElem?_eq_getElem hi
    have hyf := hf _ (List.getElem_mem hi)
    have hyl := AV.fits_len hyf
    have hu := List.getElem?_eq_getElem (l := ys[k / sz].cells) (i := k % sz) (by omega)
    have := hc (k / sz) _ (k % sz) _ hy hu
    rw [Nat.add_assoc, show k / sz * sz + k % sz = k by rw [Nat.mul_comm]; exact Nat.div_add_mod k sz] at this
    exact this.one (AV.fits_one hyf _ (List.getElem_mem _))
  · have hi := (List.getElem?_eq_some_iff.1 hy).1
    have hj := (List.getElem?_eq_some_iff.1 hu).1
    have hyl := AV.fits_len (hf y (List.mem_of_getElem? hy))
    rw [List.getD_eq_getElem?_getD, hget _ (mul_lt_of hi (by omega))]
    have := hc i y j u hy hu
    rw [Nat.add_assoc] at this
    exact this
theorem aAppend_ok {s : St} {id : Nat} {t u : TypeId} {a x v : AV} {ca cx : Value} {ups : List (Nat × U)} {ty : TypeId} (h : aAppend C s id t u a x = some (.val v ups)) (hI : Inv Q w M ρ s.G nx) (hid : ρ id = none) (hlt : id < nx)
    (ha : VA M ρ s.G a ca) (hx : VA M ρ s.G x cx) : Good id Q M ρ s.G nx w (updL s.G ups) v ((vNext (Builtin.append_ #[t, u] ty #[ca, cx])).run C.P w) := by
  unfold aAppend at h
  split at h
  · rename_i k ys hk hys
    split at h
    · rename_i et hd
      split at h
      · rename_i i hi
        split at h
        · rename_i hcnd
          obtain ⟨rfl, c2, c3, c4, c5⟩ := hcnd
          obtain ⟨info, zv, d, h1, h2, h3, h4, h5, h6, h7, h8⟩ := tyOf_some hk
          rw [hd] at h5
          cases d <;> simp only [tyd, reduceCtorEq, TyD.sl.injEq] at h5
          subst h5
          obtain ⟨info', zv', d', k1, k2, k3, k4, k5, k6, k7, k8⟩ := tyOf_some hi
          have hzs : zv'.cells.size = i.sz := by
            have := (cells_cv (M := M) (ρ := ρ) (G := s.G) zv').1
            rw [← k8] at this; rw [← this]; exact AV.fits_len c4
          have hyf : ∀ y ∈ ys, y.fits i.sz = true := by simpa [List.all_eq_true] using c5
          -- what the append comes to, from any row
          have key : ∀ (base : Nat) (v0 : Value) (n : Nat) (xs : List Value), w.ownsRow base et i.sz v0 n xs → n + ys.length ≤ most → base ≤ w.heap.size →
              ∃ v' w' news, (Builtin.append_ #[t, t] ty #[v0, cx]).run C.P w = .ok v' w' ∧ w'.ownsRow base et i.sz v' (n + ys.length) (xs ++ news) ∧ w.grownBy w' v0.ownBlock ∧
                (∀ b, v'.ownBlock = some b → v0.ownBlock = some b ∨ w.heap.size ≤ b) ∧ (ys.length = 0 → v' = v0) ∧
                ∀ (i' : Nat) y (j : Nat) u, ys[i']? = some y → y.cells[j]? = some u → VA M ρ s.G u (news.getD (i' * i.sz + j) Go.undef) := by
            intro base v0 n xs hown hm hb
            rcases elems_ok hys hI hx with ⟨rfl, rfl⟩ | ⟨ad, cp, rfl, hcase⟩
            · refine ⟨v0, w, [], run_append_owned_none (P := C.P) w base t ty et info' i.sz h2 k1 v0 n xs hown, by simpa using hown, ⟨rfl, rfl, rfl, Nat.le_refl _, fun _ _ _ => rfl⟩, fun b hb => .inl hb, fun _ => rfl, fun i' y j u hy => by simp at hy⟩
            · have hnews : ∃ news : List Value, news.length = ys.length * i.sz ∧ (∀ (j : Nat) u, news[j]? = some u → w.cell? (ad.add j) = some u) ∧ (∀ u ∈ news, u.oneCell' = true) ∧
                  ∀ (i' : Nat) y (j : Nat) u, ys[i']? = some y → y.cells[j]? = some u → VA M ρ s.G u (news.getD (i' * i.sz + j) Go.undef) := by
                rcases hcase with rfl | ⟨b, off, cs, e, fr, sz, rfl, g1, g2, g3, g4, g5⟩
                · exact ⟨[], by simp, fun j u hu => by simp at hu, fun u hu => by simp at hu, fun i' y j u hy => by simp at hy⟩
                · cases ys with
                  | nil => exact ⟨[], by simp, fun j u hu => by simp at hu, fun u hu => by simp at hu, fun i' y j u hy => by simp at hy⟩
                  | cons y0 r =>
                    have : sz = i.sz := by rw [← g3 y0 (by simp)]; exact AV.fits_len (hyf y0 (by simp))
                    subst this
                    exact news_of hyf g1 g4 g5 g2
              obtain ⟨news, n1, n2, n3, n4⟩ := hnews
              obtain ⟨v', w', r1, r2, r3, r4, r5⟩ := append_own (P := C.P) (ty := ty) h2 k1 k3 (k6.symm) hzs c2 hown ad ys.length cp news n1 n2 n3 (by omega) hm hb
              exact ⟨v', w', news, r1, r2, r3, r4, r5, n4⟩
          split at h
          · split at h
            · rename_i hlen
              cases h
              cases ha
              obtain ⟨v', w', news, r1, r2, r3, r4, r5, r6⟩ := key w.heap.size (.slice none 0 0) 0 [] (World.ownsRow_nil w _ _ _) (by omega) (Nat.le_refl _)
              simp only [Nat.zero_add, List.nil_append] at r2
              refine good_row (ids := []) (w2 := w') (v := v') (cs := news) hI hid hlt c2 (ownsRow_base r2) hyf r6 (fun b hb => ?_) ⟨r3.os, r3.tape, r3.output, r3.size, fun b hb => ?_⟩ (fun b hb => r3.block b hb (by simp [Value.ownBlock])) r1
              · rw [ownsRow_blk r2] at hb
                rcases r4 b hb with h | h
                · simp [Value.ownBlock] at h
                · exact h
              · have : b < w.heap.size := by
                  rcases Nat.lt_or_ge b w.heap.size with h1 | h1
                  · exact h1
                  · exact absurd (hI.new b h1) hb
                exact r3.block b this (by simp [Value.ownBlock])
            · cases h
          · rename_i q n
            split at h
            · rename_i et' sz xs hG
              split at h
              · rename_i hc
                obtain ⟨e1, rfl, rfl, hlen⟩ := hc
                cases h
                have hobj := hI.obj q
                unfold ObjOK at hobj
                rw [hG] at hobj
                obtain ⟨h0, v0, cs, g1, g2, g3, g4⟩ := hobj
                have hca : ca = v0 := by
                  cases ha with
                  | row _ _ a' l cp hb hr =>
                    have := (hr et' _ xs _ hG).2 e1.symm
                    rw [g1] at this; cases this; rfl
                subst hca
                obtain ⟨v', w', news, r1, r2, r3, r4, r5, r6⟩ := key 0 ca xs.length cs g2 (by omega) (Nat.zero_le _)
                have hslice : ∃ a' l cp, ca = .slice a' l cp := by
                  rcases g2.2 with ⟨rfl, _⟩ | ⟨g, cap, cur, rfl, _⟩ <;> exact ⟨_, _, _, rfl⟩
                have hslice' : ∃ a' cp, v' = .slice a' (xs ++ ys).length cp := by
                  rcases r2.2 with ⟨rfl, e⟩ | ⟨g, cap, cur, rfl, _⟩
                  · exact ⟨_, _, by rw [List.length_append, e]⟩
                  · exact ⟨_, _, by rw [List.length_append]⟩
                have hlive : (s.G q).live = true := by rw [hG]; rfl
                have hfroz : (s.G q).frozen = false := by rw [hG]; rfl
                have hqnx : q < nx := by
                  rcases Nat.lt_or_ge q nx with h | h
                  · exact h
                  · rw [hI.free q h] at g1; cases g1
                have hE : Ev M ρ s.G M (upd ρ q (some v')) (upd s.G q (.row et' i.sz (xs ++ ys) false)) := by
                  refine ⟨Mem.le_refl M, fun o v h => ?_, fun o hb et2 sz2 xs2 fr2 h => ?_⟩
                  · by_cases ho : o = q
                    · subst ho; rw [g1] at h; cases h; exact .inr ⟨hslice, by simp [upd]⟩
                    · left; simp [upd, ho, h]
                  · by_cases ho : o = q
                    · subst ho
                      simp only [upd, if_true, Obj.row.injEq] at h
                      obtain ⟨rfl, rfl, rfl, rfl⟩ := h
                      refine ⟨xs, _, hG, by simp, fun hq => ?_⟩
                      have : ys.length = 0 := by simpa using hq
                      simp [upd, r5 this, g1]
                    · simp only [upd, if_neg ho] at h ⊢
                      exact ⟨xs2, fr2, h, Nat.le_refl _, fun _ => trivial⟩
                have hblk : ∀ b, blk v' = some b → w.heap.size ≤ b ∨ ((s.G q).live = true ∧ (s.G q).frozen = false ∧ ∃ v, ρ q = some v ∧ blk v = some b) := by
                  intro b hb
                  rw [ownsRow_blk r2] at hb
                  rcases r4 b hb with h | h
                  · exact .inr ⟨hlive, hfroz, ca, g1, by rw [ownsRow_blk g2]; exact h⟩
                  · exact .inl h
                refine ⟨_, v', w', M, upd ρ q (some v'), run_vNext r1, .inl rfl, hE, ?_, ?_, ⟨r3.os, r3.tape, r3.output, r3.size, fun b hb => ?_⟩, MQ.refl _ _, fun o _ e => by by_cases h : o = q <;> simp_all [upd]⟩
                · refine hI.put hqnx hE (fun b => ?_) r3.size ?_ hblk
                  · rcases Nat.lt_or_ge b w.heap.size with h | h
                    · by_cases hbq : some b = ca.ownBlock
                      · exact .inr (.inr ⟨hlive, hfroz, ca, g1, by rw [ownsRow_blk g2]; exact hbq.symm⟩)
                      · exact .inl (r3.block b h hbq)
                    · exact .inr (.inl h)
                  · unfold ObjOK
                    simp only [upd, if_true]
                    refine ⟨h0, v', cs ++ news, rfl, by rw [List.length_append]; exact r2, ⟨fun z hz => ?_, fun a z j y hz hy => ?_⟩, fun h => by cases h⟩
                    · rcases List.mem_append.1 hz with hz | hz
                      · exact g3.fit z hz
                      · exact hyf z hz
                    · refine VA.mono hE ?_
                      rw [List.getElem?_append] at hz
                      have hcs := g2.1
                      have hzl : z.cells.length = i.sz := by
                        split at hz
                        · exact AV.fits_len (g3.fit z (List.mem_of_getElem? hz))
                        · exact AV.fits_len (hyf z (List.mem_of_getElem? hz))
                      have hj := (List.getElem?_eq_some_iff.1 hy).1
                      split at hz
                      · rename_i hlt2
                        have hlt3 := mul_lt_of (sz := i.sz) (j := j) hlt2 (by omega)
                        have : (cs ++ news).getD (a * i.sz + j) Go.undef = cs.getD (a * i.sz + j) Go.undef := by
                          simp only [List.getD_eq_getElem?_getD]; rw [List.getElem?_append_left (by omega)]
                        rw [this]; exact g3.cell a z j y hz hy
                      · rename_i hge
                        have hmul : xs.length * i.sz ≤ a * i.sz := Nat.mul_le_mul_right _ (by omega)
                        have hsub : (a - xs.length) * i.sz = a * i.sz - xs.length * i.sz := Nat.sub_mul ..
                        have : (cs ++ news).getD (a * i.sz + j) Go.undef = news.getD ((a - xs.length) * i.sz + j) Go.undef := by
                          simp only [List.getD_eq_getElem?_getD]; rw [List.getElem?_append_right (by omega)]; congr 2; omega
                        rw [this]; exact r6 (a - xs.length) z j y hz hy
                · obtain ⟨a', cp, rfl⟩ := hslice'
                  refine .row q _ _ _ _ (by simp [upd]) fun et2 sz2 xs2 fr2 e => ?_
                  simp only [updL, U.on, upd, if_true, Obj.row.injEq] at e
                  obtain ⟨rfl, rfl, rfl, rfl⟩ := e
                  exact ⟨Nat.le_refl _, fun _ => by simp [upd]⟩
                · have hlt3 : b < w.heap.size := by
                    rcases Nat.lt_or_ge b w.heap.size with h1 | h1
                    · exact h1
                    · exact absurd (hI.new b h1) hb
                  refine r3.block b hlt3 fun e => hb ?_
                  exact (hI.own q ca b hlive hfroz g1 (by rw [ownsRow_blk g2]; exact e.symm)).2
              · cases h
            · cases h
          · cases h
        · cases h
      · cases h
    · cases h
  · cases h
end Go.Abs

/- The abstract interpreter: maps. -/
namespace Go.Abs
variable {id : Nat}
variable {M M' : Mem} {ρ ρ' : Ref} {G G' : Nat → Obj} {w w' : World} {nx : Nat} {Q : Nat → Prop} {P : Program} {C : Cfg}
theorem getD_entry (es : Array MapEntry) (i : Nat) (h : i < es.size) : es.getD i default = es[i] := by simp [Array.getD_eq_getD_getElem?, h]
def KeysOf (M : Mem) (ks : List IV) (es : List MapEntry) : Prop := ks.length = es.length ∧ ∀ (i : Nat) x e, ks[i]? = some x → es[i]? = some e → VI M x e.key
theorem KeysOf.of {ks : List IV} {es : Array MapEntry} (hl : ks.length = es.size) (h : ∀ (i : Nat) x, ks[i]? = some x → VI M x (es.getD i default).key) : KeysOf M ks es.toList := by
  refine ⟨by simpa using hl, fun i x e hx he => ?_⟩
  have := h i x hx
  have hi := (List.getElem?_eq_some_iff.1 hx).1
  rw [getD_entry es i (by omega)] at this
  rw [List.getElem?_eq_getElem (by simp; omega)] at he
  cases he
  simpa using this
theorem sameNow_ok {d : TypeDesc} {k x : IV} {ck cx : Value} {b : Bool} (hd : keyOk (tyd P d) k = true) (hk : VI M k ck) (hx : VI M x cx) (h : scalarEq k x = some b) : Instr.sameNow d ck cx = some b := by
  unfold keyOk at hd
  split at hd
  · rename_i h1
    cases d <;> simp only [tyd, reduceCtorEq] at h1
    cases hk
    cases hx <;> simp only [scalarEq, reduceCtorEq] at h
    simpa [Instr.sameNow] using h
  · rename_i h1
    cases d <;> simp only [tyd, reduceCtorEq] at h1
    cases hk
    cases hx <;> simp only [scalarEq, reduceCtorEq] at h
    simpa [Instr.sameNow] using h
  · rename_i h1
    cases d <;> simp only [tyd, reduceCtorEq] at h1
    cases hk
    cases hx <;> simp only [scalarEq, reduceCtorEq] at h
    simpa [Instr.sameNow] using h
  · cases hd
theorem findNow_ok {d : TypeDesc} {k : IV} {ck : Value} (hd : keyOk (tyd P d) k = true) (hk : VI M k ck) : ∀ (ks : List IV) (es : List MapEntry) (i0 : Nat) (r : Option Nat), KeysOf M ks es → keyFind k ks = some r →
    (∀ j, r = some j → j < es.length) ∧ Instr.findNow d ck es i0 = some (r.bind fun j => (es[j]?).map fun e => (i0 + j, e.val)) ∧ (∀ j, r = some j → ∃ x, ks[j]? = some x ∧ scalarEq k x = some true) := by
  intro ks
  induction ks with
  | nil =>
    intro es i0 r hK h
    cases es with
    | nil => simp only [keyFind, Option.some.injEq] at h; subst h; exact ⟨fun j hj => (nomatch hj), rfl, fun j hj => (nomatch hj)⟩
    | cons e es => simp [KeysOf] at hK
  | cons x ks ih =>
    intro es i0 r hK h
    cases es with
    | nil => simp [KeysOf] at hK
    | cons e es =>
      have hx := hK.2 0 x e rfl rfl
      have hK' : KeysOf M ks es := ⟨by simpa using hK.1, fun i y e' hy he => hK.2 (i + 1) y e' (by simpa using hy) (by simpa using he)⟩
      simp only [keyFind] at h
      split at h
      · rename_i hs
        cases h
        have := sameNow_ok hd hk hx hs
        exact ⟨fun j hj => by cases hj; simp, by simp [Instr.findNow, this], fun j hj => by cases hj; exact ⟨x, rfl, hs⟩⟩
      · rename_i hs
        have := sameNow_ok hd hk hx hs
        simp only [Option.map_eq_some_iff] at h
        obtain ⟨r', h', rfl⟩ := h
        obtain ⟨h1, h2, h3⟩ := ih es (i0 + 1) r' hK' h'
        refine ⟨fun j hj => ?_, ?_, fun j hj => ?_⟩
        · cases r' with
          | none => cases hj
          | some j' => cases hj; have := h1 j' rfl; simp; omega
        · simp only [Instr.findNow, this, h2]
          cases r' with
          | none => rfl
          | some j' => simp [Nat.add_assoc, Nat.add_comm 1 j']
        · cases r' with
          | none => cases hj
          | some j' => cases hj; obtain ⟨y, g1, g2⟩ := h3 j' rfl; exact ⟨y, by simpa using g1, g2⟩
      · cases h
theorem checkKey_ok {d : TypeDesc} {kt : TypeId} {k : IV} {ck : Value} {em : Bool} {n : Nat} (hu : P.underlying kt = some d) (hd : keyOk (tyd P d) k = true) : (Instr.checkKey em (n + 1) kt ck).run P w = .ok () w := by
  unfold keyOk at hd
  simp only [Instr.checkKey, Sem.run_bind, run_underlying' hu, Result.andThen_ok]
  split at hd <;> rename_i h1 <;> first | (cases d <;> simp only [tyd, reduceCtorEq] at h1 <;> rfl) | cases hd
theorem mapKV_ok {m : AV} {c : Value} {ks : List IV} {vs : List AV} (h : mapKV G m = some (ks, vs)) (hI : Inv Q w M ρ G nx) (hm : VA M ρ G m c) :
    (c = .map none ∧ ks = [] ∧ vs = []) ∨ ∃ b es clk, c = .map (some b) ∧ w.heap[b]? = some (.map es clk) ∧ ks.length = es.size ∧ vs.length = es.size ∧
      (∀ (i : Nat) x, ks[i]? = some x → VI M x (es.getD i default).key) ∧ (∀ (i : Nat) x, vs[i]? = some x → VA M ρ G x (es.getD i default).val) := by
  unfold mapKV at h
  split at h
  · cases h
    have hm := hm.imm_inv
    cases hm
    exact .inl ⟨rfl, rfl, rfl⟩
  · cases h
    have hm := hm.imm_inv
    cases hm with
    | fmp _ _ b es clk hM hk hv hks hvs hbn =>
      refine .inr ⟨b, es, clk, rfl, hI.mem _ _ hM, hk, by simpa using hv, hks, fun i x hx => ?_⟩
      obtain ⟨z, rfl, hz⟩ := imm_get hx
      exact .imm _ _ (hvs i z hz)
  · rename_i o
    split at h
    · rename_i ks' vs' fr hG
      cases h
      cases hm with
      | map _ b hr =>
        have := hI.obj o
        unfold ObjOK at this
        rw [hG] at this
        obtain ⟨b', es, clk, g1, g2, g3, g4, g5, g6, g7⟩ := this
        rw [hr] at g1; cases g1
        exact .inr ⟨b, es, clk, rfl, g2, g3, g4, g5, g6⟩
    · cases h
  · cases h
theorem VA_pair {a b : AV} {x y : Value} (ha : VA M ρ G a x) (hb : VA M ρ G b y) : VA M ρ G (mkTup [a, b]) (.tuple #[x, y]) := by
  refine VA_mkTup ⟨rfl, fun i z hz => ?_⟩
  match i, hz with
  | 0, hz => simp at hz; subst hz; exact ha
  | 1, hz => simp at hz; subst hz; exact hb
  | i + 2, hz => simp at hz
theorem lookA_ok {t : TypeId} {m key v : AV} {ok : Bool} {cm ck : Value} {ups : List (Nat × U)} (h : lookA C t G m key ok = some (.val v ups)) (hI : Inv Q w M ρ G nx) (hm : VA M ρ G m cm) (hk : VA M ρ G key ck) :
    ups = [] ∧ ∃ u, (Instr.lookup t cm ck ok).run C.P w = .ok u w ∧ VA M ρ G v u := by
  unfold lookA at h
  split at h
  · rename_i i hi
    split at h
    · rename_i kt e hd
      split at h
      · rename_i key ks vs k hkv hkt
        split at h
        · rename_i hok
          obtain ⟨info, zv, d, h1, h2, h3, h4, h5, h6, h7, h8⟩ := tyOf_some hi
          rw [hd] at h5
          cases d <;> simp only [tyd, reduceCtorEq, TyD.mp.injEq] at h5
          obtain ⟨rfl, rfl⟩ := h5
          obtain ⟨kinfo, kzv, kd, k1, k2, k3, k4, k5, k6, k7, k8⟩ := tyOf_some hkt
          rw [k5] at hok
          have hk := hk.imm_inv
          have hsome : ∀ (j : Nat) (x : AV) (b : Nat) (es : Array MapEntry) (clk : Nat), keyFind key ks = some (some j) → vs[j]? = some x → cm = .map (some b) → w.heap[b]? = some (.map es clk) → ks.length = es.size → vs.length = es.size →
              (∀ (i : Nat) x, ks[i]? = some x → VI M x (es.getD i default).key) → (∀ (i : Nat) x, vs[i]? = some x → VA M ρ G x (es.getD i default).val) →
              ∃ u, (Instr.lookup t cm ck ok).run C.P w = .ok u w ∧ VA M ρ G (if ok then mkTup [x, .imm (.bool true)] else x) u := by
            intro j x b es clk hf hx hc hh hl1 hl2 hks hvs
            subst hc
            obtain ⟨g1, g2, _⟩ := findNow_ok hok hk ks es.toList 0 (some j) (KeysOf.of hl1 hks) hf
            have hj := (List.getElem?_eq_some_iff.1 hx).1
            have hv := hvs j x hx
            rw [getD_entry es j (by omega)] at hv
            have hj2 : es.toList[j]? = some es[j] := by rw [Array.getElem?_toList]; simp
            simp only [Option.bind_some] at g2
            rw [hj2] at g2
            simp only [Option.map_some, Nat.zero_add] at g2
            have hrun : (Instr.lookup t (.map (some b)) ck ok).run C.P w = .ok (if ok then .tuple #[es[j].val, .bool true] else es[j].val) w := by
              simp only [Instr.lookup, Sem.run_bind, run_underlying' h2, Result.andThen_ok]
              simp [getObj, Sem.run, hh, checkKey_ok k2 hok, Instr.findKey, run_underlying' k2, g2]
            refine ⟨_, hrun, ?_⟩
            cases ok
            · exact hv
            · exact VA_pair hv (.imm _ _ (.bool _))
          have hnone : ∀ (z : TyI), keyFind key ks = some none → C.ty e = some z → ∃ u, (Instr.lookup t cm ck ok).run C.P w = .ok u w ∧ VA M ρ G (if ok then mkTup [z.zero, .imm (.bool false)] else z.zero) u := by
            intro z hf hz
            obtain ⟨einfo, ezv, ed, e1, e2, e3, e4, e5, e6, e7, e8⟩ := tyOf_some hz
            have hzv : VA M ρ G z.zero ezv := by rw [e8]; exact VA_cv ezv
            have hrun : (Instr.lookup t cm ck ok).run C.P w = .ok (if ok then .tuple #[ezv, .bool false] else ezv) w := by
              rcases mapKV_ok hkv hI hm with ⟨rfl, rfl, rfl⟩ | ⟨b, es, clk, rfl, hh, hl1, hl2, hks, hvs⟩
              · simp only [Instr.lookup, Sem.run_bind, run_underlying' h2, Result.andThen_ok]
                simp [checkKey_ok k2 hok, Instr.findKey, run_underlying' k2, Instr.findNow, run_zeroValue' e1 e3]
              · obtain ⟨g1, g2, _⟩ := findNow_ok hok hk ks es.toList 0 none (KeysOf.of hl1 hks) hf
                simp only [Option.bind_none] at g2
                simp only [Instr.lookup, Sem.run_bind, run_underlying' h2, Result.andThen_ok]
                simp [getObj, Sem.run, hh, checkKey_ok k2 hok, Instr.findKey, run_underlying' k2, g2, run_zeroValue' e1 e3]
            refine ⟨_, hrun, ?_⟩
            cases ok
            · exact hzv
            · exact VA_pair hzv (.imm _ _ (.bool _))
          split at h
          · rename_i j hf
            split at h
            · rename_i x hx
              cases h
              rcases mapKV_ok hkv hI hm with ⟨rfl, rfl, rfl⟩ | ⟨b, es, clk, hc, hh, hl1, hl2, hks, hvs⟩
              · simp at hx
              · exact ⟨rfl, hsome j x b es clk hf hx hc hh hl1 hl2 hks hvs⟩
            · cases h
          · rename_i hf
            split at h
            · rename_i z hz
              cases h
              exact ⟨rfl, hnone z hf hz⟩
            · cases h
          · cases h
        · cases h
      · cases h
    · cases h
  · cases h
theorem ba_eq (a b : ByteArray) : (a == b) = decide (a = b) := by
  have h : (a == b) = (a.data == b.data) := by cases a; cases b; rfl
  rw [h, Bool.eq_iff_iff]; simp; cases a; cases b; simp
theorem scalarEq_true {k x : IV} {ck cx : Value} (h : scalarEq k x = some true) (hk : VI M k ck) (hx : VI M x cx) : ∀ n, Instr.sameBits (n + 1) cx ck = true := by
  intro n
  cases hk <;> cases hx <;> simp only [scalarEq, reduceCtorEq, Option.some.injEq] at h
  · have := eq_of_beq h; subst this; simp [Instr.sameBits]
  · split at h
    · rename_i hk; subst hk; simp at h; subst h; simp [Instr.sameBits]
    · cases h
  · rw [ba_eq] at h; simp at h; subst h; simp [Instr.sameBits, ba_eq]
theorem getD_modify (es : Array MapEntry) (i j : Nat) (f : MapEntry → MapEntry) (h : j < es.size) : (es.modify i f).getD j default = if i = j then f (es.getD j default) else es.getD j default := by
  simp only [Array.getD_eq_getD_getElem?, Array.getElem?_modify]
  by_cases hi : i = j
  · simp [hi, h]
  · simp [hi]
theorem Born.push {es : Array MapEntry} {clk : Nat} (h : Born es clk) (k v : Value) : Born (es.push { key := k, val := v, born := clk }) (clk + 1) := by
  refine ⟨fun x hx => ?_, ?_⟩
  · simp only [Array.toList_push, List.mem_append, List.mem_singleton] at hx
    rcases hx with hx | rfl
    · have := h.1 x hx; omega
    · exact Nat.lt_succ_self _
  · simp only [Array.toList_push, List.map_append, List.map_cons, List.map_nil]
    rw [List.nodup_append]
    refine ⟨h.2, by simp, ?_⟩
    intro a ha b hb
    simp only [List.mem_map] at ha
    obtain ⟨x, hx, rfl⟩ := ha
    have := h.1 x hx
    simp only [List.mem_singleton] at hb
    subst hb
    omega
theorem Born.modify {es : Array MapEntry} {clk : Nat} (h : Born es clk) (j : Nat) (f : MapEntry → MapEntry) (hf : ∀ e, (f e).born = e.born) : Born (es.modify j f) clk := by
  have e : (es.modify j f).toList.map (·.born) = es.toList.map (·.born) := by
    apply List.ext_getElem?
    intro i
    simp only [List.getElem?_map, Array.getElem?_toList, Array.getElem?_modify]
    split
    · cases es[i]? <;> simp [hf]
    · rfl
  refine ⟨fun x hx => ?_, by rw [e]; exact h.2⟩
  have : x.born ∈ (es.modify j f).toList.map (·.born) := List.mem_map.2 ⟨x, hx, rfl⟩
  rw [e, List.mem_map] at this
  obtain ⟨y, hy, he⟩ := this
  rw [← he]; exact h.1 y hy
theorem getD_push (es : Array MapEntry) (e : MapEntry) (j : Nat) : (es.push e).getD j default = if j = es.size then e else es.getD j default := by
  simp only [Array.getD_eq_getD_getElem?, Array.getElem?_push]
  split <;> simp_all
theorem setIf_heap (w : World) (b : Nat) (o : Go.Obj) (h : b < w.heap.size) : ({ w with heap := w.heap.setIfInBounds b o } : World).heap[b]? = some o := by simp [h]
theorem setIf_other (w : World) (b k : Nat) (o : Go.Obj) (h : k ≠ b) : ({ w with heap := w.heap.setIfInBounds b o } : World).heap[k]? = w.heap[k]? := by
  simp only [Array.getElem?_setIfInBounds]
  rw [if_neg (fun e => h e.symm)]
theorem aMapUpdate_ok {s : St} {t : TypeId} {m k x v : AV} {cm ck cx : Value} {ups : List (Nat × U)} (h : aMapUpdate C s t m k x = some (.val v ups)) (hI : Inv Q w M ρ s.G nx) (hm : VA M ρ s.G m cm) (hk : VA M ρ s.G k ck) (hx : VA M ρ s.G x cx) :
    Good id Q M ρ s.G nx w (updL s.G ups) v ((uNext (Instr.mapUpdate t cm ck cx)).run C.P w) := by
  unfold aMapUpdate at h
  split at h
  · rename_i i q key hi
    split at h
    · rename_i kt e ks vs hd hG
      split at h
      · rename_i kk hkt
        split at h
        · rename_i hok
          obtain ⟨info, zv, d, h1, h2, h3, h4, h5, h6, h7, h8⟩ := tyOf_some hi
          rw [hd] at h5
          cases d <;> simp only [tyd, reduceCtorEq, TyD.mp.injEq] at h5
          obtain ⟨rfl, rfl⟩ := h5
          obtain ⟨kinfo, kzv, kd, k1, k2, k3, k4, k5, k6, k7, k8⟩ := tyOf_some hkt
          rw [k5] at hok
          have hk := hk.imm_inv
          cases hm with
          | map _ b hr =>
            have hobj := hI.obj q
            unfold ObjOK at hobj
            rw [hG] at hobj
            obtain ⟨b', es, clk, g1, g2, g3, g4, g5, g6, g7, g8⟩ := hobj
            rw [hr] at g1; cases g1
            have hb := (Array.getElem?_eq_some_iff.1 g2).1
            have hown := hI.own q _ b (by rw [hG]; rfl) (by rw [hG]; rfl) hr rfl
            have hws : ∀ o, WS Q w { w with heap := w.heap.setIfInBounds b o } := fun o => ⟨rfl, rfl, rfl, by simp, fun k hk => setIf_other w b k o fun e => hk (e ▸ hown.2)⟩
            have hold : ∀ o k, k ≠ b → ({ w with heap := w.heap.setIfInBounds b o } : World).heap[k]? = w.heap[k]? := fun o k hk => setIf_other w b k o hk
            have hfind := fun r hf => findNow_ok hok hk ks es.toList 0 r (KeysOf.of g3 g5) hf
            split at h
            · rename_i j hf
              cases h
              obtain ⟨f1, f2, f3⟩ := hfind _ hf
              have hj : j < es.size := by have := f1 j rfl; simpa using this
              obtain ⟨x0, hx0, hxe⟩ := f3 j rfl
              have hkey0 := g5 j x0 hx0
              rw [getD_entry es j hj] at hkey0
              have hj2 : es.toList[j]? = some es[j] := by rw [Array.getElem?_toList]; simp [hj]
              simp only [Option.bind_some] at f2
              rw [hj2] at f2
              simp only [Option.map_some, Nat.zero_add] at f2
              have hsb := scalarEq_true hxe hk hkey0 9999
              have hrun : (uNext (Instr.mapUpdate t (.map (some b)) ck cx)).run C.P w = .ok .skip { w with heap := w.heap.setIfInBounds b (.map (es.modify j fun e => { e with key := ck, val := cx }) clk) } := by
                apply run_uNext (u := ())
                simp only [Instr.mapUpdate, Sem.run_bind, run_underlying' h2, Result.andThen_ok]
                simp [getObj, setObj, Sem.run, g2, checkKey_ok k2 hok, Instr.findKey, run_underlying' k2, f2, hj, Instr.keyThatStays, hsb]
              refine good_set hI hr rfl (by rw [hG]; rfl) (by rw [hG]; rfl) (fun _ _ _ _ e => by cases e) (hws _) (hold _) (fun hE => ?_) (fun _ => .undef _) hrun (.inr ⟨rfl, rfl⟩)
              unfold ObjOK
              simp only [upd, if_true]
              refine ⟨b, _, clk, hr, setIf_heap w b _ hb, by simp; exact g3, by simp; exact g4, fun a y hy => ?_, fun a y hy => ?_, (fun h => by cases h), g8.modify j _ fun _ => rfl⟩
              · rw [List.getElem?_set] at hy
                by_cases ha : j = a
                · subst ha
                  rw [if_pos rfl] at hy
                  split at hy
                  · cases hy
                    rw [getD_modify _ _ _ _ hj, if_pos rfl]; exact hk
                  · cases hy
                · rw [if_neg ha] at hy
                  have := (List.getElem?_eq_some_iff.1 hy).1
                  rw [getD_modify _ _ _ _ (by omega), if_neg ha]; exact g5 a y hy
              · rw [List.getElem?_set] at hy
                by_cases ha : j = a
                · subst ha
                  rw [if_pos rfl] at hy
                  split at hy
                  · cases hy
                    rw [getD_modify _ _ _ _ hj, if_pos rfl]; exact hx.mono hE
                  · cases hy
                · rw [if_neg ha] at hy
                  have := (List.getElem?_eq_some_iff.1 hy).1
                  rw [getD_modify _ _ _ _ (by omega), if_neg ha]; exact (g6 a y hy).mono hE
            · rename_i hf
              cases h
              obtain ⟨f1, f2, f3⟩ := hfind _ hf
              simp only [Option.bind_none] at f2
              have hrun : (uNext (Instr.mapUpdate t (.map (some b)) ck cx)).run C.P w = .ok .skip { w with heap := w.heap.setIfInBounds b (.map (es.push { key := ck, val := cx, born := clk }) (clk + 1)) } := by
                apply run_uNext (u := ())
                simp only [Instr.mapUpdate, Sem.run_bind, run_underlying' h2, Result.andThen_ok]
                simp [getObj, setObj, Sem.run, g2, checkKey_ok k2 hok, Instr.findKey, run_underlying' k2, f2]
              refine good_set hI hr rfl (by rw [hG]; rfl) (by rw [hG]; rfl) (fun _ _ _ _ e => by cases e) (hws _) (hold _) (fun hE => ?_) (fun _ => .undef _) hrun (.inr ⟨rfl, rfl⟩)
              unfold ObjOK
              simp only [upd, if_true]
              refine ⟨b, _, clk + 1, hr, setIf_heap w b _ hb, by simp; exact g3, by simp; exact g4, fun a y hy => ?_, fun a y hy => ?_, (fun h => by cases h), g8.push _ _⟩
              · rw [getD_push]
                rw [List.getElem?_append] at hy
                split at hy
                · rw [if_neg (by omega)]; exact g5 a y hy
                · have ha : a = es.size := by
                    have := (List.getElem?_eq_some_iff.1 hy).1; simp at this; omega
                  subst ha
                  rw [if_pos rfl]
                  rw [g3] at hy; simp at hy; subst hy; exact hk
              · rw [getD_push]
                rw [List.getElem?_append] at hy
                split at hy
                · rw [if_neg (by omega)]; exact (g6 a y hy).mono hE
                · have ha : a = es.size := by
                    have := (List.getElem?_eq_some_iff.1 hy).1; simp at this; omega
                  subst ha
                  rw [if_pos rfl]
                  rw [g4] at hy; simp at hy; subst hy; exact hx.mono hE
            · cases h
        · cases h
      · cases h
    · cases h
  · cases h
theorem makeMap_ok {id : Nat} {t : TypeId} (hI : Inv Q w M ρ G nx) (hid : ρ id = none) (hlt : id < nx) :
    Good id Q M ρ G nx w (updL G [(id, .set (.mp [] [] false))]) (.map id) ((vNext (Instr.makeMap t none)).run P w) := by
  have hv : Ev M ρ G M (upd ρ id (some (.map (some w.heap.size)))) (upd G id (.mp [] [] false)) := Ev.new hid
  refine ⟨_, _, _, M, upd ρ id (some (.map (some w.heap.size))), run_vNext (w' := w.alloc (.map #[] 0)) (by simp [Instr.makeMap]), .inl rfl, hv, ?_, .map id w.heap.size (by simp [upd]), WS.alloc hI.new _, MQ.refl _ _, fun o h e => by simp [upd, h, e]⟩
  refine hI.put hlt hv (fun b => ?_) (by simp) ?_ (fun b hb => ?_)
  · rcases Nat.lt_or_ge b w.heap.size with h | h
    · exact .inl (Go.RowKit.Below.heap_alloc w _ b h)
    · exact .inr (.inl h)
  · unfold ObjOK
    simp only [upd, if_true]
    exact ⟨w.heap.size, #[], 0, rfl, heap_alloc_new w _, rfl, rfl, fun i x hx => by simp at hx, fun i x hx => by simp at hx, (fun h => by cases h), by simp [Born]⟩
  · simp [blk] at hb; exact .inl (by omega)
end Go.Abs

/- The abstract interpreter: values as data. -/
namespace Go.Abs
variable {id : Nat}
variable {M M' : Mem} {ρ ρ' : Ref} {G G' : Nat → Obj} {w w' : World} {nx : Nat} {Q : Nat → Prop} {P : Program} {C : Cfg}
theorem peekL_some {f : AV → Option (IV × List Nat)} : ∀ {l : List AV} {xs : List IV} {ids : List Nat}, peekL f l = some (xs, ids) →
    xs.length = l.length ∧ ∀ (i : Nat) v, l[i]? = some v → ∃ x is, f v = some (x, is) ∧ xs[i]? = some x ∧ ∀ o ∈ is, o ∈ ids := by
  intro l
  induction l with
  | nil => intro xs ids h; simp only [peekL, Option.some.injEq, Prod.mk.injEq] at h; obtain ⟨rfl, rfl⟩ := h; exact ⟨rfl, fun i v hv => by simp at hv⟩
  | cons v r ih =>
    intro xs ids h
    simp only [peekL] at h
    split at h
    · rename_i x i hf
      split at h
      · rename_i l ids' hl
        cases h
        obtain ⟨h1, h2⟩ := ih hl
        refine ⟨by simp [h1], fun j u hu => ?_⟩
        cases j with
        | zero => simp at hu; subst hu; exact ⟨x, i, hf, rfl, fun o ho => by simp [ho]⟩
        | succ j =>
          obtain ⟨y, is, g1, g2, g3⟩ := h2 j u (by simpa using hu)
          exact ⟨y, is, g1, by simpa using g2, fun o ho => by simp [g3 o ho]⟩
      · cases h
    · cases h
theorem peek_cells {k : Nat} {y : AV} {z : IV} {ids : List Nat} {n : Nat} (h : peek G k y = some (z, ids)) (hf : y.fits n = true) :
    z.cells.length = n ∧ ∀ (j : Nat) u, z.cells[j]? = some u → ∃ yj is k', y.cells[j]? = some yj ∧ k' ≤ k ∧ peek G k' yj = some (u, is) ∧ ∀ o ∈ is, o ∈ ids := by
  have hn := AV.fits_len hf
  have single : (∀ l, z ≠ .agg l) → y.cells = [y] → z.cells.length = n ∧ ∀ (j : Nat) u, z.cells[j]? = some u → ∃ yj is k', y.cells[j]? = some yj ∧ k' ≤ k ∧ peek G k' yj = some (u, is) ∧ ∀ o ∈ is, o ∈ ids := by
    intro hz hy
    have hzc : z.cells = [z] := by cases z <;> first | rfl | exact absurd rfl (hz _)
    rw [hy] at hn
    rw [hzc]
    refine ⟨hn, fun j u hu => ?_⟩
    cases j with
    | zero => simp at hu; subst hu; exact ⟨y, ids, k, by rw [hy]; rfl, Nat.le_refl _, h, fun o ho => ho⟩
    | succ j => simp at hu
  cases y with
  | imm x =>
    have hx : z = x ∧ ids = [] := by cases k <;> simp [peek] at h <;> exact ⟨h.1.symm, h.2⟩
    obtain ⟨rfl, rfl⟩ := hx
    cases z with
    | agg cs =>
      simp only [AV.cells, List.length_map] at hn
      refine ⟨hn, fun j u hu => ⟨.imm u, [], 0, by simp [AV.cells]; simpa [IV.cells] using hu, Nat.zero_le _, by simp [peek], fun o ho => ho⟩⟩
    | _ => exact single (fun l e => by cases e) rfl
  | agg cs =>
    cases k with
    | zero => simp [peek] at h
    | succ k =>
      simp only [peek] at h
      split at h
      · rename_i l is hl
        cases h
        obtain ⟨h1, h2⟩ := peekL_some hl
        simp only [AV.cells] at hn
        refine ⟨by simp [IV.cells, h1, hn], fun j u hu => ?_⟩
        simp only [IV.cells] at hu
        have hj := (List.getElem?_eq_some_iff.1 hu).1
        have hjc : j < cs.length := by omega
        obtain ⟨x, is', g1, g2, g3⟩ := h2 j cs[j] (List.getElem?_eq_getElem hjc)
        rw [hu] at g2; cases g2
        exact ⟨cs[j], is', k, List.getElem?_eq_getElem hjc, by omega, g1, g3⟩
      · cases h
  | tup cs => have := AV.fits_one hf; simp [AV.cells, AV.one] at this
  | undef => cases k <;> simp [peek] at h
  | rptr => cases k <;> simp [peek] at h
  | yld => cases k <;> simp [peek] at h
  | nils => refine single (fun l e => ?_) rfl; subst e; cases k <;> simp [peek] at h
  | _ =>
    refine single (fun l e => ?_) rfl
    subst e
    cases k with
    | zero => simp [peek] at h
    | succ k =>
      simp only [peek] at h
      repeat (split at h)
      all_goals first | cases h | (simp at h; done)
open Classical in
/-- Memory that doesn't change from now on: that of some objects, too. -/
noncomputable def memOf (w : World) (M : Mem) (ρ : Ref) (ids : List Nat) : Mem := fun b =>
  match M b with
  | some o => some o
  | none => if ∃ o ∈ ids, ∃ v, ρ o = some v ∧ blk v = some b then w.heap[b]? else none
theorem memOf_le (w : World) (M : Mem) (ρ : Ref) (ids : List Nat) : M.le (memOf w M ρ ids) := fun b o h => by simp [memOf, h]
theorem memOf_mem (hm : ∀ b o, M b = some o → w.heap[b]? = some o) {ids : List Nat} {b : Nat} {o : Go.Obj} (h : memOf w M ρ ids b = some o) : w.heap[b]? = some o := by
  unfold memOf at h
  split at h
  · rename_i o' e; cases h; exact hm b o e
  · split at h
    · exact h
    · cases h
theorem memOf_of {ids : List Nat} {o b : Nat} {v : Value} {ob : Go.Obj} (hm : ∀ b o, M b = some o → w.heap[b]? = some o) (ho : o ∈ ids) (hv : ρ o = some v) (hb : blk v = some b) (hh : w.heap[b]? = some ob) : memOf w M ρ ids b = some ob := by
  unfold memOf
  split
  · rename_i o' e; have := hm b o' e; rw [hh] at this; exact this.symm
  · rw [if_pos ⟨o, ho, v, hv, hb⟩]; exact hh
theorem memOf_ne {ids : List Nat} {b : Nat} (h : memOf w M ρ ids b ≠ none) : M b ≠ none ∨ ∃ o ∈ ids, ∃ v, ρ o = some v ∧ blk v = some b := by
  unfold memOf at h
  split at h
  · rename_i o e; left; rw [e]; simp
  · split at h
    · right; assumption
    · exact absurd rfl h
theorem peek_VI (hI : Inv Q w M ρ G nx) {ids : List Nat} : ∀ (k : Nat) (v : AV) (x : IV) (is : List Nat) (c : Value), peek G k v = some (x, is) → (∀ o ∈ is, o ∈ ids) → VA M ρ G v c → VI (memOf w M ρ ids) x c := by
  intro k
  induction k using Nat.strongRecOn with
  | _ k ih =>
  have hle := memOf_le w M ρ ids
  intro v x is c h hin hv
  have list : ∀ (k' : Nat) (l : List AV) (xs : List IV) (is' : List Nat) (vs : Array Value), k' < k → peekL (peek G k') l = some (xs, is') → (∀ o ∈ is', o ∈ ids) → l.length = vs.size → (∀ (i : Nat) x, l[i]? = some x → VA M ρ G x (at_ vs i)) →
      xs.length = vs.size ∧ ∀ (i : Nat) x, xs[i]? = some x → VI (memOf w M ρ ids) x (at_ vs i) := by
    intro k' l xs is' vs hk hp hin' hlen hl
    obtain ⟨h1, h2⟩ := peekL_some hp
    refine ⟨by omega, fun i x hx => ?_⟩
    have hi := (List.getElem?_eq_some_iff.1 hx).1
    obtain ⟨y, is2, g1, g2, g3⟩ := h2 i l[i] (List.getElem?_eq_getElem (by omega))
    rw [hx] at g2; cases g2
    exact ih k' hk _ _ _ _ g1 (fun o ho => hin' o (g3 o ho)) (hl i _ (List.getElem?_eq_getElem (by omega)))
  cases hv with
  | imm y c hy =>
    have : x = y := by cases k <;> simp [peek] at h <;> exact h.1.symm
    subst this; exact hy.mono hle
  | undef => cases k <;> simp [peek] at h
  | nils =>
    have : x = .lst [] := by cases k <;> simp [peek] at h <;> exact h.1.symm
    subst this; exact .nil
  | rptr => cases k <;> simp [peek] at h
  | yld => cases k <;> simp [peek] at h
  | row o n a l cp hb hr =>
    cases k with
    | zero => simp [peek] at h
    | succ k =>
      simp only [peek] at h
      split at h
      · rename_i et sz xs fr hG
        split at h
        · rename_i hn
          split at h
          · rename_i ys is2 hp
            cases h
            have hr := (hr et sz xs fr hG).2 hn.symm
            have hobj := hI.obj o
            unfold ObjOK at hobj
            rw [hG] at hobj
            obtain ⟨h0, v, cs, g1, g2, g3, g4⟩ := hobj
            rw [hr] at g1; cases g1
            obtain ⟨p1, p2⟩ := peekL_some hp
            rcases g2.2 with ⟨g, g'⟩ | ⟨g, cap, cur, g', _, g5, g6, g7, g8, g9⟩
            · cases g
              have : ys = [] := List.eq_nil_of_length_eq_zero (by omega)
              subst this; exact .nil
            · cases g'
              have hlen : ys.length = xs.length := p1
              rcases Nat.eq_zero_or_pos ys.length with hy0 | hy0
              · have : ys = [] := List.eq_nil_of_length_eq_zero hy0
                subst this
                have : xs.length = 0 := by omega
                rw [this]; exact .empty ⟨g, 0, none⟩ cp
              · rw [← hlen]
                obtain ⟨_, _, _, _, cur', q1, q2, q3, q4⟩ := row_block hI hG hr
                have hM := memOf_of (ids := ids) hI.mem (hin o (by simp)) hr rfl q1
                have hel : ∀ (i : Nat) z, ys[i]? = some z → ∃ y is3, xs[i]? = some y ∧ y.fits sz = true ∧ peek G k y = some (z, is3) ∧ ∀ o ∈ is3, o ∈ ids := by
                  intro i z hz
                  have hi := (List.getElem?_eq_some_iff.1 hz).1
                  obtain ⟨z', is3, e1, e2, e3⟩ := p2 i xs[i] (List.getElem?_eq_getElem (by omega))
                  rw [hz] at e2; cases e2
                  exact ⟨_, is3, List.getElem?_eq_getElem (by omega), q3 _ (List.getElem_mem _), e1, fun o ho => hin o (by simp [e3 o ho])⟩
                refine .lst ys g 0 cp cur' et (0, 0) sz (fun e => by subst e; simp at hy0) (by omega) hM h0 (fun i z hz => ?_) ?_ fun i z j u hz hu => ?_
                · obtain ⟨y, is3, e1, e2, e3, e4⟩ := hel i z hz
                  exact (peek_cells e3 e2).1
                · rw [q2, Nat.zero_add]; exact Nat.mul_le_mul_right _ (by omega)
                · obtain ⟨y, is3, e1, e2, e3, e4⟩ := hel i z hz
                  obtain ⟨yj, is4, k', f1, f2, f3, f4⟩ := (peek_cells e3 e2).2 j u hu
                  rw [Nat.zero_add]
                  exact ih k' (by omega) _ _ _ _ f3 (fun o ho => e4 o (f4 o ho)) (q4 i y j yj e1 f1)
          · cases h
        · cases h
      · cases h
  | ptr o off b hr =>
    cases k with
    | zero => simp [peek] at h
    | succ k =>
      simp only [peek] at h
      split at h
      · rename_i cs fr hG
        split at h
        · rename_i l is2 hp
          cases h
          have hobj := hI.obj o
          unfold ObjOK at hobj
          rw [hG] at hobj
          obtain ⟨b', vs, e', g1, g2, g3, g4⟩ := hobj
          rw [hr] at g1; cases g1
          have hM := memOf_of (ids := ids) hI.mem (hin o (by simp)) hr rfl g2
          obtain ⟨q1, q2⟩ := list k cs l is2 vs (by omega) hp (fun o ho => hin o (by simp [ho])) g3.1 g3.2
          have := VI.fptr (M := memOf w M ρ ids) l off b vs e' (0, 0) 0 hM (by omega) (fun j y hy => by rw [Nat.zero_add]; exact q2 j y hy)
          rwa [Nat.zero_add] at this
        · cases h
      · cases h
  | map o b hr =>
    cases k with
    | zero => simp [peek] at h
    | succ k =>
      simp only [peek] at h
      split at h
      · rename_i ks vs fr hG
        split at h
        · rename_i l is2 hp
          cases h
          have hobj := hI.obj o
          unfold ObjOK at hobj
          rw [hG] at hobj
          obtain ⟨b', es, clk, g1, g2, g3, g4, g5, g6, g7, g8⟩ := hobj
          rw [hr] at g1; cases g1
          have hM := memOf_of (ids := ids) hI.mem (hin o (by simp)) hr rfl g2
          obtain ⟨p1, p2⟩ := peekL_some hp
          refine .fmp ks l b es clk hM g3 (by omega) (fun i x hx => (g5 i x hx).mono hle) (fun i x hx => ?_) g8
          have hi := (List.getElem?_eq_some_iff.1 hx).1
          obtain ⟨x', is3, e1, e2, e3⟩ := p2 i vs[i] (List.getElem?_eq_getElem (by omega))
          rw [hx] at e2; cases e2
          exact ih k (by omega) _ _ _ _ e1 (fun o ho => hin o (by simp [e3 o ho])) (g6 i _ (List.getElem?_eq_getElem (by omega)))
        · cases h
      · cases h
  | fn f cap vs h1 h2 =>
    cases k with
    | zero => simp [peek] at h
    | succ k =>
      simp only [peek] at h
      split at h
      · rename_i l is2 hp
        cases h
        obtain ⟨q1, q2⟩ := list k cap l _ vs (by omega) hp hin h1 h2
        exact .fn f l vs q1 q2
      · cases h
  | agg xs vs h1 h2 =>
    cases k with
    | zero => simp [peek] at h
    | succ k =>
      simp only [peek] at h
      split at h
      · rename_i l is2 hp
        cases h
        obtain ⟨q1, q2⟩ := list k xs l _ vs (by omega) hp hin h1 h2
        exact .agg l vs q1 q2
      · cases h
  | tup xs vs h1 h2 =>
    cases k with
    | zero => simp [peek] at h
    | succ k =>
      simp only [peek] at h
      split at h
      · rename_i l is2 hp
        cases h
        obtain ⟨q1, q2⟩ := list k xs l _ vs (by omega) hp hin h1 h2
        exact .tup l vs q1 q2
      · cases h
def _root_.Go.Abs.Obj.data : Obj → Bool
  | .box .. | .row .. | .mp .. => true
  | _ => false
theorem data_live {x : Obj} (h : x.data = true) : x.live = true := by cases x <;> simp_all [Obj.data, Obj.live]
theorem peek_live : ∀ (k : Nat) (v : AV) (x : IV) (is : List Nat), peek G k v = some (x, is) → ∀ o ∈ is, (G o).data = true := by
  intro k
  induction k with
  | zero =>
    intro v x is h
    cases v <;> simp [peek] at h
    · obtain ⟨_, rfl⟩ := h; intro o ho; simp at ho
    · obtain ⟨_, rfl⟩ := h; intro o ho; simp at ho
  | succ k ih =>
    have list : ∀ (l : List AV) (xs : List IV) (is' : List Nat), peekL (peek G k) l = some (xs, is') → ∀ o ∈ is', (G o).data = true := by
      intro l
      induction l with
      | nil => intro xs is' h; simp [peekL] at h; obtain ⟨_, rfl⟩ := h; intro o ho; simp at ho
      | cons v r ihl =>
        intro xs is' h
        simp only [peekL] at h
        split at h
        · rename_i x i hf
          split at h
          · rename_i l' ids' hl
            cases h
            intro o ho
            rcases List.mem_append.1 ho with ho | ho
            · exact ih _ _ _ hf o ho
            · exact ihl _ _ hl o ho
          · cases h
        · cases h
    intro v x is h
    cases v with
    | imm y => simp [peek] at h; obtain ⟨_, rfl⟩ := h; intro o ho; simp at ho
    | nils => simp [peek] at h; obtain ⟨_, rfl⟩ := h; intro o ho; simp at ho
    | undef => simp [peek] at h
    | rptr => simp [peek] at h
    | yld => simp [peek] at h
    | row q n =>
      simp only [peek] at h
      split at h
      · rename_i hG
        split at h
        · split at h
          · rename_i hp
            cases h
            intro o ho
            rcases List.mem_cons.1 ho with rfl | ho
            · rw [hG]; rfl
            · exact list _ _ _ hp o ho
          · cases h
        · cases h
      · cases h
    | map q =>
      simp only [peek] at h
      split at h
      · rename_i hG
        split at h
        · rename_i hp
          cases h
          intro o ho
          rcases List.mem_cons.1 ho with rfl | ho
          · rw [hG]; rfl
          · exact list _ _ _ hp o ho
        · cases h
      · cases h
    | ptr q off =>
      simp only [peek] at h
      split at h
      · rename_i hG
        split at h
        · rename_i hp
          cases h
          intro o ho
          rcases List.mem_cons.1 ho with rfl | ho
          · rw [hG]; rfl
          · exact list _ _ _ hp o ho
        · cases h
      · cases h
    | fn f cap =>
      simp only [peek] at h
      split at h
      · rename_i hp; cases h; exact list _ _ _ hp
      · cases h
    | agg cs =>
      simp only [peek] at h
      split at h
      · rename_i hp; cases h; exact list _ _ _ hp
      · cases h
    | tup cs =>
      simp only [peek] at h
      split at h
      · rename_i hp; cases h; exact list _ _ _ hp
      · cases h
/-! ### freezing -/
theorem freeze_freeze (x : Obj) : x.freeze.freeze = x.freeze := by cases x <;> rfl
theorem freeze_live (x : Obj) : x.freeze.live = x.live := by cases x <;> rfl
theorem updL_frz (ids : List Nat) : ∀ (G : Nat → Obj) (o : Nat), updL G (frz ids) o = if o ∈ ids then (G o).freeze else G o := by
  induction ids with
  | nil => intro G o; simp [frz, updL]
  | cons i r ih =>
    intro G o
    have : updL G (frz (i :: r)) = updL (upd G i (G i).freeze) (frz r) := rfl
    rw [this, ih]
    by_cases h : o = i
    · subst h
      simp [upd, freeze_freeze]
    · by_cases h2 : o ∈ r <;> simp [upd, h, h2]
theorem updL_append (G : Nat → Obj) (a b : List (Nat × U)) : updL G (a ++ b) = updL (updL G a) b := by
  induction a generalizing G with
  | nil => rfl
  | cons x r ih => obtain ⟨o, u⟩ := x; exact ih _
theorem Ev.frz (w : World) (M : Mem) (ρ : Ref) (G : Nat → Obj) (ids : List Nat) : Ev M ρ G (memOf w M ρ ids) ρ (updL G (frz ids)) := by
  refine ⟨memOf_le w M ρ ids, fun o v h => .inl h, fun o hb et sz xs fr h => ?_⟩
  rw [updL_frz] at h
  split at h
  · cases e : G o <;> rw [e] at h <;> simp only [Obj.freeze, reduceCtorEq, Obj.row.injEq] at h
    obtain ⟨rfl, rfl, rfl, rfl⟩ := h
    exact ⟨_, _, rfl, Nat.le_refl _, fun _ => rfl⟩
  · exact ⟨xs, fr, h, Nat.le_refl _, fun _ => rfl⟩
theorem Inv.frz (hI : Inv Q w M ρ G nx) {ids : List Nat} (hl : ∀ o ∈ ids, (G o).data = true) : Inv Q w (memOf w M ρ ids) ρ (updL G (frz ids)) nx := by
  have hE := Ev.frz w M ρ G ids
  have hlive : ∀ o, (updL G (Go.Abs.frz ids) o).live = (G o).live := fun o => by rw [updL_frz]; split <;> simp [freeze_live]
  refine ⟨fun b o h => memOf_mem hI.mem h, fun o => ?_, hI.free, fun o ho => ?_, fun o o' v v' b h1 h2 => hI.sep o o' v v' b (by rw [hlive] at h1; exact h1) (by rw [hlive] at h2; exact h2), fun o v b h1 h2 h3 h4 => ?_, hI.new⟩
  · by_cases ho : o ∈ ids
    · have hobj := hI.obj o
      unfold ObjOK at *
      rw [updL_frz, if_pos ho]
      cases e : G o with
      | gone => trivial
      | box cs fr =>
        rw [e] at hobj
        obtain ⟨b, vs, e', g1, g2, g3, g4⟩ := hobj
        exact ⟨b, vs, e', g1, g2, g3.imp fun _ _ => VA.mono hE, fun _ => by rw [memOf_of hI.mem ho g1 rfl g2]; simp⟩
      | row et sz xs fr =>
        rw [e] at hobj
        obtain ⟨h0, v, cs, g1, g2, g3, g4⟩ := hobj
        refine ⟨h0, v, cs, g1, g2, g3.mono hE, fun _ b hb => ?_⟩
        rcases g2.2 with ⟨rfl, _⟩ | ⟨g, cap, cur, rfl, _, g5, _⟩
        · simp [blk] at hb
        · simp [blk] at hb; subst hb; rw [memOf_of hI.mem ho g1 rfl g5]; simp
      | mp ks vs fr =>
        rw [e] at hobj
        obtain ⟨b, es, clk, g1, g2, g3, g4, g5, g6, g7, g8⟩ := hobj
        exact ⟨b, es, clk, g1, g2, g3, g4, fun i x hx => (g5 i x hx).mono hE.mem, fun i x hx => (g6 i x hx).mono hE, (fun _ => by rw [memOf_of hI.mem ho g1 rfl g2]; simp), g8⟩
      | it ks vs done => have := hl o ho; rw [e] at this; cases this
      | lp tmps nt params assign body fn st pending =>
        rw [e] at hobj
        obtain ⟨l, r, g1, g2, g3⟩ := hobj
        exact ⟨l, r, g1, g2, { g3 with tmps := fun t => (g3.tmps t).mono hE }⟩
    · exact (hI.obj o).mono (by rw [updL_frz, if_neg ho]) rfl hE fun _ _ _ _ => rfl
  · rw [updL_frz, hI.gone o ho]; split <;> rfl
  · have hnin : o ∉ ids := by
      intro ho
      rw [updL_frz, if_pos ho] at h2
      have hd := hl o ho
      cases e : G o <;> rw [e] at hd h2 <;> simp [Obj.freeze, Obj.frozen, Obj.data] at hd h2
    rw [updL_frz, if_neg hnin] at h1 h2
    obtain ⟨g1, g2⟩ := hI.own o v b h1 h2 h3 h4
    refine ⟨?_, g2⟩
    cases e : memOf w M ρ ids b with
    | none => rfl
    | some x =>
      rcases memOf_ne (by rw [e]; simp) with h | ⟨o', ho', v', hv', hb'⟩
      · exact absurd g1 h
      · exact absurd (hI.sep o o' v v' b h1 (data_live (hl o' ho')) h3 hv' h4 hb') (fun e => hnin (e ▸ ho'))
theorem MQ.memOf (hI : Inv Q w M ρ G nx) {ids : List Nat} (hl : ∀ o ∈ ids, (G o).data = true) : MQ Q M (Go.Abs.memOf w M ρ ids) := by
  intro b hb
  rcases memOf_ne hb with h | ⟨o, ho, v, hv, hb'⟩
  · exact .inl h
  · by_cases hfr : (G o).frozen = true
    · left
      have hobj := hI.obj o
      unfold ObjOK at hobj
      cases e : G o with
      | gone => rw [e] at hfr; cases hfr
      | box cs fr =>
        rw [e] at hobj hfr
        obtain ⟨b', vs, e', g1, g2, g3, g4⟩ := hobj
        rw [hv] at g1; cases g1
        simp [blk] at hb'; subst hb'
        exact g4 hfr
      | row et sz xs fr =>
        rw [e] at hobj hfr
        obtain ⟨h0, v', cs, g1, g2, g3, g4⟩ := hobj
        rw [hv] at g1; cases g1
        exact g4 hfr b hb'
      | mp ks vs fr =>
        rw [e] at hobj hfr
        obtain ⟨b', es, clk, g1, g2, g3, g4, g5, g6, g7, g8⟩ := hobj
        rw [hv] at g1; cases g1
        simp [blk] at hb'; subst hb'
        exact g7 hfr
      | it => rw [e] at hfr; cases hfr
      | lp => rw [e] at hfr; cases hfr
    · exact .inr (hI.own o v b (data_live (hl o ho)) (by simpa using hfr) hv hb').2
theorem good_give {ids : List Nat} {small : Bool} {x : IV} {c : Value} {v' : AV} {ups : List (Nat × U)} {r : Result Next} (hI : Inv Q w M ρ G nx) (hl : ∀ o ∈ ids, (G o).data = true)
    (hg : give ids small (.imm x) = .val v' ups) (hs : small = true → x.scalar = true) (hx : VI (memOf w M ρ ids) x c) (hr : r = .ok (.value c) w) : Good id Q M ρ G nx w (updL G ups) v' r := by
  unfold give at hg
  split at hg
  · rename_i h
    cases hg
    exact Good.pure hI hr (.imm _ _ (hx.any (hs h) M))
  · cases hg
    exact ⟨_, c, w, memOf w M ρ ids, ρ, hr, .inl rfl, Ev.frz w M ρ G ids, hI.frz hl, .imm _ _ hx, WS.refl _ _, MQ.memOf hI hl, fun _ _ e => e⟩
end Go.Abs
